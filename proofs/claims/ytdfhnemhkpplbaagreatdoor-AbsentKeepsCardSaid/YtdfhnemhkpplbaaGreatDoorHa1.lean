/- The verification-condition framework, part A: symbolic states and what they mean. Program-free. -/
import Derived.WalkKit
import Derived.Below
import Derived.Maps.AppendAt
import Derived.Maps.Views
import Derived.Lib.SlKeysI
import Derived.OwnWalkIn
import Derived.RangeFuncNested
import Derived.RangeFuncLeaves
import Derived.RangeFuncCalls
import Derived.OrdersIn
import Derived.Laws.CopyRow
import Derived.Great.BuildSlice
set_option linter.unusedVariables false
set_option linter.unusedSimpArgs false
namespace Go.V
open Go Go.RowKit
abbrev Mem := Nat → Option Obj
def Mem.cell (M : Mem) (a : Addr) : Option Value :=
 match M a.block with
 | some (.cells c _ _) => if a.spot.isSome then none else c[a.off]?
 | _ => none
def Mem.ok (M : Mem) (W : World) : Prop := ∀ b o, M b = some o → W.heap[b]? = some o
def Mem.le (M M' : Mem) : Prop := ∀ b o, M b = some o → M' b = some o
theorem Mem.le_refl (M : Mem) : M.le M := fun _ _ h => h
theorem Mem.le.trans {A B C : Mem} (h : A.le B) (k : B.le C) : A.le C := fun b o x => k b o (h b o x)
theorem Mem.cell_le {M M' : Mem} (h : M.le M') {a : Addr} {v : Value} (hc : M.cell a = some v) : M'.cell a = some v := by
 unfold Mem.cell at *
 cases hb : M a.block with
 | none => simp [hb] at hc
 | some o => rw [h _ _ hb]; rw [hb] at hc; exact hc
theorem Mem.cell_ok {M : Mem} {W : World} (h : M.ok W) {a : Addr} {v : Value} (hc : M.cell a = some v) : W.cell? a = some v := by
 unfold Mem.cell World.cell? at *
 cases hb : M a.block with
 | none => simp [hb] at hc
 | some o =>
  rw [h _ _ hb]; rw [hb] at hc
  cases o <;> first | exact hc | cases hc
inductive At where
 | v (x : Value)
 | box (id off : Nat)
 | row (id : Nat)
inductive SV where
 | v (x : Value)
 | box (id off : Nat)
 | row (id : Nat)
 | clo (f : Nat) (fst cap : List At)
 | tup (l : List At)
abbrev Env := Nat → Value
def blkOf : Value → Nat
 | .pointer (some a) => a.block
 | .slice (some a) _ _ => a.block
 | _ => 0
def ob : Value → Option Nat
 | .pointer (some a) => some a.block
 | .slice (some a) _ _ => some a.block
 | .map b => b
 | _ => none
def slOf : Value → Value
 | .slice a n c => .slice a n c
 | .tuple a => match a.toList with
  | [.slice a n c] => .slice a n c
  | _ => .slice none 0 0
 | _ => .slice none 0 0
theorem slOf_is (v : Value) : ∃ a n c, slOf v = .slice a n c := by
 cases v <;> try exact ⟨_, _, _, rfl⟩
 rename_i vs
 simp only [slOf]
 split <;> exact ⟨_, _, _, rfl⟩
def At.den (ρ : Env) : At → Value
 | .v x => x
 | .box id off => .pointer (some ⟨blkOf (ρ id), off, none⟩)
 | .row id => slOf (ρ id)
def At.sc (nx : Nat) : At → Prop
 | .v _ => True
 | .box id _ => id < nx
 | .row id => id < nx
def SV.den (ρ : Env) : SV → Value
 | .v x => x
 | .box id off => .pointer (some ⟨blkOf (ρ id), off, none⟩)
 | .row id => slOf (ρ id)
 | .clo f fst cap => .func (.func f) (fst.map (At.den ρ)).toArray (cap.map (At.den ρ)).toArray
 | .tup l => .tuple (l.map (At.den ρ)).toArray
def SV.sc (nx : Nat) : SV → Prop
 | .v _ => True
 | .box id _ => id < nx
 | .row id => id < nx
 | .clo _ fst cap => (∀ a ∈ fst, a.sc nx) ∧ ∀ a ∈ cap, a.sc nx
 | .tup l => ∀ a ∈ l, a.sc nx
def Agree (nx : Nat) (ρ ρ' : Env) : Prop := ∀ i, i < nx → ρ' i = ρ i
theorem Agree.refl (nx : Nat) (ρ : Env) : Agree nx ρ ρ := fun _ _ => rfl
theorem At.den_agree {nx : Nat} {ρ ρ' : Env} (h : Agree nx ρ ρ') {a : At} (hs : a.sc nx) : a.den ρ' = a.den ρ := by
 cases a with
 | v x => rfl
 | box id off => simp only [At.sc] at hs; simp [At.den, h _ hs]
 | row id => simp only [At.sc] at hs; simp [At.den, h _ hs]
theorem At.den_agree_list {nx : Nat} {ρ ρ' : Env} (h : Agree nx ρ ρ') {l : List At} (hs : ∀ a ∈ l, a.sc nx) : l.map (At.den ρ') = l.map (At.den ρ) :=
 List.map_congr_left fun a ha => At.den_agree h (hs a ha)
theorem SV.den_agree {nx : Nat} {ρ ρ' : Env} (h : Agree nx ρ ρ') {s : SV} (hs : s.sc nx) : s.den ρ' = s.den ρ := by
 cases s with
 | v x => rfl
 | box id off => simp only [SV.sc] at hs; simp [SV.den, h _ hs]
 | row id => simp only [SV.sc] at hs; simp [SV.den, h _ hs]
 | clo f fst cap => simp only [SV.sc] at hs; simp [SV.den, At.den_agree_list h hs.1, At.den_agree_list h hs.2]
 | tup l => simp only [SV.sc] at hs; simp [SV.den, At.den_agree_list h hs]
theorem At.sc_mono {n m : Nat} (hnm : n ≤ m) {a : At} (h : a.sc n) : a.sc m := by
 cases a <;> simp only [At.sc] at * <;> omega
theorem SV.sc_mono {n m : Nat} (hnm : n ≤ m) {s : SV} (h : s.sc n) : s.sc m := by
 cases s with
 | v x => trivial
 | box id off => simp only [SV.sc] at *; omega
 | row id => simp only [SV.sc] at *; omega
 | clo f fst cap => exact ⟨fun a ha => At.sc_mono hnm (h.1 a ha), fun a ha => At.sc_mono hnm (h.2 a ha)⟩
 | tup l => exact fun a ha => At.sc_mono hnm (h a ha)
inductive OE where
 | box (t : TypeId) (cs : List SV)
 | row (E sz n : Nat) (xs : List Value)
 | gh (tag : Nat) (v : Value) (s : SV)
 | vw (sz b k n : Nat)
 | mp (P : Program) (t k e : TypeId) (B : Nat) (ks : List Int)
 | nw (B : Nat)
def OE.sc (nx : Nat) : OE → Prop
 | .box _ cs => ∀ s ∈ cs, s.sc nx
 | .row .. => True
 | .gh _ _ s => s.sc nx
 | .vw _ b _ _ => b < nx
 | .mp .. => True
 | .nw _ => True
theorem OE.sc_mono {n m : Nat} (hnm : n ≤ m) {e : OE} (h : e.sc n) : e.sc m := by
 cases e with
 | box t cs => exact fun s hs => SV.sc_mono hnm (h s hs)
 | row => trivial
 | gh _ _ s => exact SV.sc_mono hnm (s := s) h
 | vw => exact Nat.lt_of_lt_of_le h hnm
 | mp => trivial
 | nw => trivial
def look {α : Type} : List (Nat × α) → Nat → Option α
 | [], _ => none
 | (k, x) :: r, d => bif Nat.beq d k then some x else look r d
theorem look_cons {α : Type} (k : Nat) (x : α) (r : List (Nat × α)) (d : Nat) : look ((k, x) :: r) d = if d = k then some x else look r d := by
 show (bif Nat.beq d k then some x else look r d) = _
 by_cases h : d = k
 ·simp [h]
 ·have : Nat.beq d k = false := by
   cases hb : Nat.beq d k with
   | false => rfl
   | true => exact absurd (Nat.eq_of_beq_eq_true hb) h
  simp [this, h]
structure Lx where
 T : Mem → Bool → Mem → Prop
 R : List Value → List Value → Mem → Prop
structure Lp where
 id : Nat
 T : Option Lx
instance : Coe Nat Lp := ⟨fun l => ⟨l, none⟩⟩
def Lp.turn (L : Lp) (M : Mem) (b : Bool) (M' : Mem) : Prop :=
 match L.T with
 | none => M' = M
 | some X => X.T M b M'
def Lp.says (L : Lp) (tag args : List Value) (M : Mem) : Prop :=
 match L.T with
 | none => args = tag
 | some X => X.R tag args M
structure Gh where
 m : Mem
 Y : Option (Lp × List (List Value))
 f : Mem
def Gh.le (G G' : Gh) : Prop := (G.m.le G'.m ∧ G'.f = G.f) ∧ G'.Y = G.Y
def Gh.lq (G G' : Gh) : Prop := G.m.le G'.m ∧ G'.f = G.f
theorem Gh.lq_refl (G : Gh) : G.lq G := ⟨Mem.le_refl _, rfl⟩
theorem Gh.lq.trans {A B C : Gh} (h : A.lq B) (k : B.lq C) : A.lq C := ⟨h.1.trans k.1, k.2.trans h.2⟩
theorem Gh.le_refl (G : Gh) : G.le G := ⟨⟨Mem.le_refl _, rfl⟩, rfl⟩
structure St where
 sl : List (Nat × SV)
 ow : List (Nat × Option OE)
 nx : Nat
 M : Mem
 nt : Nat
 G : Gh
def St.own (st : St) (id : Nat) : Option OE :=
 match look st.ow id with
 | some (some e) => some e
 | _ => none
def MapSays (D : DataW Unit) (ks : List Int) : Prop := Maps.IsMap D ∧ ∀ x : Int, D.atKey (.int .i64 x) (.lit (.bool false)) = .lit (.bool (decide (x ∈ ks))) ∧ Maps.has D (.int .i64 x) = decide (x ∈ ks)
def MapOK (W : World) (P : Program) (t k e : TypeId) (B : Nat) (ks : List Int) : Prop :=
 (P.underlying t = some (.map k e) ∧ P.underlying k = some (.int .i64) ∧ P.underlying e = some .bool ∧ (P.info? e).bind (·.zero) = some (.bool false)) ∧ ∃ D : DataW Unit, W.ownsMap P k (plainElem P e) B ks.length D ∧ MapSays D ks
def isHeld : Obj → Bool
 | .cells .. => true
 | .map .. => true
 | _ => false
def OwnOK (n₀ : Nat) (ρ : Env) (W : World) (id : Nat) : OE → Prop
 | .box t cs => ∃ B, ρ id = .pointer (some ⟨B, 0, none⟩) ∧ n₀ ≤ B ∧ W.heap[B]? = some (.cells (cs.map (SV.den ρ)).toArray t (0, 0))
 | .row E sz n xs => W.ownsRow n₀ E sz (ρ id) n xs ∧ (∀ x ∈ xs, x.oneCell' = true)
 | .gh _ v s => ob (ρ id) = none ∧ s.den ρ = v
 | .vw sz b k n => ob (ρ id) = none ∧ ∃ B m cb c, ρ b = .slice (some ⟨B, 0, none⟩) m cb ∧ slOf (ρ id) = .slice (some ⟨B, k * sz, none⟩) n c
 | .mp P t k e B ks => ρ id = .map (some B) ∧ n₀ ≤ B ∧ MapOK W P t k e B ks
 | .nw B => ob (ρ id) = none ∧ n₀ ≤ B
structure SatH (n₀ : Nat) (w : World) (M₀ : Mem) (ρ : Env) (st : St) (W : World) : Prop where
 below : Below n₀ w W
 size : n₀ ≤ W.heap.size
 mem : st.M.ok W
 own : ∀ id e, st.own id = some e → id < st.nx ∧ e.sc st.nx ∧ OwnOK n₀ ρ W id e
 sep : ∀ i j ei ej, st.own i = some ei → st.own j = some ej → i ≠ j → ∀ b, ob (ρ i) = some b → ob (ρ j) ≠ some b
 msep : ∀ i e b, st.own i = some e → ob (ρ i) = some b → st.M b = none
 pin : ∀ b o, st.G.m b = some o → isHeld o = false ∧ W.heap[b]? = some o ∧ st.M b = none
 mlow : ∀ b, b < n₀ → st.M b = M₀ b
 fpin : ∀ b o, st.G.f b = some o → W.heap[b]? = some o ∧ ∀ i e, st.own i = some e → ob (ρ i) ≠ some b
def Marks (n₀ : Nat) (G : Mem) : List Deferred → Prop
 | [] => True
 | d :: ds => (∃ D, d = { target := .collected D, args := #[] } ∧ G D = some (.deferred (some [])) ∧ n₀ ≤ D ∧ ∀ d' ∈ ds, d'.target = .collected D → False) ∧ Marks n₀ G ds
structure Sat (n₀ : Nat) (w : World) (M₀ : Mem) (ρ : Env) (st : St) (a : Act) (W : World) : Prop where
 h : SatH n₀ w M₀ ρ st W
 nt : a.tmps.size = st.nt
 sl : ∀ d s, look st.sl d = some s → d < st.nt ∧ s.sc st.nx ∧ a.tmps[d]? = some (s.den ρ)
 marks : Marks n₀ st.G.m a.defers
theorem OwnOK.lt {n₀ : Nat} {ρ : Env} {W : World} {id : Nat} {e : OE} (h : OwnOK n₀ ρ W id e) : ∀ b, ob (ρ id) = some b → n₀ ≤ b ∧ b < W.heap.size ∧ ∃ o, W.heap[b]? = some o ∧ isHeld o = true := by
 intro b hb
 cases e with
 | box t cs =>
  obtain ⟨B, hr, hn, hh⟩ := h
  simp [hr, ob] at hb
  subst hb
  exact ⟨hn, (Array.getElem?_eq_some_iff.1 hh).1, _, hh, rfl⟩
 | row E sz n xs =>
  obtain ⟨⟨_, h2⟩, _⟩ := h
  rcases h2 with ⟨hv, _⟩ | ⟨g, cap, cur, hv, hg, hh, _⟩
  ·simp [hv, ob] at hb
  ·simp [hv, ob] at hb
   subst hb
   exact ⟨hg, (Array.getElem?_eq_some_iff.1 hh).1, _, hh, rfl⟩
 | gh tag v s => rw [h.1] at hb; cases hb
 | vw => rw [h.1] at hb; cases hb
 | mp P t k e B ks =>
  obtain ⟨h1, h2, _, D, ⟨es, clock, hh, _⟩, _⟩ := h
  rw [h1] at hb
  simp only [ob, Option.some.injEq] at hb
  subst hb
  exact ⟨h2, (Array.getElem?_eq_some_iff.1 hh).1, _, hh, rfl⟩
 | nw => rw [h.1] at hb; cases hb
theorem OwnOK.keep {n₀ nx : Nat} {ρ ρ' : Env} {W W' : World} {id : Nat} {e : OE} (h : OwnOK n₀ ρ W id e) (hag : Agree nx ρ ρ') (hid : id < nx) (hsc : e.sc nx)
  (hk : ∀ b, ob (ρ id) = some b → W'.heap[b]? = W.heap[b]?) : OwnOK n₀ ρ' W' id e := by
 have hr := hag id hid
 cases e with
 | box t cs =>
  obtain ⟨B, h1, hn, hh⟩ := h
  refine ⟨B, hr.trans h1, hn, ?_⟩
  rw [hk B (by simp [h1, ob]), hh]
  have : cs.map (SV.den ρ') = cs.map (SV.den ρ) := List.map_congr_left fun s hs => SV.den_agree hag (hsc s hs)
  rw [this]
 | row E sz n xs =>
  obtain ⟨⟨h1, h2⟩, hc⟩ := h
  refine ⟨⟨h1, ?_⟩, hc⟩
  rw [hr]
  rcases h2 with h2 | ⟨g, cap, cur, hv, hg, hh, r⟩
  ·exact .inl h2
  ·exact .inr ⟨g, cap, cur, hv, hg, (hk g (by simp [hv, ob])).trans hh, r⟩
 | gh tag v s => exact ⟨by rw [hr]; exact h.1, (SV.den_agree hag hsc).trans h.2⟩
 | vw sz b k n =>
  obtain ⟨h1, B, m, cb, c, h2, h3⟩ := h
  exact ⟨by rw [hr]; exact h1, B, m, cb, c, (hag b hsc).trans h2, by rw [hr]; exact h3⟩
 | mp P t k e B ks =>
  obtain ⟨h1, h2, h3, D, ⟨es, clock, hh, h4⟩, h5⟩ := h
  exact ⟨hr.trans h1, h2, h3, D, ⟨es, clock, (hk B (by rw [h1]; rfl)).trans hh, h4⟩, h5⟩
 | nw B => exact ⟨by rw [hr]; exact h.1, h.2⟩
theorem SatH.grow {n₀ : Nat} {w : World} {M₀ : Mem} {ρ : Env} {st : St} {W W' : World} (h : SatH n₀ w M₀ ρ st W) (hb : Below W.heap.size W W') {M' : Mem} (hM : M'.ok W')
  (hnew : ∀ b, b < W.heap.size → M' b = st.M b) : SatH n₀ w M₀ ρ { st with M := M' } W' where
 below := h.below.trans (hb.mono h.size)
 size := Nat.le_trans h.size hb.size
 mem := hM
 own := fun id e he => by
  obtain ⟨h1, h2, h3⟩ := h.own id e he
  exact ⟨h1, h2, h3.keep (Agree.refl st.nx ρ) h1 h2 fun b hbb => hb.block b (h3.lt b hbb).2.1⟩
 sep := h.sep
 msep := fun i e b hi hbb => by
  have := (h.own i e hi).2.2.lt b hbb
  show M' b = none
  rw [hnew b this.2.1]
  exact h.msep i e b hi hbb
 pin := fun b o hb' => by
  obtain ⟨h1, h2, h3⟩ := h.pin b o hb'
  have hlt := (Array.getElem?_eq_some_iff.1 h2).1
  exact ⟨h1, (hb.block b hlt).trans h2, (hnew b hlt).trans h3⟩
 mlow := fun b hb' => (hnew b (Nat.lt_of_lt_of_le hb' h.size)).trans (h.mlow b hb')
 fpin := fun b o hb' => by
  obtain ⟨h2, h3⟩ := h.fpin b o hb'
  have hlt := (Array.getElem?_eq_some_iff.1 h2).1
  exact ⟨(hb.block b hlt).trans h2, h3⟩
theorem Sat.grow {n₀ : Nat} {w : World} {M₀ : Mem} {ρ : Env} {st : St} {a : Act} {W W' : World} (h : Sat n₀ w M₀ ρ st a W) (hb : Below W.heap.size W W') {M' : Mem} (hM : M'.ok W')
  (hnew : ∀ b, b < W.heap.size → M' b = st.M b) : Sat n₀ w M₀ ρ { st with M := M' } a W' :=
 ⟨h.h.grow hb hM hnew, h.nt, h.sl, h.marks⟩
theorem SatH.same {n₀ : Nat} {w : World} {M₀ : Mem} {ρ : Env} {st st' : St} {W : World} (h : SatH n₀ w M₀ ρ st W) (h1 : st'.ow = st.ow) (h2 : st'.nx = st.nx) (h3 : st'.M = st.M) (h4 : st'.G = st.G) : SatH n₀ w M₀ ρ st' W := by
 cases st; cases st'; simp only at h1 h2 h3 h4; subst h1; subst h2; subst h3; subst h4
 exact ⟨h.below, h.size, h.mem, h.own, h.sep, h.msep, h.pin, h.mlow, h.fpin⟩
def St.put (st : St) (d : Option Tmp) (s : SV) : St :=
 match d with
 | some d => { st with sl := (d, s) :: st.sl }
 | none => st
theorem Sat.put {n₀ : Nat} {w : World} {M₀ : Mem} {ρ : Env} {st : St} {a : Act} {W : World} (h : Sat n₀ w M₀ ρ st a W) (d : Option Tmp) (s : SV) (hs : s.sc st.nx)
  (hd : ∀ t, d = some t → t < st.nt) : Sat n₀ w M₀ ρ (st.put d s) (a.put d (s.den ρ)) W := by
 cases d with
 | none => exact h
 | some d =>
  refine ⟨h.h.same rfl rfl rfl rfl, by simp [Act.put, St.put, h.nt], ?_, h.marks⟩
  intro e u hu
  simp only [St.put, look_cons] at hu
  have hdn := hd d rfl
  split at hu
  ·rename_i he
   obtain rfl := Option.some.inj hu
   subst he
   refine ⟨hdn, hs, ?_⟩
   simp only [Act.put]
   rw [Array.getElem?_setIfInBounds_self_of_lt (by rw [h.nt]; exact hdn)]
  ·rename_i he
   obtain ⟨h1, h2, h3⟩ := h.sl e u hu
   refine ⟨h1, h2, ?_⟩
   simp only [Act.put]
   rw [Array.getElem?_setIfInBounds_ne (fun x => he x.symm)]
   exact h3
end Go.V
namespace Go.V
open Go Go.RowKit
def upd (ρ : Env) (i : Nat) (v : Value) : Env := fun j => if j = i then v else ρ j
theorem upd_same (ρ : Env) (i : Nat) (v : Value) : upd ρ i v i = v := by simp [upd]
theorem agree_upd (ρ : Env) (nx : Nat) (v : Value) : Agree nx ρ (upd ρ nx v) := fun i hi => by simp [upd]; omega
theorem Sat.env {n₀ : Nat} {w : World} {M₀ : Mem} {ρ ρ' : Env} {st st' : St} {a : Act} {W W' : World} (h : Sat n₀ w M₀ ρ st a W) (hH : SatH n₀ w M₀ ρ' st' W') (hag : Agree st.nx ρ ρ')
  (hnx : st.nx ≤ st'.nx) (hsl : st'.sl = st.sl) (hnt : st'.nt = st.nt) (hG : st'.G = st.G) : Sat n₀ w M₀ ρ' st' a W' where
 h := hH
 nt := by rw [h.nt, hnt]
 sl := fun d s hd => by
  rw [hsl] at hd
  obtain ⟨h1, h2, h3⟩ := h.sl d s hd
  exact ⟨by rw [hnt]; exact h1, SV.sc_mono hnx h2, by rw [h3, SV.den_agree hag h2]⟩
 marks := by rw [hG]; exact h.marks
theorem own_cons (st : St) (id : Nat) (e : Option OE) (j : Nat) : St.own { st with ow := (id, e) :: st.ow } j = if j = id then e else st.own j := by
 unfold St.own
 simp only [look_cons]
 by_cases h : j = id
 ·simp [h]; cases e <;> rfl
 ·simp [h]
def St.add (st : St) (e : OE) : St := { st with ow := (st.nx, some e) :: st.ow, nx := st.nx + 1 }
theorem own_add (st : St) (e : OE) (j : Nat) : (st.add e).own j = if j = st.nx then some e else st.own j := by
 unfold St.add
 unfold St.own
 simp only [look_cons]
 by_cases h : j = st.nx
 ·simp [h]
 ·simp [h]
def St.addK (st : St) (e : OE) (k : St → Nat → Prop) : Prop :=
 match st with
 | ⟨sl, ow, nx, M, nt, G⟩ => k ⟨sl, (nx, some e) :: ow, nx + 1, M, nt, G⟩ nx
theorem addK_iff {st : St} {e : OE} {k : St → Nat → Prop} (h : st.addK e k) : k (st.add e) st.nx := by cases st; exact h
def St.memK (st : St) (M' : Mem) (k : St → Prop) : Prop :=
 match st with
 | ⟨sl, ow, nx, _, nt, G⟩ => k ⟨sl, ow, nx, M', nt, G⟩
theorem memK_iff {st : St} {M' : Mem} {k : St → Prop} (h : st.memK M' k) : k { st with M := M' } := by cases st; exact h
def St.withM (st : St) (k : Mem → Prop) : Prop :=
 match st with
 | ⟨_, _, _, M, _, _⟩ => k M
theorem withM_iff {st : St} {k : Mem → Prop} (h : st.withM k) : k st.M := by cases st; exact h
theorem SatH.add {n₀ : Nat} {w : World} {M₀ : Mem} {ρ : Env} {st : St} {W W' : World} (h : SatH n₀ w M₀ ρ st W) (e : OE) (v : Value) (hb : Below W.heap.size W W') (hsc : e.sc st.nx)
  (hown : OwnOK n₀ (upd ρ st.nx v) W' st.nx e) (hob : ∀ b, ob v = some b → W.heap.size ≤ b) : SatH n₀ w M₀ (upd ρ st.nx v) (st.add e) W' where
 below := h.below.trans (hb.mono h.size)
 size := Nat.le_trans h.size hb.size
 mem := fun b o hm => by
  have := h.mem b o hm
  rw [hb.block b (Array.getElem?_eq_some_iff.1 this).1]; exact this
 own := fun id e' he => by
  rw [own_add] at he
  split at he
  ·rename_i hid
   obtain rfl := Option.some.inj he
   subst hid
   exact ⟨by simp [St.add], e.sc_mono (by simp [St.add]) hsc, hown⟩
  ·obtain ⟨h1, h2, h3⟩ := h.own id e' he
   exact ⟨by simp [St.add]; omega, e'.sc_mono (by simp [St.add]) h2, h3.keep (agree_upd ρ st.nx v) h1 h2 fun b hbb => hb.block b (h3.lt b hbb).2.1⟩
 sep := fun i j ei ej hi hj hij b hbi hbj => by
  rw [own_add] at hi hj
  have lt : ∀ k ek, st.own k = some ek → ∀ b, ob (upd ρ st.nx v k) = some b → b < W.heap.size := fun k ek hk b hb' => by
   obtain ⟨h1, _, h3⟩ := h.own k ek hk
   rw [agree_upd ρ st.nx v k h1] at hb'
   exact (h3.lt b hb').2.1
  by_cases h1 : i = st.nx
  ·by_cases h2 : j = st.nx
   ·omega
   ·simp only [h2, if_false] at hj
    have := lt j ej hj b hbj
    subst h1
    rw [upd_same] at hbi
    have := hob b hbi
    omega
  ·simp only [h1, if_false] at hi
   have l1 := lt i ei hi b hbi
   by_cases h2 : j = st.nx
   ·subst h2
    rw [upd_same] at hbj
    have := hob b hbj
    omega
   ·simp only [h2, if_false] at hj
    have g1 := (h.own i ei hi).1
    have g2 := (h.own j ej hj).1
    rw [agree_upd ρ st.nx v i g1] at hbi
    rw [agree_upd ρ st.nx v j g2] at hbj
    exact h.sep i j ei ej hi hj hij b hbi hbj
 msep := fun i e' b hi hbb => by
  rw [own_add] at hi
  by_cases h1 : i = st.nx
  ·subst h1
   rw [upd_same] at hbb
   have hge := hob b hbb
   cases hm : st.M b with
   | none => exact hm
   | some o =>
    have := (Array.getElem?_eq_some_iff.1 (h.mem b o hm)).1
    omega
  ·simp only [h1, if_false] at hi
   have g := (h.own i e' hi).1
   rw [agree_upd ρ st.nx v i g] at hbb
   exact h.msep i e' b hi hbb
 pin := fun b o hbo => by
  obtain ⟨h1, h2, h3⟩ := h.pin b o hbo
  exact ⟨h1, (hb.block b (Array.getElem?_eq_some_iff.1 h2).1).trans h2, h3⟩
 mlow := h.mlow
 fpin := fun b o hbo => by
  obtain ⟨h2, h3⟩ := h.fpin b o hbo
  have hlt := (Array.getElem?_eq_some_iff.1 h2).1
  refine ⟨(hb.block b hlt).trans h2, ?_⟩
  intro i e' hi hbb
  rw [own_add] at hi
  by_cases h1 : i = st.nx
  ·subst h1
   rw [upd_same] at hbb
   have := hob b hbb
   omega
  ·simp only [h1, if_false] at hi
   rw [agree_upd ρ st.nx v i (h.own i e' hi).1] at hbb
   exact h3 i e' hi hbb
theorem Sat.box {n₀ : Nat} {w : World} {M₀ : Mem} {ρ : Env} {st : St} {a : Act} {W : World} (h : Sat n₀ w M₀ ρ st a W) (t : TypeId) (cs : List SV) (hsc : ∀ s ∈ cs, s.sc st.nx) :
  Sat n₀ w M₀ (upd ρ st.nx (.pointer (some ⟨W.heap.size, 0, none⟩))) (st.add (.box t cs)) a (W.alloc (.cells (cs.map (SV.den ρ)).toArray t)) := by
 have hb : Below W.heap.size W (W.alloc (.cells (cs.map (SV.den ρ)).toArray t)) := (Below.refl _ W).alloc (Nat.le_refl _) _
 refine h.env (h.h.add (.box t cs) _ hb hsc ?_ ?_) (agree_upd _ _ _) (by simp [St.add]) rfl rfl rfl
 ·refine ⟨W.heap.size, upd_same _ _ _, h.h.size, ?_⟩
  rw [heap_alloc_new]
  have : cs.map (SV.den (upd ρ st.nx (.pointer (some ⟨W.heap.size, 0, none⟩)))) = cs.map (SV.den ρ) := List.map_congr_left fun s hs => SV.den_agree (agree_upd _ _ _) (hsc s hs)
  rw [this]
 ·intro b hbb
  simp [ob] at hbb
  omega
theorem Sat.rowLit {n₀ : Nat} {w : World} {M₀ : Mem} {ρ : Env} {st : St} {a : Act} {W : World} (h : Sat n₀ w M₀ ρ st a W) (E sz n : Nat) (cs : List Value) (hl : cs.length = n * sz) (hn : n ≤ maxLen) (h1 : ∀ x ∈ cs, x.oneCell' = true) :
  Sat n₀ w M₀ (upd ρ st.nx (.slice (some ⟨W.heap.size, 0, none⟩) n n)) (st.add (.row E sz n cs)) a (W.alloc (.cells cs.toArray E)) := by
 have hb : Below W.heap.size W (W.alloc (.cells cs.toArray E)) := (Below.refl _ W).alloc (Nat.le_refl _) _
 refine h.env (h.h.add (.row E sz n cs) _ hb trivial ?_ ?_) (agree_upd _ _ _) (by simp [St.add]) rfl rfl rfl
 ·refine ⟨?_, h1⟩
  rw [upd_same]
  have := World.ownsRow_lit (base := n₀) (e := E) (size := sz) W cs.toArray n h.h.size hn (by simpa using hl)
  simpa using this
 ·intro b hbb
  simp [ob] at hbb
  omega
theorem SatH.set {n₀ : Nat} {w : World} {M₀ : Mem} {ρ : Env} {st : St} {W W' : World} {id : Nat} {e e' : OE} (h : SatH n₀ w M₀ ρ st W) (hid : st.own id = some e) (hb : W.grownBy W' (ob (ρ id))) (hsc : e'.sc st.nx)
  (hown : OwnOK n₀ ρ W' id e') : SatH n₀ w M₀ ρ { st with ow := (id, some e') :: st.ow } W' where
 below := h.below.grown hb h.size (fun k hk => ((h.own id e hid).2.2.lt k hk).1)
 size := Nat.le_trans h.size hb.size
 mem := fun b o hm => by
  have hm' := h.mem b o hm
  rw [hb.block b (Array.getElem?_eq_some_iff.1 hm').1 ?_]; exact hm'
  intro hc
  have := h.msep id e b hid hc.symm
  rw [this] at hm; cases hm
 own := fun i ei hi => by
  rw [own_cons] at hi
  split at hi
  ·rename_i hii
   obtain rfl := Option.some.inj hi
   subst hii
   exact ⟨(h.own i e hid).1, hsc, hown⟩
  ·rename_i hii
   obtain ⟨g1, g2, g3⟩ := h.own i ei hi
   refine ⟨g1, g2, g3.keep (Agree.refl _ _) g1 g2 fun b hbb => hb.block b (g3.lt b hbb).2.1 ?_⟩
   intro hc
   exact h.sep i id ei e hi hid hii b hbb hc.symm
 sep := fun i j ei ej hi hj hij => by
  rw [own_cons] at hi hj
  have g : ∀ k ek, (if k = id then some e' else st.own k) = some ek → ∃ e0, st.own k = some e0 := fun k ek hk => by
   split at hk
   ·rename_i hh; subst hh; exact ⟨_, hid⟩
   ·exact ⟨_, hk⟩
  obtain ⟨e1, h1⟩ := g i ei hi
  obtain ⟨e2, h2⟩ := g j ej hj
  exact h.sep i j e1 e2 h1 h2 hij
 msep := fun i ei b hi hbb => by
  rw [own_cons] at hi
  split at hi
  ·rename_i hh; subst hh; exact h.msep i e b hid hbb
  ·exact h.msep i ei b hi hbb
 pin := fun b o hbo => by
  obtain ⟨h1, h2, h3⟩ := h.pin b o hbo
  refine ⟨h1, (hb.block b (Array.getElem?_eq_some_iff.1 h2).1 (fun hc => ?_)).trans h2, h3⟩
  obtain ⟨_, _, o', hh, ho⟩ := (h.own id e hid).2.2.lt b hc.symm
  rw [hh] at h2; cases h2; rw [ho] at h1; cases h1
 mlow := h.mlow
 fpin := fun b o hbo => by
  obtain ⟨h2, h3⟩ := h.fpin b o hbo
  refine ⟨(hb.block b (Array.getElem?_eq_some_iff.1 h2).1 (fun hc => h3 id e hid hc.symm)).trans h2, ?_⟩
  intro i ei hi
  rw [own_cons] at hi
  split at hi
  ·rename_i hh; subst hh; exact h3 i e hid
  ·exact h3 i ei hi
theorem SatH.kill {n₀ : Nat} {w : World} {M₀ : Mem} {ρ : Env} {st : St} {W : World} (id : Nat) (h : SatH n₀ w M₀ ρ st W) : SatH n₀ w M₀ ρ { st with ow := (id, none) :: st.ow } W where
 below := h.below
 size := h.size
 mem := h.mem
 own := fun i ei hi => by
  rw [own_cons] at hi
  split at hi
  ·cases hi
  ·exact h.own i ei hi
 sep := fun i j ei ej hi hj hij => by
  rw [own_cons] at hi hj
  split at hi
  ·cases hi
  ·split at hj
   ·cases hj
   ·exact h.sep i j ei ej hi hj hij
 msep := fun i ei b hi hbb => by
  rw [own_cons] at hi
  split at hi
  ·cases hi
  ·exact h.msep i ei b hi hbb
 pin := h.pin
 mlow := h.mlow
 fpin := fun b o hbo => by
  obtain ⟨h2, h3⟩ := h.fpin b o hbo
  refine ⟨h2, fun i ei hi => ?_⟩
  rw [own_cons] at hi
  split at hi
  ·cases hi
  ·exact h3 i ei hi
def Mem.with (M : Mem) (b : Nat) (o : Obj) : Mem := fun k => if k = b then some o else M k
theorem SatH.freeze {n₀ : Nat} {w : World} {M₀ : Mem} {ρ : Env} {st : St} {W : World} {id : Nat} {e : OE} (h : SatH n₀ w M₀ ρ st W) (hid : st.own id = some e) {b : Nat} (hb : ob (ρ id) = some b) {o : Obj} (ho : W.heap[b]? = some o) :
  SatH n₀ w M₀ ρ { st with ow := (id, none) :: st.ow, M := st.M.with b o } W ∧ st.M.le (st.M.with b o) := by
 have hnone := h.msep id e b hid hb
 refine ⟨⟨h.below, h.size, ?_, ?_, ?_, ?_, ?_, ?_, ?_⟩, ?_⟩
 ·intro k o' hk
  simp only [Mem.with] at hk
  split at hk
  ·rename_i hkb; subst hkb; cases hk; exact ho
  ·exact h.mem k o' hk
 ·intro i ei hi
  have hi' : (if i = id then none else st.own i) = some ei := by rw [← own_cons]; exact hi
  split at hi'
  ·cases hi'
  ·exact h.own i ei hi'
 ·intro i j ei ej hi hj hij
  have hi' : (if i = id then none else st.own i) = some ei := by rw [← own_cons]; exact hi
  have hj' : (if j = id then none else st.own j) = some ej := by rw [← own_cons]; exact hj
  split at hi'
  ·cases hi'
  ·split at hj'
   ·cases hj'
   ·exact h.sep i j ei ej hi' hj' hij
 ·intro i ei k hi hbb
  have hi' : (if i = id then none else st.own i) = some ei := by rw [← own_cons]; exact hi
  split at hi'
  ·cases hi'
  ·rename_i hne
   show (st.M.with b o) k = none
   simp only [Mem.with]
   split
   ·rename_i hkb
    subst hkb
    exact absurd hb (h.sep i id ei e hi' hid hne k hbb)
   ·exact h.msep i ei k hi' hbb
 ·intro k o' hk
  obtain ⟨h1, h2, h3⟩ := h.pin k o' hk
  refine ⟨h1, h2, ?_⟩
  show (st.M.with b o) k = none
  simp only [Mem.with]
  split
  ·rename_i hkb
   subst hkb
   obtain ⟨_, _, o2, hh, ho2⟩ := (h.own id e hid).2.2.lt k hb
   rw [hh] at h2; cases h2; rw [ho2] at h1; cases h1
  ·exact h3
 ·intro k hk
  have hge := ((h.own id e hid).2.2.lt b hb).1
  show (st.M.with b o) k = M₀ k
  simp only [Mem.with]
  rw [if_neg (by omega)]
  exact h.mlow k hk
 ·intro k o' hk
  obtain ⟨h2, h3⟩ := h.fpin k o' hk
  refine ⟨h2, fun i ei hi => ?_⟩
  have hi' : (if i = id then none else st.own i) = some ei := by rw [← own_cons]; exact hi
  split at hi'
  ·cases hi'
  ·exact h3 i ei hi'
 ·intro k o' hk
  simp only [Mem.with]
  split
  ·rename_i hkb; subst hkb; rw [hnone] at hk; cases hk
  ·exact hk
end Go.V
namespace Go.V
open Go Go.RowKit
inductive TK where
 | sc
 | bool
 | int (k : IntKind)
 | st (fl : List (Nat × TypeId))
 | sl (e : TypeId)
 | ar (n : Nat) (e : TypeId)
structure TI where
 k : TK
 zero : List Value
 bytes : Nat
def TK.agg : TK → Bool
 | .st _ => true
 | .ar _ _ => true
 | _ => false
def TK.fits : TK → TypeDesc → Prop
 | .sc, d => match d with | .struct _ | .array _ _ => False | _ => True
 | .bool, d => d = .bool
 | .int k, d => d = .int k
 | .st fl, d => ∃ fs, d = .struct fs ∧ fs.toList.map (fun f => (f.offset, f.type)) = fl
 | .sl e, d => d = .slice e
 | .ar n e, d => d = .array n e
structure TyOK (P : Program) (t : TypeId) (i : TI) : Prop where
 inf : ∃ inf z, P.info? t = some inf ∧ inf.size = i.zero.length ∧ inf.zero = some z ∧ z.cells = i.zero.toArray ∧ inf.bytes = i.bytes
 und : ∃ d, P.underlying t = some d ∧ i.k.fits d
def TEOK (P : Program) (te : List (Nat × TI)) : Prop := ∀ t i, look te t = some i → TyOK P t i
variable {P : Program}
theorem TyOK.isAgg {t : TypeId} {i : TI} (h : TyOK P t i) (W : World) : (isAgg t).run P W = .ok i.k.agg W := by
 obtain ⟨d, hd, hf⟩ := h.und
 unfold Go.isAgg
 simp only [Sem.run_bind, run_underlying hd, Result.andThen_ok]
 cases hk : i.k <;> rw [hk] at hf <;> simp only [TK.fits] at hf
 ·cases d <;> first | rfl | exact hf.elim
 ·subst hf; rfl
 ·subst hf; rfl
 ·obtain ⟨fs, rfl, _⟩ := hf; rfl
 ·subst hf; rfl
 ·subst hf; rfl
theorem TyOK.sizeOf {t : TypeId} {i : TI} (h : TyOK P t i) (W : World) : (sizeOf t).run P W = .ok i.zero.length W := by
 obtain ⟨inf, z, h1, h2, _⟩ := h.inf
 simp [Go.sizeOf, typeInfo, h1, h2]
theorem TyOK.zeroValue {t : TypeId} {i : TI} (h : TyOK P t i) (W : World) : ∃ z, (zeroValue t).run P W = .ok z W ∧ z.cells = i.zero.toArray := by
 obtain ⟨inf, z, h1, _, h3, h4, _⟩ := h.inf
 exact ⟨z, by simp [Go.zeroValue, typeInfo, h1, h3], h4⟩
inductive VStuck (n : Nat) : Prop
inductive VIf (b : Bool) (A B : Prop) : Prop
 | mk (h1 : b = true → A) (h2 : b = false → B)
theorem VIf.tt {A B : Prop} (h : A) : VIf true A B := .mk (fun _ => h) (fun h => Bool.noConfusion h)
theorem VIf.ff {A B : Prop} (h : B) : VIf false A B := .mk (fun h => Bool.noConfusion h) (fun _ => h)
inductive VArith (lo hi : Int) (k : IntKind) (n : Int) (K : Int → Prop) : Prop
 | ok (h1 : lo ≤ n) (h2 : n ≤ hi) (hk : K n)
 | wr (hk : K (k.wrap n))
inductive VDiv (y : Int) (K : Prop) : Prop
 | mk (h : y ≠ 0) (hk : K)
inductive VRead (M : Mem) (a : Addr) (K : Value → Prop) : Prop
 | mk (v : Value) (h : M.cell a = some v) (hk : K v)
inductive VReads (M : Mem) (a : Addr) (n : Nat) (K : List Value → Prop) : Prop
 | mk (cs : List Value) (hl : cs.length = n) (h : ∀ j v, cs[j]? = some v → M.cell (a.add j) = some v) (hk : K cs)
inductive VIdx (a : Option Addr) (i : Int) (len : Nat) (K : Addr → Nat → Prop) : Prop
 | mk (ad : Addr) (n : Nat) (ha : a = some ad) (hi : i = (n : Int)) (hn : n < len) (hk : K ad n)
inductive VIdxR (i : Int) (len : Nat) (K : Nat → Prop) : Prop
 | mk (n : Nat) (hi : i = (n : Int)) (hn : n < len) (hk : K n)
inductive VCells (xs : List Value) (off n : Nat) (K : List Value → Prop) : Prop
 | mk (cs : List Value) (hl : cs.length = n) (h : ∀ j v, cs[j]? = some v → xs[off + j]? = some v) (hk : K cs)
inductive VFact (A K : Prop) : Prop
 | mk (h : A) (hk : K)
def St.ev (st : St) : Operand → Option SV
 | .tmp t => look st.sl t
 | .const v => some (.v v)
 | .func f => some (.clo f [] [])
 | .global g => some (.v (.pointer (some ⟨g, 0, none⟩)))
theorem Sat.ev {n₀ : Nat} {w : World} {M₀ : Mem} {ρ : Env} {st : St} {a : Act} {W : World} (h : Sat n₀ w M₀ ρ st a W) {x : Operand} {s : SV} (hx : st.ev x = some s) : a.eval x = s.den ρ ∧ s.sc st.nx := by
 cases x with
 | tmp t =>
  obtain ⟨_, h2, h3⟩ := h.sl t s hx
  exact ⟨by simp [Act.eval, h3], h2⟩
 | const v => cases hx; exact ⟨rfl, trivial⟩
 | func f => cases hx; exact ⟨rfl, by simp [SV.sc]⟩
 | global g => cases hx; exact ⟨rfl, trivial⟩
def SV.cells : SV → Option (List SV)
 | .v (.agg arr) => some (arr.toList.map .v)
 | .v (.int k n) => some [.v (.int k n)]
 | .v (.bool b) => some [.v (.bool b)]
 | .v (.slice a n c) => some [.v (.slice a n c)]
 | .v (.pointer a) => some [.v (.pointer a)]
 | .v (.string s) => some [.v (.string s)]
 | .v (.func f x y) => some [.v (.func f x y)]
 | .v .nilFunc => some [.v .nilFunc]
 | .v (.map r) => some [.v (.map r)]
 | .box id off => some [.box id off]
 | .row id => some [.row id]
 | .clo f x y => some [.clo f x y]
 | _ => none
def avals : List At → Option (List Value)
 | [] => some []
 | .v x :: r => match avals r with | some l => some (x :: l) | none => none
 | _ => none
theorem avals_den {ρ : Env} : ∀ {l : List At} {r : List Value}, avals l = some r → l.map (At.den ρ) = r
 | [], r, h => by cases h; rfl
 | s :: l, r, h => by
  cases s with
  | v x =>
   simp only [avals] at h
   cases hv : avals l with
   | none => rw [hv] at h; cases h
   | some l' => rw [hv] at h; cases h; simp [At.den, avals_den hv]
  | _ => cases h
def plain : SV → Option Value
 | .v x => some x
 | .clo f a b => match avals a, avals b with
  | some x, some y => some (.func (.func f) x.toArray y.toArray)
  | _, _ => none
 | _ => none
theorem plain_den {ρ : Env} {s : SV} {x : Value} (h : plain s = some x) : s.den ρ = x := by
 cases s with
 | v y => cases h; rfl
 | clo f a b =>
  simp only [plain] at h
  split at h
  ·rename_i u v hu hv
   cases h
   simp [SV.den, avals_den hu, avals_den hv]
  ·cases h
 | _ => cases h
def vals : List SV → Option (List Value)
 | [] => some []
 | s :: r => match plain s, vals r with | some x, some l => some (x :: l) | _, _ => none
theorem vals_den {ρ : Env} : ∀ {l : List SV} {r : List Value}, vals l = some r → l.map (SV.den ρ) = r
 | [], r, h => by cases h; rfl
 | s :: l, r, h => by
  simp only [vals] at h
  split at h
  ·rename_i x l' hx hl
   cases h
   simp [plain_den hx, vals_den hl]
  ·cases h
def arith (k : IntKind) (n : Int) (K : Int → Prop) : Prop :=
 match k with
 | .i64 => VArith (-9223372036854775808) 9223372036854775807 .i64 n K
 | .u8 => VArith 0 255 .u8 n K
 | .u64 => VArith 0 18446744073709551615 .u64 n K
 | k => VArith k.min k.max k n K
theorem wrap_in {k : IntKind} {n : Int} (h1 : k.min ≤ n) (h2 : n ≤ k.max) : k.wrap n = n := by
 cases k <;> simp [IntKind.min, IntKind.max, IntKind.signed, IntKind.bits, IntKind.wrap] at * <;> (try split) <;> omega
theorem arith_elim {k : IntKind} {n : Int} {K : Int → Prop} (h : arith k n K) : K (k.wrap n) := by
 cases k <;> simp only [arith] at h <;> (cases h with
  | ok h1 h2 hk => rw [wrap_in (by simp [IntKind.min, IntKind.signed, IntKind.bits] at *; omega) (by simp [IntKind.max, IntKind.signed, IntKind.bits] at *; omega)]; exact hk
  | wr hk => exact hk)
def bitsI (op : BinOp) (k : IntKind) (x y : Int) : Int :=
 match op with
 | .and => k.wrap (BitVec.ofInt k.bits x &&& BitVec.ofInt k.bits y).toNat
 | .or => k.wrap (BitVec.ofInt k.bits x ||| BitVec.ofInt k.bits y).toNat
 | .xor => k.wrap (BitVec.ofInt k.bits x ^^^ BitVec.ofInt k.bits y).toNat
 | _ => k.wrap (BitVec.ofInt k.bits x &&& ~~~ BitVec.ofInt k.bits y).toNat
def intOp (op : BinOp) (k : IntKind) (a b : Int) (K : Value → Prop) : Prop :=
 match op with
 | .and => K (.int k (bitsI .and k a b))
 | .or => K (.int k (bitsI .or k a b))
 | .xor => K (.int k (bitsI .xor k a b))
 | .andNot => K (.int k (bitsI .andNot k a b))
 | .add => arith k (a + b) fun n => K (.int k n)
 | .sub => arith k (a - b) fun n => K (.int k n)
 | .mul => arith k (a * b) fun n => K (.int k n)
 | .quo => VDiv b (arith k (a.tdiv b) fun n => K (.int k n))
 | .rem => VDiv b (K (.int k (a.tmod b)))
 | .eql => K (.bool (a == b))
 | .neq => K (.bool (a != b))
 | .lss => K (.bool (decide (a < b)))
 | .leq => K (.bool (decide (a ≤ b)))
 | .gtr => K (.bool (decide (a > b)))
 | .geq => K (.bool (decide (a ≥ b)))
 | _ => VStuck 10
theorem intOp_run {op : BinOp} {k : IntKind} {a b : Int} {K : Value → Prop} (h : intOp op k a b K) (t : TypeId) :
  ∃ v, (∀ W : World, (binOp op t (.int k a) (.int k b)).run P W = .ok v W) ∧ K v := by
 unfold intOp at h
 split at h
 ·exact ⟨_, fun W => by simp [binOp, Op.intBits, bitsI], h⟩
 ·exact ⟨_, fun W => by simp [binOp, Op.intBits, bitsI], h⟩
 ·exact ⟨_, fun W => by simp [binOp, Op.intBits, bitsI], h⟩
 ·exact ⟨_, fun W => by simp [binOp, Op.intBits, bitsI], h⟩
 ·exact ⟨_, fun W => by simp [binOp, Op.intArith], arith_elim h⟩
 ·exact ⟨_, fun W => by simp [binOp, Op.intArith], arith_elim h⟩
 ·exact ⟨_, fun W => by simp [binOp, Op.intArith], arith_elim h⟩
 ·obtain ⟨hb, hk⟩ := h
  exact ⟨.int k (k.wrap (a.tdiv b)), fun W => by simp [binOp, Op.intDiv, hb], arith_elim hk⟩
 ·obtain ⟨hb, hk⟩ := h
  exact ⟨.int k (a.tmod b), fun W => by simp [binOp, Op.intDiv, hb], hk⟩
 ·exact ⟨.bool (a == b), fun W => by simp [binOp, Op.intCmp], h⟩
 ·exact ⟨.bool (a != b), fun W => by simp [binOp, Op.intCmp], h⟩
 ·exact ⟨.bool (decide (a < b)), fun W => by simp [binOp, Op.intCmp], h⟩
 ·exact ⟨.bool (decide (a ≤ b)), fun W => by simp [binOp, Op.intCmp], h⟩
 ·exact ⟨.bool (decide (a > b)), fun W => by simp [binOp, Op.intCmp], h⟩
 ·exact ⟨.bool (decide (a ≥ b)), fun W => by simp [binOp, Op.intCmp], h⟩
 ·cases h
inductive VSh (b : Int) (K : Prop) : Prop
 | mk (h : 0 ≤ b) (hk : K)
def shOp (op : BinOp) (k : IntKind) (a b : Int) (K : Value → Prop) : Prop :=
 match op with
 | .shl => VSh b (K (.int k (k.wrap (a * 2 ^ min b.toNat k.bits))))
 | .shr => VSh b (K (.int k (a.fdiv (2 ^ min b.toNat k.bits))))
 | _ => VStuck 11
theorem shOp_run {op : BinOp} {k : IntKind} {a b : Int} {K : Value → Prop} (h : shOp op k a b K) (t : TypeId) (k' : IntKind) :
  ∃ v, (∀ W : World, (binOp op t (.int k a) (.int k' b)).run P W = .ok v W) ∧ K v := by
 unfold shOp at h
 split at h
 ·obtain ⟨hb, hk⟩ := h
  exact ⟨_, fun W => by simp [binOp, Op.shift, Int.not_lt.2 hb], hk⟩
 ·obtain ⟨hb, hk⟩ := h
  exact ⟨_, fun W => by simp [binOp, Op.shift, Int.not_lt.2 hb], hk⟩
 ·cases h
end Go.V
namespace Go.V
open Go Go.RowKit
variable {P : Program}
def Fw (r : Option Nat) : Fence := { Fence.wide with round := r }
theorem op_val {r : Option Nat} {n : Nat} {o : Oper} {a : Act} {W W' : World} {v : Value} {K : Act → World → Prop} {Q : Exit → Act → World → Prop}
  (hd : ∀ c, o.op ≠ .defer c) (hrun : (execOp a.eval o).run P W = .ok (.value v) W') (hk : K (a.put o.dst v) W') : o.wpIn (Fw r) n P a W K Q := by
 refine ⟨fun _ _ => trivial, ?_⟩
 rw [Oper.semAt_plain _ _ _ hd, hrun]
 exact hk
theorem op_skip {r : Option Nat} {n : Nat} {o : Oper} {a : Act} {W W' : World} {K : Act → World → Prop} {Q : Exit → Act → World → Prop}
  (hd : ∀ c, o.op ≠ .defer c) (hrun : (execOp a.eval o).run P W = .ok .skip W') (hk : K (a.put o.dst undef) W') : o.wpIn (Fw r) n P a W K Q := by
 refine ⟨fun _ _ => trivial, ?_⟩
 rw [Oper.semAt_plain _ _ _ hd, hrun]
 exact hk
theorem Addr.add_none (B off j : Nat) : (⟨B, off, none⟩ : Addr).add j = ⟨B, off + j, none⟩ := by
 unfold Go.Addr.add; split <;> simp_all
def St.putv (st : St) (d : Option Tmp) (s : SV) (k : St → Prop) : Prop :=
 match d with
 | none => k st
 | some d => match st with
  | ⟨sl, ow, nx, M, nt, G⟩ => match Nat.blt d nt with
   | true => k ⟨(d, s) :: sl, ow, nx, M, nt, G⟩
   | false => VStuck 2
theorem putv_elim {n₀ : Nat} {w : World} {M₀ : Mem} {ρ : Env} {st : St} {a : Act} {W : World} {d : Option Tmp} {s : SV} {k : St → Prop} (h : st.putv d s k) (hs : Sat n₀ w M₀ ρ st a W) (hsc : s.sc st.nx) :
  Sat n₀ w M₀ ρ (st.put d s) (a.put d (s.den ρ)) W ∧ k (st.put d s) := by
 unfold St.putv at h
 cases d with
 | none => exact ⟨hs.put none s hsc (fun t ht => by cases ht), h⟩
 | some d =>
  cases st with
  | mk sl ow nx M nt G =>
  simp only at h
  cases hb : Nat.blt d nt with
  | true =>
   simp only [hb] at h
   exact ⟨hs.put (some d) s hsc (fun t ht => by cases ht; exact Nat.le_of_ble_eq_true hb), h⟩
  | false => simp only [hb] at h; cases h
def ldBox (i : TI) (cs : List SV) (off : Nat) (k : SV → Prop) : Prop :=
 match i.k.agg with
 | true => match vals ((cs.drop off).take i.zero.length) with
  | some l => match Nat.beq l.length i.zero.length with
   | true => k (.v (.agg l.toArray))
   | false => VStuck 21
  | none => VStuck 22
 | false => match cs[off]? with
  | some s => k s
  | none => VStuck 23
def ldRow (i : TI) (xs : List Value) (off : Nat) (k : SV → Prop) : Prop :=
 match i.k.agg with
 | true => VCells xs off i.zero.length fun l => k (.v (.agg l.toArray))
 | false => VCells xs off 1 fun l => ∃ x, l = [x] ∧ k (.v x)
def ldMem (i : TI) (M : Mem) (ad : Addr) (k : SV → Prop) : Prop :=
 match i.k.agg with
 | true => VReads M ad i.zero.length fun l => k (.v (.agg l.toArray))
 | false => VRead M ad fun x => k (.v x)
def ld (te : List (Nat × TI)) (st : St) (t : TypeId) (p : SV) (k : SV → Prop) : Prop :=
 match look te t with
 | none => VStuck 20
 | some i => match p with
  | .box id off => match st.own id with
   | some (.box _ cs) => ldBox i cs off k
   | some (.row _ _ _ xs) => ldRow i xs off k
   | some (.gh _ _ _) => VStuck 26
   | some (.vw _ _ _ _) => VStuck 27
   | some (.mp ..) => VStuck 28
   | some (.nw _) => VStuck 29
   | none => VStuck 24
  | .v (.pointer (some ad)) => match st with | ⟨_, _, _, M, _, _⟩ => ldMem i M ad k
  | _ => VStuck 25
theorem ld_agg {t : TypeId} {i : TI} (h : TyOK P t i) (hk : i.k.agg = true) {ad : Addr} {l : List Value} (hl : l.length = i.zero.length) {W : World} (hc : ∀ j v, l[j]? = some v → W.cell? (ad.add j) = some v) :
  (Instr.loadAt t (.pointer (some ad))).run P W = .ok (.agg l.toArray) W := by
 have h1 := h.isAgg W
 rw [hk] at h1
 have h3 := run_loadCells_list (P := P) W ad l hc
 rw [hl] at h3
 simp [Instr.loadAt, Instr.sureAddr, loadVar, h1, h.sizeOf, h3]
theorem ld_sc {t : TypeId} {i : TI} (h : TyOK P t i) (hk : i.k.agg = false) {ad : Addr} {x : Value} {W : World} (hc : W.cell? ad = some x) :
  (Instr.loadAt t (.pointer (some ad))).run P W = .ok x W := by
 have h1 := h.isAgg W
 rw [hk] at h1
 simp [Instr.loadAt, Instr.sureAddr, loadVar, h1, load, Sem.run, hc]
theorem box_cell {n₀ : Nat} {w : World} {M₀ : Mem} {ρ : Env} {st : St} {W : World} (h : SatH n₀ w M₀ ρ st W) {id : Nat} {t : TypeId} {cs : List SV} (hid : st.own id = some (.box t cs)) (j : Nat) :
  W.cell? ⟨blkOf (ρ id), j, none⟩ = (cs[j]?).map (SV.den ρ) := by
 obtain ⟨_, _, B, hr, _, hh⟩ := h.own id _ hid
 simp [hr, blkOf, World.cell?, hh]
theorem row_cell {n₀ : Nat} {w : World} {M₀ : Mem} {ρ : Env} {st : St} {W : World} (h : SatH n₀ w M₀ ρ st W) {id E sz n : Nat} {xs : List Value} (hid : st.own id = some (.row E sz n xs)) {j : Nat} {v : Value} (hv : xs[j]? = some v) :
  W.cell? ⟨blkOf (ρ id), j, none⟩ = some v := by
 obtain ⟨_, _, ho, _⟩ := h.own id _ hid
 rcases ho.2 with ⟨hn, h0⟩ | ⟨g, cap, cur, hg, _, hh, _, _, _, ht⟩
 ·have := ho.1; subst h0; simp at this; subst this; simp at hv
 ·have h3 := ho.cells (g := g) (by simp [hg, Value.ownBlock]) j v hv
  rw [Addr.add_none] at h3
  simpa [hg, blkOf] using h3
theorem ld_sound {te : List (Nat × TI)} (hte : TEOK P te) {n₀ : Nat} {w : World} {M₀ : Mem} {ρ : Env} {st : St} {W0 : World} (h0 : SatH n₀ w M₀ ρ st W0) {t : TypeId} {p : SV} {k : SV → Prop} (hp : p.sc st.nx)
  (hk : ld te st t p k) : ∃ s, s.sc st.nx ∧ (∀ W, SatH n₀ w M₀ ρ st W → (Instr.loadAt t (p.den ρ)).run P W = .ok (s.den ρ) W) ∧ k s := by
 unfold ld at hk
 cases hi : look te t with
 | none => simp only [hi] at hk; cases hk
 | some i =>
  simp only [hi] at hk
  have hT := hte t i hi
  cases p with
  | box id off =>
   simp only at hk
   cases hid : st.own id with
   | none => simp only [hid] at hk; cases hk
   | some e =>
    simp only [hid] at hk
    cases e with
    | gh => simp only at hk; cases hk
    | vw => simp only at hk; cases hk
    | mp => simp only at hk; cases hk
    | nw => simp only at hk; cases hk
    | box t' cs =>
     simp only at hk
     unfold ldBox at hk
     cases hag : i.k.agg with
     | true =>
      simp only [hag] at hk
      cases hv : vals ((cs.drop off).take i.zero.length) with
      | none => simp only [hv] at hk; cases hk
      | some l =>
       simp only [hv] at hk
       cases hb : Nat.beq l.length i.zero.length with
       | false => simp only [hb] at hk; cases hk
       | true =>
        simp only [hb] at hk
        refine ⟨.v (.agg l.toArray), trivial, fun W h => ?_, hk⟩
        have hd := vals_den (ρ := ρ) hv
        refine ld_agg hT hag (Nat.eq_of_beq_eq_true hb) (fun j v hj => ?_)
        rw [Addr.add_none, box_cell h hid]
        rw [← hd] at hj
        simp only [List.getElem?_map, List.getElem?_take, List.getElem?_drop] at hj
        split at hj
        ·exact hj
        ·cases hj
     | false =>
      simp only [hag] at hk
      cases hc : cs[off]? with
      | none => simp only [hc] at hk; cases hk
      | some s =>
       simp only [hc] at hk
       refine ⟨s, (h0.own id _ hid).2.1 s (List.mem_of_getElem? hc), fun W h => ?_, hk⟩
       exact ld_sc hT hag (by rw [box_cell h hid, hc]; rfl)
    | row E sz n xs =>
     simp only at hk
     unfold ldRow at hk
     cases hag : i.k.agg with
     | true =>
      simp only [hag] at hk
      obtain ⟨l, hl, hc, hk⟩ := hk
      refine ⟨.v (.agg l.toArray), trivial, fun W h => ?_, hk⟩
      exact ld_agg hT hag hl (fun j v hj => by rw [Addr.add_none]; exact row_cell h hid (hc j v hj))
     | false =>
      simp only [hag] at hk
      obtain ⟨l, hl, hc, x, rfl, hk⟩ := hk
      refine ⟨.v x, trivial, fun W h => ?_, hk⟩
      have h0 := hc 0 x rfl
      exact ld_sc hT hag (row_cell h hid h0)
  | v x =>
   split at hk
   ·rename_i id off heq; cases heq
   ·rename_i ad heq
    cases heq
    replace hk : ldMem i st.M ad k := by cases st; exact hk
    unfold ldMem at hk
    cases hag : i.k.agg with
    | true =>
     simp only [hag] at hk
     obtain ⟨l, hl, hc, hk⟩ := hk
     exact ⟨.v (.agg l.toArray), trivial, fun W h => ld_agg hT hag hl (fun j v hj => Mem.cell_ok h.mem (hc j v hj)), hk⟩
    | false =>
     simp only [hag] at hk
     obtain ⟨x, hc, hk⟩ := hk
     exact ⟨.v x, trivial, fun W h => ld_sc hT hag (Mem.cell_ok h.mem hc), hk⟩
   ·cases hk
  | row id => simp only at hk; cases hk
  | clo f x y => simp only at hk; cases hk
  | tup l => simp only at hk; cases hk
end Go.V
namespace Go.V
open Go Go.RowKit
variable {P : Program}
theorem cells_den {ρ : Env} {s : SV} {l : List SV} (h : s.cells = some l) : (s.den ρ).cells = (l.map (SV.den ρ)).toArray := by
 cases s with
 | v x =>
  have e : SV.den ρ ∘ SV.v = id := rfl
  cases x <;> simp only [SV.cells, reduceCtorEq, Option.some.injEq] at h <;> subst h <;> simp [SV.den, Value.cells, e]
 | box id off => simp only [SV.cells, Option.some.injEq] at h; subst h; simp [SV.den, Value.cells]
 | row id =>
  simp only [SV.cells, Option.some.injEq] at h; subst h
  simp only [List.map_cons, List.map_nil, SV.den]
  obtain ⟨a, n, c, e⟩ := slOf_is (ρ id)
  rw [e]; rfl
 | clo f x y => simp only [SV.cells, Option.some.injEq] at h; subst h; simp [SV.den, Value.cells]
 | tup l' => cases h
theorem cells_sc {nx : Nat} {s : SV} {l : List SV} (h : s.cells = some l) (hs : s.sc nx) : ∀ x ∈ l, x.sc nx := by
 cases s with
 | v x =>
  cases x <;> simp only [SV.cells, reduceCtorEq, Option.some.injEq] at h <;> subst h <;> intro y hy
  all_goals first
   | (simp at hy; subst hy; trivial)
   | (simp only [List.mem_map] at hy; obtain ⟨z, _, rfl⟩ := hy; trivial)
 | box id off => simp only [SV.cells, Option.some.injEq] at h; subst h; intro y hy; simp at hy; subst hy; exact hs
 | row id => simp only [SV.cells, Option.some.injEq] at h; subst h; intro y hy; simp at hy; subst hy; exact hs
 | clo f x y => simp only [SV.cells, Option.some.injEq] at h; subst h; intro y hy; simp at hy; subst hy; exact hs
 | tup l' => cases h
theorem setRow_grown (W : World) (g : Nat) (cs : Array Value) : W.grownBy (W.setRow g cs) (some g) :=
 ⟨rfl, rfl, rfl, by simp [World.setRow], fun k _ hk => by
  simp only [World.setRow, Array.getElem?_modify]
  rw [if_neg (fun e => hk (by rw [e]))]⟩
def splice (cs : List SV) (off : Nat) (vs : List SV) : List SV := cs.take off ++ vs ++ cs.drop (off + vs.length)
def SV.isOne : SV → Bool
 | .v (.agg _) => false
 | .v (.tuple _) => false
 | .v _ => true
 | .tup _ => false
 | _ => true
theorem isOne_den {ρ : Env} {s : SV} (h : s.isOne = true) : (s.den ρ).oneCell' = true := by
 cases s with
 | v x => cases x <;> first | rfl | cases h
 | box id off => rfl
 | row id => simp only [SV.den]; obtain ⟨a, n, c, e⟩ := slOf_is (ρ id); rw [e]; rfl
 | clo f x y => rfl
 | tup l => cases h
def allOne : List SV → Bool
 | [] => true
 | s :: r => match s.isOne with | true => allOne r | false => false
theorem allOne_den {ρ : Env} : ∀ {l : List SV}, allOne l = true → ∀ v ∈ l.map (SV.den ρ), v.oneCell' = true
 | [], _, v, hv => by simp at hv
 | s :: r, h, v, hv => by
  simp only [allOne] at h
  cases hs : s.isOne with
  | false => rw [hs] at h; cases h
  | true =>
   rw [hs] at h
   simp only [List.map_cons, List.mem_cons] at hv
   rcases hv with rfl | hv
   ·exact isOne_den hs
   ·exact allOne_den h v hv
def rput (xs : List Value) (off : Nat) (ys : List Value) : List Value := xs.take off ++ ys ++ xs.drop (off + ys.length)
theorem rput_length {xs : List Value} {off : Nat} {ys : List Value} (h : off + ys.length ≤ xs.length) : (rput xs off ys).length = xs.length := by
 unfold rput; simp; omega
theorem rput_take {cur ys : List Value} {N off : Nat} (h1 : off + ys.length ≤ N) (h2 : N ≤ cur.length) : (cur.take off ++ ys ++ cur.drop (off + ys.length)).take N = rput (cur.take N) off ys := by
 unfold rput
 rw [List.take_append, List.take_append]
 simp only [List.length_append, List.length_take, List.take_take]
 rw [Nat.min_eq_left (by omega : off ≤ cur.length)]
 rw [Nat.min_eq_right (by omega : off ≤ N), Nat.min_eq_left (by omega : off ≤ N)]
 rw [List.take_of_length_le (by omega : ys.length ≤ N - off), List.drop_take]
theorem row_put {n₀ E sz n : Nat} {W : World} {v : Value} {xs ys : List Value} {g cap : Nat} {a : Option Addr} {off : Nat} (h : W.ownsRow n₀ E sz v n xs) (hv : v = .slice a n cap) (ha : ∀ b, a = some b → b.block = g) (hne : 0 < ys.length)
  (hl : off + ys.length ≤ xs.length) (h1 : ∀ y ∈ ys, y.oneCell' = true) :
  ∃ W', (storeCells ⟨g, off, none⟩ ys).run P W = .ok () W' ∧ W.grownBy W' (some g) ∧ W'.ownsRow n₀ E sz v n (rput xs off ys) ∧ ob v = some g := by
 obtain ⟨hlen, hcase⟩ := h
 rcases hcase with ⟨hv0, h0⟩ | ⟨g', cap', cur, hg, hn, hh, hnc, hcm, hcs, hct⟩
 ·subst h0; rw [Nat.zero_mul] at hlen; omega
 ·rw [hg] at hv
  cases hv
  have hgg := ha _ rfl
  simp only at hgg
  subst hgg
  have hN : n * sz ≤ cur.toList.length := by
   rw [Array.length_toList, hcs]; exact Nat.mul_le_mul_right _ hnc
  rw [hlen] at hl
  have hst := run_storeCells_at P g' off E ys 0 cur W hh (by rw [Array.length_toList] at hN; omega) h1
  refine ⟨_, hst, setRow_grown _ _ _, ⟨?_, .inr ⟨g', cap, _, hg, hn, setRow_heap _ _ _ _ _ _ hh, hnc, hcm, ?_, ?_⟩⟩, by rw [hg]; rfl⟩
  ·rw [rput_length (by rw [hlen]; exact hl)]; exact hlen
  ·rw [Array.length_toList, hcs] at hN
   simp
   omega
  ·show List.take (n * sz) (cur.toList.take (off + 0) ++ ys ++ cur.toList.drop (off + 0 + ys.length)) = _
   rw [Nat.add_zero, rput_take hl hN, hct]
theorem mem_rput {xs ys : List Value} {off : Nat} {q : Value} (h : q ∈ rput xs off ys) : q ∈ xs ∨ q ∈ ys := by
 unfold rput at h
 simp only [List.mem_append] at h
 rcases h with (h | h) | h
 ·exact .inl (List.mem_of_mem_take h)
 ·exact .inr h
 ·exact .inl (List.mem_of_mem_drop h)
theorem Sat.putRow {n₀ : Nat} {w : World} {M₀ : Mem} {ρ : Env} {st : St} {a : Act} {W : World} (h : Sat n₀ w M₀ ρ st a W) {id E sz n : Nat} {xs ys : List Value} {off : Nat} (hid : st.own id = some (.row E sz n xs)) (hne : 0 < ys.length)
  (hl : off + ys.length ≤ xs.length) (h1 : ∀ y ∈ ys, y.oneCell' = true) :
  ∃ W', (storeCells ⟨blkOf (ρ id), off, none⟩ ys).run P W = .ok () W' ∧ Sat n₀ w M₀ ρ { st with ow := (id, some (.row E sz n (rput xs off ys))) :: st.ow } a W' := by
 obtain ⟨g1, g2, ho, hc⟩ := h.h.own id _ hid
 obtain ⟨g, cap, hv⟩ : ∃ g cap, ρ id = .slice (some ⟨g, 0, none⟩) n cap := by
  rcases ho.2 with ⟨_, h0⟩ | ⟨g, cap, cur, hg, _⟩
  ·have := ho.1; rw [h0, Nat.zero_mul] at this; omega
  ·exact ⟨g, cap, hg⟩
 obtain ⟨W', e1, e2, e3, e4⟩ := row_put (P := P) ho hv (g := g) (fun b hb => by cases hb; rfl) hne hl h1
 refine ⟨W', by rw [hv]; exact e1, ?_⟩
 refine h.env (h.h.set (e' := .row E sz n (rput xs off ys)) hid (by rw [e4]; exact e2) trivial ⟨e3, ?_⟩) (Agree.refl _ _) (Nat.le_refl _) rfl rfl rfl
 intro q hq
 rcases mem_rput hq with hq | hq
 ·exact hc q hq
 ·exact h1 q hq
def sto (te : List (Nat × TI)) (st : St) (t : TypeId) (p v : SV) (k : St → Prop) : Prop :=
 match look te t with
 | none => VStuck 30
 | some i => match p with
  | .box id off => match st.own id with
   | some (.box t' cs) => match v.cells with
    | some vs => match Nat.beq vs.length i.zero.length && Nat.ble (off + vs.length) cs.length && allOne vs with
     | true => match st with | ⟨sl, ow, nx, M, nt, G⟩ => k ⟨sl, (id, some (.box t' (splice cs off vs))) :: ow, nx, M, nt, G⟩
     | false => VStuck 31
    | none => VStuck 32
   | some (.row E sz n xs) => match v.cells with
    | some vs => match vals vs with
     | some ys => match Nat.beq vs.length i.zero.length && allOne vs && Nat.ble 1 vs.length with
      | true => VFact (off + ys.length ≤ xs.length) (match st with | ⟨sl, ow, nx, M, nt, G⟩ => k ⟨sl, (id, some (.row E sz n (rput xs off ys))) :: ow, nx, M, nt, G⟩)
      | false => VStuck 35
     | none => VStuck 36
    | none => VStuck 37
   | _ => VStuck 33
  | _ => VStuck 34
theorem sto_sound {te : List (Nat × TI)} (hte : TEOK P te) {n₀ : Nat} {w : World} {M₀ : Mem} {ρ : Env} {st : St} {a : Act} {W : World} (h : Sat n₀ w M₀ ρ st a W) {t : TypeId} {p v : SV} {k : St → Prop} (hv : v.sc st.nx)
  (hk : sto te st t p v k) : ∃ W' st', (Instr.storeAt t (p.den ρ) (v.den ρ)).run P W = .ok () W' ∧ Sat n₀ w M₀ ρ st' a W' ∧ st'.nt = st.nt ∧ st'.G = st.G ∧ k st' := by
 unfold sto at hk
 cases hi : look te t with
 | none => simp only [hi] at hk; cases hk
 | some i =>
  simp only [hi] at hk
  have hT := hte t i hi
  cases p with
  | box id off =>
   simp only at hk
   cases hid : st.own id with
   | none => simp only [hid] at hk; cases hk
   | some e =>
    simp only [hid] at hk
    cases e with
    | gh => simp only at hk; cases hk
    | vw => simp only at hk; cases hk
    | mp => simp only at hk; cases hk
    | nw => simp only at hk; cases hk
    | row E sz n xs =>
     simp only at hk
     cases hc : v.cells with
     | none => simp only [hc] at hk; cases hk
     | some vs =>
      simp only [hc] at hk
      cases hvs : vals vs with
      | none => simp only [hvs] at hk; cases hk
      | some ys =>
       simp only [hvs] at hk
       cases hb : (Nat.beq vs.length i.zero.length && allOne vs && Nat.ble 1 vs.length) with
       | false => simp only [hb] at hk; cases hk
       | true =>
        simp only [hb] at hk
        cases hk with
        | mk hl hk =>
         replace hk : k { st with ow := (id, some (.row E sz n (rput xs off ys))) :: st.ow } := by cases st; exact hk
         simp only [Bool.and_eq_true] at hb
         obtain ⟨⟨hb1, hb3⟩, hb4⟩ := hb
         have hb1 := Nat.eq_of_beq_eq_true hb1
         have hd := vals_den (ρ := ρ) hvs
         have hcd := cells_den (ρ := ρ) hc
         rw [hd] at hcd
         have hyl : ys.length = vs.length := by rw [← hd]; simp
         have h1 : ∀ y ∈ ys, y.oneCell' = true := by rw [← hd]; exact allOne_den hb3
         have hpos : 0 < ys.length := by rw [hyl]; exact Nat.le_of_ble_eq_true hb4
         obtain ⟨W', e1, e2⟩ := h.putRow (P := P) hid hpos hl h1
         refine ⟨W', _, ?_, e2, rfl, rfl, hk⟩
         have e3 : SV.den ρ (.box id off) = .pointer (some ⟨blkOf (ρ id), off, none⟩) := rfl
         rw [e3]
         generalize SV.den ρ v = x at hcd
         have h2 := hT.sizeOf W
         rw [← hb1, ← hyl] at h2
         simp only [Instr.storeAt, Instr.sureAddr, Sem.run_bind, Sem.run_pure, Result.andThen_ok, storeVar, hcd, h2]
         simp only [List.size_toArray, ne_eq, not_true_eq_false, if_false]
         simpa using e1
    | box t' cs =>
     simp only at hk
     cases hc : v.cells with
     | none => simp only [hc] at hk; cases hk
     | some vs =>
      simp only [hc] at hk
      cases hb : (Nat.beq vs.length i.zero.length && Nat.ble (off + vs.length) cs.length && allOne vs) with
      | false => simp only [hb] at hk; cases hk
      | true =>
       simp only [hb] at hk
       replace hk : k { st with ow := (id, some (.box t' (splice cs off vs))) :: st.ow } := by cases st; exact hk
       simp only [Bool.and_eq_true] at hb
       obtain ⟨⟨hb1, hb2⟩, hb3⟩ := hb
       have hb1 := Nat.eq_of_beq_eq_true hb1
       have hb2 := Nat.le_of_ble_eq_true hb2
       obtain ⟨g1, g2, B, hr, hn, hh⟩ := h.h.own id _ hid
       have hcd := cells_den (ρ := ρ) hc
       have hst := run_storeCells_at P B off t' (vs.map (SV.den ρ)) 0 (cs.map (SV.den ρ)).toArray W hh (by simpa using hb2) (allOne_den hb3)
       refine ⟨W.setRow B (((cs.map (SV.den ρ)).toArray.toList.take (off + 0) ++ vs.map (SV.den ρ) ++ (cs.map (SV.den ρ)).toArray.toList.drop (off + 0 + (vs.map (SV.den ρ)).length)).toArray), { st with ow := (id, some (.box t' (splice cs off vs))) :: st.ow }, ?_, ?_, rfl, rfl, hk⟩
       ·have e1 : SV.den ρ (.box id off) = .pointer (some ⟨B, off, none⟩) := by simp [SV.den, hr, blkOf]
        rw [e1]
        generalize SV.den ρ v = x at hcd
        have h2 := hT.sizeOf W
        rw [← hb1] at h2
        simp only [Instr.storeAt, Instr.sureAddr, Sem.run_bind, Sem.run_pure, Result.andThen_ok, storeVar, hcd, h2]
        simp only [List.size_toArray, List.length_map, ne_eq, not_true_eq_false, if_false]
        simpa using hst
       ·have hob : ob (ρ id) = some B := by simp [hr, ob]
        refine h.env (h.h.set (e' := .box t' (splice cs off vs)) hid (by rw [hob]; exact setRow_grown _ _ _) ?_ ?_) (Agree.refl _ _) (Nat.le_refl _) rfl rfl rfl
        ·intro s hs
         simp only [splice, List.mem_append] at hs
         rcases hs with (hs | hs) | hs
         ·exact g2 s (List.mem_of_mem_take hs)
         ·exact cells_sc hc hv s hs
         ·exact g2 s (List.mem_of_mem_drop hs)
        ·refine ⟨B, hr, hn, ?_⟩
         rw [setRow_heap _ _ _ _ _ _ hh]
         simp [splice, List.map_take, List.map_drop]
  | v x => simp only at hk; cases hk
  | row id => simp only at hk; cases hk
  | clo f x y => simp only at hk; cases hk
  | tup l => simp only at hk; cases hk
end Go.V
namespace Go.V
open Go Go.RowKit
variable {P : Program}
def eqRes : BinOp → Bool → Bool
 | .eql, b => b
 | _, b => !b
structure VX where
 te : List (Nat × TI)
 eq2 : List Nat
 eqN : List (Nat × Nat)
 inl : Bool
def eqI : List Int → List Int → Bool
 | [], [] => true
 | x :: r, y :: s => match r with | [] => x == y | _ => x == y && eqI r s
 | _, _ => false
def intsV : List Value → Option (List Int)
 | [] => some []
 | .int .i64 a :: r => match intsV r with | some l => some (a :: l) | none => none
 | _ :: _ => none
theorem intsV_eq : ∀ {l : List Value} {r : List Int}, intsV l = some r → l = r.map (Value.int .i64)
 | [], r, h => by simp [intsV] at h; subst h; rfl
 | .int .i64 a :: l, r, h => by
  simp only [intsV] at h
  split at h
  ·rename_i l' hl; cases h; rw [intsV_eq hl]; rfl
  ·cases h
def EqN (P : Program) (t n : Nat) : Prop := ∀ (op : BinOp) (xs ys : List Int) (W : World), xs.length = n → ys.length = n → (op = .eql ∨ op = .neq) → ∀ (u v : Operand),
  (do eqGuard op t u v (.agg (xs.map (Value.int .i64)).toArray) (.agg (ys.map (Value.int .i64)).toArray); binOp op t (.agg (xs.map (Value.int .i64)).toArray) (.agg (ys.map (Value.int .i64)).toArray) : Sem Value).run P W
   = .ok (.bool (eqRes op (eqI xs ys))) W
def lookN : List (Nat × Nat) → Nat → Option Nat
 | [], _ => none
 | (x, n) :: r, t => match Nat.beq t x with | true => some n | false => lookN r t
theorem lookN_mem : ∀ {l : List (Nat × Nat)} {t n : Nat}, lookN l t = some n → (t, n) ∈ l
 | (x, m) :: r, t, n, h => by
  simp only [lookN] at h
  cases hb : Nat.beq t x with
  | true => rw [hb] at h; cases h; rw [Nat.eq_of_beq_eq_true hb]; simp
  | false => rw [hb] at h; exact List.mem_cons_of_mem _ (lookN_mem h)
structure VXOK (P : Program) (C : VX) : Prop where
 eqN : ∀ tn ∈ C.eqN, EqN P tn.1 tn.2
 te : TEOK P C.te
 eq2 : ∀ t ∈ C.eq2, ∀ (op : BinOp) (x y x' y' : Int) (W : World), (op = .eql ∨ op = .neq) → ∀ (u v : Operand),
  (do eqGuard op t u v (.agg #[.int .i64 x, .int .i64 y]) (.agg #[.int .i64 x', .int .i64 y']); binOp op t (.agg #[.int .i64 x, .int .i64 y]) (.agg #[.int .i64 x', .int .i64 y']) : Sem Value).run P W
   = .ok (.bool (eqRes op (x == x' && y == y'))) W
 mixed : P.follows .mixedOrders = true
def memN : List Nat → Nat → Bool
 | [], _ => false
 | x :: r, t => match Nat.beq t x with | true => true | false => memN r t
theorem memN_mem : ∀ {l : List Nat} {t : Nat}, memN l t = true → t ∈ l
 | x :: r, t, h => by
  simp only [memN] at h
  cases hb : Nat.beq t x with
  | true => rw [Nat.eq_of_beq_eq_true hb]; simp
  | false => rw [hb] at h; exact List.mem_cons_of_mem _ (memN_mem h)
def bin (C : VX) (op : BinOp) (t : TypeId) (x y : SV) (k : SV → Prop) : Prop :=
 match x, y with
 | .v (.int ka a), .v (.int kb b) => match op with
  | .shl => shOp .shl ka a b fun v => k (.v v)
  | .shr => shOp .shr ka a b fun v => k (.v v)
  | op => match decide (ka = kb) with
   | true => intOp op ka a b fun v => k (.v v)
   | false => VStuck 43
 | .v (.bool a), .v (.bool b) => match look C.te t with
  | some ⟨.bool, _, _⟩ => match op with
   | .eql => k (.v (.bool (a == b)))
   | .neq => k (.v (.bool (!(a == b))))
   | _ => VStuck 44
  | _ => VStuck 45
 | .v (.agg u), .v (.agg v) => match u.toList, v.toList with
  | [.int .i64 a, .int .i64 b], [.int .i64 a', .int .i64 b'] => match memN C.eq2 t with
   | true => match op with
    | .eql => k (.v (.bool (a == a' && b == b')))
    | .neq => k (.v (.bool (!(a == a' && b == b'))))
    | _ => VStuck 46
   | false => VStuck 47
  | l, l' => match lookN C.eqN t, intsV l, intsV l' with
   | some n, some xs, some ys => match Nat.beq xs.length n, Nat.beq ys.length n with
    | true, true => match op with
     | .eql => k (.v (.bool (eqI xs ys)))
     | .neq => k (.v (.bool (!eqI xs ys)))
     | _ => VStuck 48
    | _, _ => VStuck 47
   | _, _, _ => VStuck 48
 | .v (.slice a _ _), .v (.slice none 0 0) => match look C.te t with
  | some ⟨.sl _, _, _⟩ => match op with
   | .eql => k (.v (.bool a.isNone))
   | .neq => k (.v (.bool (!a.isNone)))
   | _ => VStuck 198
  | _ => VStuck 199
 | _, _ => VStuck 49
theorem equalIn_bool {t : TypeId} (hd : P.underlying t = some .bool) (d : Nat) (a b : Bool) (W : World) : (Op.equalIn (d + 1) t (.bool a) (.bool b)).run P W = .ok (a == b) W := by
 simp [Op.equalIn, run_underlying hd]
theorem equalIn_nil {t e : TypeId} (hd : P.underlying t = some (.slice e)) (d : Nat) (a : Option Addr) (n c : Nat) (W : World) : (Op.equalIn (d + 1) t (.slice a n c) (.slice none 0 0)).run P W = .ok a.isNone W := by
 cases a <;> simp [Op.equalIn, run_underlying hd]
theorem eql_bool {t : TypeId} (hd : P.underlying t = some .bool) (a b : Bool) (W : World) : (binOp .eql t (.bool a) (.bool b)).run P W = .ok (.bool (a == b)) W := by
 have := equalIn_bool hd 9999 a b W
 simp only [binOp, Op.equal, Op.maxDepth, Sem.run_bind, this, Result.andThen_ok, Sem.run_pure]
theorem neq_bool {t : TypeId} (hd : P.underlying t = some .bool) (a b : Bool) (W : World) : (binOp .neq t (.bool a) (.bool b)).run P W = .ok (.bool (!(a == b))) W := by
 have := equalIn_bool hd 9999 a b W
 simp only [binOp, Op.equal, Op.maxDepth, Sem.run_bind, this, Result.andThen_ok, Sem.run_pure]
theorem bin_sound {C : VX} (hC : VXOK P C) {ρ : Env} {nx : Nat} {op : BinOp} {t : TypeId} {x y : SV} {k : SV → Prop} (hk : bin C op t x y k) (u v : Operand) :
  ∃ s, s.sc nx ∧ (∀ W, (do eqGuard op t u v (x.den ρ) (y.den ρ); binOp op t (x.den ρ) (y.den ρ) : Sem Value).run P W = .ok (s.den ρ) W) ∧ k s := by
 unfold bin at hk
 split at hk
 ·rename_i ka a kb b
  have hg : ∀ W, (eqGuard op t u v (.int ka a) (.int kb b)).run P W = .ok () W := by
   intro W; unfold eqGuard; split <;> rfl
  split at hk
  ·obtain ⟨v', hr, hk'⟩ := shOp_run (P := P) hk t kb
   exact ⟨.v v', trivial, fun W => by simp only [SV.den, Sem.run_bind, hg, Result.andThen_ok, hr], hk'⟩
  ·obtain ⟨v', hr, hk'⟩ := shOp_run (P := P) hk t kb
   exact ⟨.v v', trivial, fun W => by simp only [SV.den, Sem.run_bind, hg, Result.andThen_ok, hr], hk'⟩
  ·split at hk
   ·rename_i hd
    have hkk : ka = kb := of_decide_eq_true hd
    subst hkk
    obtain ⟨v', hr, hk'⟩ := intOp_run (P := P) hk t
    exact ⟨.v v', trivial, fun W => by simp only [SV.den, Sem.run_bind, hg, Result.andThen_ok, hr], hk'⟩
   ·cases hk
 ·rename_i a b
  have hg : ∀ W, (eqGuard op t u v (.bool a) (.bool b)).run P W = .ok () W := by
   intro W; unfold eqGuard; split <;> rfl
  split at hk
  ·rename_i z by' hl
   have hT := hC.te t _ hl
   obtain ⟨d, hd, hf⟩ := hT.und
   simp only [TK.fits] at hf
   subst hf
   split at hk
   ·exact ⟨.v (.bool (a == b)), trivial, fun W => by simp only [SV.den, Sem.run_bind, hg, Result.andThen_ok]; exact eql_bool hd a b W, hk⟩
   ·exact ⟨.v (.bool (!(a == b))), trivial, fun W => by simp only [SV.den, Sem.run_bind, hg, Result.andThen_ok]; exact neq_bool hd a b W, hk⟩
   ·cases hk
  ·cases hk
 ·rename_i u' v'
  split at hk
  ·rename_i a b a' b' h1 h2
   have e1 : u' = #[.int .i64 a, .int .i64 b] := by rw [← Array.toArray_toList (xs := u'), h1]
   have e2 : v' = #[.int .i64 a', .int .i64 b'] := by rw [← Array.toArray_toList (xs := v'), h2]
   subst e1; subst e2
   split at hk
   ·rename_i hm
    have hq := hC.eq2 t (memN_mem hm)
    split at hk
    ·exact ⟨.v (.bool (a == a' && b == b')), trivial, fun W => hq .eql a b a' b' W (.inl rfl) u v, hk⟩
    ·exact ⟨.v (.bool (!(a == a' && b == b'))), trivial, fun W => hq .neq a b a' b' W (.inr rfl) u v, hk⟩
    ·cases hk
   ·cases hk
  ·split at hk
   ·rename_i n xs ys hln hx hy
    split at hk
    ·rename_i hlx hly
     have e1 : u' = (xs.map (Value.int .i64)).toArray := by rw [← Array.toArray_toList (xs := u'), intsV_eq hx]
     have e2 : v' = (ys.map (Value.int .i64)).toArray := by rw [← Array.toArray_toList (xs := v'), intsV_eq hy]
     subst e1; subst e2
     have hq := hC.eqN _ (lookN_mem hln)
     split at hk
     ·exact ⟨.v (.bool (eqI xs ys)), trivial, fun W => hq .eql xs ys W (Nat.eq_of_beq_eq_true hlx) (Nat.eq_of_beq_eq_true hly) (.inl rfl) u v, hk⟩
     ·exact ⟨.v (.bool (!eqI xs ys)), trivial, fun W => hq .neq xs ys W (Nat.eq_of_beq_eq_true hlx) (Nat.eq_of_beq_eq_true hly) (.inr rfl) u v, hk⟩
     ·cases hk
    ·cases hk
   ·cases hk
 ·rename_i a n c
  have hg : ∀ W, (eqGuard op t u v (.slice a n c) (.slice none 0 0)).run P W = .ok () W := by
   intro W; unfold eqGuard; split <;> rfl
  split at hk
  ·rename_i e z by' hl
   have hT := hC.te t _ hl
   obtain ⟨d, hd, hf⟩ := hT.und
   simp only [TK.fits] at hf
   subst hf
   have he := fun W => equalIn_nil hd 9999 a n c W
   split at hk
   ·exact ⟨.v (.bool a.isNone), trivial, fun W => by simp only [SV.den, Sem.run_bind, hg, Result.andThen_ok, binOp, Op.equal, Op.maxDepth, he, Sem.run_pure], hk⟩
   ·exact ⟨.v (.bool (!a.isNone)), trivial, fun W => by simp only [SV.den, Sem.run_bind, hg, Result.andThen_ok, binOp, Op.equal, Op.maxDepth, he, Sem.run_pure], hk⟩
   ·cases hk
  ·cases hk
 ·cases hk
def intsOf : List SV → Option (IntKind × List Int)
 | [] => none
 | [.v (.int k n)] => some (k, [n])
 | .v (.int k n) :: r => match intsOf r with
  | some (k', l) => match decide (k = k') with | true => some (k, n :: l) | false => none
  | none => none
 | _ => none
theorem intsOf_den {ρ : Env} : ∀ {l : List SV} {k : IntKind} {ns : List Int}, intsOf l = some (k, ns) → l.map (SV.den ρ) = ns.map (Value.int k) ∧ ns ≠ []
 | [], _, _, h => by cases h
 | [s], k, ns, h => by
  cases s with
  | v x => cases x <;> simp only [intsOf, reduceCtorEq, Option.some.injEq, Prod.mk.injEq] at h; obtain ⟨rfl, rfl⟩ := h; simp [SV.den]
  | _ => cases h
 | s :: s2 :: r, k, ns, h => by
  cases s with
  | v x =>
   cases x <;> simp only [intsOf, reduceCtorEq] at h
   cases hr : intsOf (s2 :: r) with
   | none => rw [hr] at h; cases h
   | some q =>
    obtain ⟨k', l⟩ := q
    rw [hr] at h
    rename_i k0 n
    by_cases hkk : k0 = k'
    ·subst hkk
     simp only [decide_true, Option.some.injEq, Prod.mk.injEq] at h
     obtain ⟨rfl, rfl⟩ := h
     have := intsOf_den (ρ := ρ) hr
     refine ⟨?_, by simp⟩
     rw [List.map_cons, this.1]; rfl
    ·simp [hkk] at h
  | _ => cases h
theorem foldlM_max (k : IntKind) : ∀ (l : List Int) (x : Int) (W : World), ((l.map (Value.int k)).foldlM Builtin.max2 (.int k x)).run P W = .ok (.int k (l.foldl max x)) W
 | [], x, W => rfl
 | y :: l, x, W => by
  have e : (if y > x then y else x) = max x y := by
   show (if y > x then y else x) = if x ≤ y then y else x
   split <;> split <;> omega
  simp only [List.map_cons, List.foldlM_cons, Builtin.max2, Sem.run_bind, Sem.run_pure, Result.andThen_ok, List.foldl_cons, e]
  exact foldlM_max k l _ W
theorem foldlM_min (k : IntKind) : ∀ (l : List Int) (x : Int) (W : World), ((l.map (Value.int k)).foldlM Builtin.min2 (.int k x)).run P W = .ok (.int k (l.foldl min x)) W
 | [], x, W => rfl
 | y :: l, x, W => by
  have e : (if y < x then y else x) = min x y := by
   show (if y < x then y else x) = if x ≤ y then x else y
   split <;> split <;> omega
  simp only [List.map_cons, List.foldlM_cons, Builtin.min2, Sem.run_bind, Sem.run_pure, Result.andThen_ok, List.foldl_cons, e]
  exact foldlM_min k l _ W
end Go.V
namespace Go.V
open Go Go.RowKit
variable {P : Program}
def un (op : UnOp) (x : SV) (k : SV → Prop) : Prop :=
 match op, x with
 | .not, .v (.bool b) => k (.v (.bool (!b)))
 | .neg, .v (.int kk n) => arith kk (-n) fun m => k (.v (.int kk m))
 | _, _ => VStuck 50
theorem un_sound {ρ : Env} {nx : Nat} {op : UnOp} {x : SV} {k : SV → Prop} (hk : un op x k) :
  ∃ s, s.sc nx ∧ (∀ W, (Op.unary op (x.den ρ)).run P W = .ok (s.den ρ) W) ∧ k s := by
 unfold un at hk
 split at hk
 ·rename_i b
  exact ⟨.v (.bool (!b)), trivial, fun W => rfl, hk⟩
 ·rename_i kk n
  have := arith_elim hk
  refine ⟨.v (.int kk (kk.wrap (-n))), trivial, fun W => ?_, this⟩
  simp [SV.den, Op.unary, Op.intArith]
 ·cases hk
def conv (C : VX) (src dst : TypeId) (x : SV) (k : SV → Prop) : Prop :=
 match look C.te src, look C.te dst, x with
 | some ⟨.int _, _, _⟩, some ⟨.int kd, _, _⟩, .v (.int _ n) => arith kd n fun m => k (.v (.int kd m))
 | _, _, _ => VStuck 51
theorem conv_sound {C : VX} (hC : VXOK P C) {ρ : Env} {nx : Nat} {src dst : TypeId} {x : SV} {k : SV → Prop} (hk : conv C src dst x k) :
  ∃ s, s.sc nx ∧ (∀ W, (convert src dst (x.den ρ)).run P W = .ok (s.den ρ) W) ∧ k s := by
 unfold conv at hk
 split at hk
 ·rename_i ks z1 b1 kd z2 b2 kx n h1 h2
  obtain ⟨d1, hd1, hf1⟩ := (hC.te _ _ h1).und
  obtain ⟨d2, hd2, hf2⟩ := (hC.te _ _ h2).und
  simp only [TK.fits] at hf1 hf2
  subst hf1; subst hf2
  refine ⟨.v (.int kd (kd.wrap n)), trivial, fun W => ?_, arith_elim hk⟩
  simp [SV.den, convert, run_underlying hd1, run_underlying hd2, Conv.intToInt]
 ·cases hk
def extr (x : SV) (i : Nat) (k : SV → Prop) : Prop :=
 match x with
 | .tup l => match l[i]? with
  | some (.v x) => k (.v x)
  | some (.box id off) => k (.box id off)
  | some (.row id) => k (.row id)
  | none => VStuck 52
 | _ => VStuck 53
theorem extr_sound {ρ : Env} {nx : Nat} {x : SV} {i : Nat} {k : SV → Prop} (hk : extr x i k) (hx : x.sc nx) :
  ∃ s, s.sc nx ∧ (∀ W, (Instr.extract (x.den ρ) i).run P W = .ok (s.den ρ) W) ∧ k s := by
 unfold extr at hk
 cases x with
 | tup l =>
  simp only at hk
  cases hl : l[i]? with
  | none => rw [hl] at hk; cases hk
  | some a =>
   rw [hl] at hk
   have hm := hx a (List.mem_of_getElem? hl)
   cases a with
   | v x => exact ⟨.v x, trivial, fun W => by simp [SV.den, Instr.extract, hl, At.den], hk⟩
   | box id off => exact ⟨.box id off, hm, fun W => by simp [SV.den, Instr.extract, hl, At.den], hk⟩
   | row id => exact ⟨.row id, hm, fun W => by simp [SV.den, Instr.extract, hl, At.den], hk⟩
 | _ => cases hk
def fieldOf (C : VX) (t : TypeId) (f : Nat) : Option (Nat × TI) :=
 match look C.te t with
 | some ⟨.st fl, _, _⟩ => match fl[f]? with
  | some (o, ft) => match look C.te ft with
   | some i => some (o, i)
   | none => none
  | none => none
 | _ => none
theorem fieldOf_spec {C : VX} (hC : VXOK P C) {t : TypeId} {f o : Nat} {i : TI} (h : fieldOf C t f = some (o, i)) :
  ∃ (fs : Array Field) (fd : Field), P.underlying t = some (.struct fs) ∧ fs[f]? = some fd ∧ fd.offset = o ∧ TyOK P fd.type i := by
 unfold fieldOf at h
 split at h
 ·rename_i fl z b hl
  obtain ⟨d, hd, hf⟩ := (hC.te _ _ hl).und
  simp only [TK.fits] at hf
  obtain ⟨fs, rfl, hfl⟩ := hf
  split at h
  ·rename_i o' ft hg
   split at h
   ·rename_i i' hi
    simp only [Option.some.injEq, Prod.mk.injEq] at h
    obtain ⟨rfl, rfl⟩ := h
    rw [← hfl, List.getElem?_map] at hg
    simp only [Array.getElem?_toList] at hg
    cases hfd : fs[f]? with
    | none => rw [hfd] at hg; cases hg
    | some fd =>
     rw [hfd] at hg
     simp only [Option.map_some, Option.some.injEq, Prod.mk.injEq] at hg
     exact ⟨fs, fd, hd, rfl.trans hfd, hg.1, by rw [hg.2]; exact hC.te _ _ hi⟩
   ·cases h
  ·cases h
 ·cases h
def fldA (C : VX) (_st : St) (t : TypeId) (p : SV) (f : Nat) (k : SV → Prop) : Prop :=
 match fieldOf C t f with
 | some (o, i) => match Nat.beq i.zero.length 0 with
  | false => match p with
   | .box id off => k (.box id (off + o))
   | .v (.pointer (some ad)) => k (.v (.pointer (some (ad.add o))))
   | _ => VStuck 54
  | true => VStuck 55
 | none => VStuck 56
theorem fldA_sound {C : VX} (hC : VXOK P C) {ρ : Env} {st : St} {t : TypeId} {p : SV} {f : Nat} {k : SV → Prop} (hk : fldA C st t p f k) (hp : p.sc st.nx) :
  ∃ s, s.sc st.nx ∧ (∀ W, (Instr.fieldAt t (p.den ρ) f).run P W = .ok (s.den ρ) W) ∧ k s := by
 unfold fldA at hk
 cases hf : fieldOf C t f with
 | none => rw [hf] at hk; cases hk
 | some q =>
  obtain ⟨o, i⟩ := q
  rw [hf] at hk
  simp only at hk
  obtain ⟨fs, fd, h1, h2, h3, h4⟩ := fieldOf_spec hC hf
  cases hz : Nat.beq i.zero.length 0 with
  | true => rw [hz] at hk; cases hk
  | false =>
   rw [hz] at hk
   have hne : ¬ i.zero.length = 0 := fun e => by rw [e] at hz; cases hz
   have hsz := fun W => h4.sizeOf W
   simp only at hk
   split at hk
   ·rename_i id off
    refine ⟨.box id (off + o), hp, fun W => ?_, hk⟩
    simp only [SV.den, Instr.fieldAt, Sem.run_bind, run_underlying h1, Result.andThen_ok, h2, Instr.sureAddr, Sem.run_pure, fieldPlace, hsz, h3]
    rw [if_neg hne]
    simp [Addr.add_none]
   ·rename_i ad
    refine ⟨.v (.pointer (some (ad.add o))), trivial, fun W => ?_, hk⟩
    simp only [SV.den, Instr.fieldAt, Sem.run_bind, run_underlying h1, Result.andThen_ok, h2, Instr.sureAddr, Sem.run_pure, fieldPlace, hsz, h3]
    rw [if_neg hne]
    simp
   ·cases hk
def fldV (C : VX) (t : TypeId) (x : SV) (f : Nat) (k : SV → Prop) : Prop :=
 match fieldOf C t f, x with
 | some (o, i), .v (.agg arr) => match i.k.agg with
  | true => k (.v (.agg ((arr.toList.drop o).take i.zero.length).toArray))
  | false => match arr.toList[o]? with
   | some x => k (.v x)
   | none => VStuck 57
 | _, _ => VStuck 58
theorem fldV_sound {C : VX} (hC : VXOK P C) {ρ : Env} {nx : Nat} {t : TypeId} {x : SV} {f : Nat} {k : SV → Prop} (hk : fldV C t x f k) :
  ∃ s, s.sc nx ∧ (∀ W, (Instr.field t (x.den ρ) f).run P W = .ok (s.den ρ) W) ∧ k s := by
 unfold fldV at hk
 split at hk
 ·rename_i o i arr hf
  obtain ⟨fs, fd, h1, h2, h3, h4⟩ := fieldOf_spec hC hf
  have hag := fun W => h4.isAgg W
  have hsz := fun W => h4.sizeOf W
  split at hk
  ·rename_i ha
   rw [ha] at hag
   refine ⟨.v (.agg ((arr.toList.drop o).take i.zero.length).toArray), trivial, fun W => ?_, hk⟩
   simp only [SV.den, Instr.field, Sem.run_bind, run_underlying h1, Result.andThen_ok, h2, asAgg, Sem.run_pure, part, hag, if_true, hsz, h3]
   congr 2
   apply Array.ext'
   rw [Array.toList_extract, List.extract_eq_take_drop]
   congr 1
   omega
  ·rename_i ha
   rw [ha] at hag
   split at hk
   ·rename_i x hx
    refine ⟨.v x, trivial, fun W => ?_, hk⟩
    simp only [Array.getElem?_toList] at hx
    simp [SV.den, Instr.field, run_underlying h1, h2, asAgg, part, hag, h3, hx]
   ·cases hk
 ·cases hk
def idx (C : VX) (st : St) (t : TypeId) (x i : SV) (k : SV → Prop) : Prop :=
 match look C.te t with
 | some ⟨.sl e, _, _⟩ => match look C.te e with
  | some ei => match x, i with
   | .v (.slice a n _), .v (.int _ j) => VIdx a j n fun ad m => k (.v (.pointer (some (ad.add (m * ei.zero.length)))))
   | .row id, .v (.int _ j) => match st.own id with
    | some (.row _ sz n _) => match Nat.beq sz ei.zero.length with
     | true => VIdxR j n fun m => k (.box id (m * sz))
     | false => VStuck 60
    | some (.vw sz b q n) => match Nat.beq sz ei.zero.length with
     | true => VIdxR j n fun m => k (.box b ((q + m) * sz))
     | false => VStuck 67
    | _ => VStuck 61
   | _, _ => VStuck 62
  | none => VStuck 63
 | some ⟨.ar len e, _, _⟩ => match look C.te e with
  | some ei => match x, i with
   | .v (.pointer (some ad)), .v (.int _ j) => VIdxR j len fun m => k (.v (.pointer (some (ad.add (m * ei.zero.length)))))
   | .box id off, .v (.int _ j) => VIdxR j len fun m => k (.box id (off + m * ei.zero.length))
   | _, _ => VStuck 68
  | none => VStuck 69
 | _ => VStuck 64
theorem idx_sound {C : VX} (hC : VXOK P C) {n₀ : Nat} {w : World} {M₀ : Mem} {ρ : Env} {st : St} {W0 : World} (h0 : SatH n₀ w M₀ ρ st W0) {t : TypeId} {x i : SV} {k : SV → Prop} (hk : idx C st t x i k) (hx : x.sc st.nx) :
  ∃ s, s.sc st.nx ∧ (∀ W, SatH n₀ w M₀ ρ st W → (Instr.indexAt t (x.den ρ) (i.den ρ)).run P W = .ok (s.den ρ) W) ∧ k s := by
 unfold idx at hk
 split at hk
 ·rename_i e z1 b1 hl
  obtain ⟨d, hd, hf⟩ := (hC.te _ _ hl).und
  simp only [TK.fits] at hf
  subst hf
  split at hk
  ·rename_i ei hei
   have hsz := fun W => (hC.te _ _ hei).sizeOf W
   split at hk
   ·rename_i a n c kk j
    obtain ⟨ad, m, rfl, rfl, hm, hk⟩ := hk
    refine ⟨.v (.pointer (some (ad.add (m * ei.zero.length)))), trivial, fun W _ => ?_, hk⟩
    have hb : (0 : Int) ≤ (m : Int) ∧ (m : Int) < (n : Int) := by omega
    simp [SV.den, Instr.indexAt, asIntOf, run_underlying hd, hsz]
    intro hle; omega
   ·rename_i id kk j
    split at hk
    ·rename_i E sz n xs hid
     split at hk
     ·rename_i hs
      have hs := Nat.eq_of_beq_eq_true hs
      obtain ⟨m, rfl, hm, hk⟩ := hk
      refine ⟨.box id (m * sz), hx, fun W h => ?_, hk⟩
      obtain ⟨_, _, ho, _⟩ := h.own id _ hid
      rcases ho.2 with ⟨_, h0⟩ | ⟨g, cap, cur, hg, _⟩
      ·omega
      ·have hb : (0 : Int) ≤ (m : Int) ∧ (m : Int) < (n : Int) := by omega
       have := Addr.add_none g 0 (m * ei.zero.length)
       simp [SV.den, hg, slOf, blkOf, Instr.indexAt, asIntOf, run_underlying hd, hsz, this, hs]
       intro hle; omega
     ·cases hk
    ·rename_i sz b q n hid
     split at hk
     ·rename_i hs
      have hs := Nat.eq_of_beq_eq_true hs
      obtain ⟨m, rfl, hm, hk⟩ := hk
      have hbx : b < st.nx := (h0.own id _ hid).2.1
      ·refine ⟨.box b ((q + m) * sz), hbx, fun W h => ?_, hk⟩
       obtain ⟨_, _, _, B, mb, cb, c, h2, h3⟩ := h.own id _ hid
       have hb : (0 : Int) ≤ (m : Int) ∧ (m : Int) < (n : Int) := by omega
       have := Addr.add_none B (q * sz) (m * ei.zero.length)
       rw [← hs, ← Nat.add_mul] at this
       simp [SV.den, h3, h2, blkOf, Instr.indexAt, asIntOf, run_underlying hd, hsz, ← hs, this]
       intro hle; omega
     ·cases hk
    ·cases hk
   ·cases hk
  ·cases hk
 ·rename_i len e z1 b1 hl
  obtain ⟨d, hd, hf⟩ := (hC.te _ _ hl).und
  simp only [TK.fits] at hf
  subst hf
  split at hk
  ·rename_i ei hei
   have hsz := fun W => (hC.te _ _ hei).sizeOf W
   split at hk
   ·rename_i ad kk j
    obtain ⟨m, rfl, hm, hk⟩ := hk
    refine ⟨.v (.pointer (some (ad.add (m * ei.zero.length)))), trivial, fun W _ => ?_, hk⟩
    have hb : (0 : Int) ≤ (m : Int) ∧ (m : Int) < (len : Int) := by omega
    simp [SV.den, Instr.indexAt, asIntOf, Instr.sureAddr, run_underlying hd, hsz, hm]
   ·rename_i id off kk j
    obtain ⟨m, rfl, hm, hk⟩ := hk
    refine ⟨.box id (off + m * ei.zero.length), hx, fun W h => ?_, hk⟩
    have hb : (0 : Int) ≤ (m : Int) ∧ (m : Int) < (len : Int) := by omega
    simp [SV.den, Instr.indexAt, asIntOf, Instr.sureAddr, run_underlying hd, hsz, Addr.add_none, hm]
   ·cases hk
  ·cases hk
 ·cases hk
def idxV (C : VX) (t : TypeId) (x i : SV) (k : SV → Prop) : Prop :=
 match look C.te t with
 | some ⟨.ar len e, _, _⟩ => match look C.te e with
  | some ei => match ei.k.agg, x, i with
   | false, .v (.agg arr), .v (.int _ j) => VIdxR j len fun m => VCells arr.toList (m * ei.zero.length) 1 fun l => ∃ y, l = [y] ∧ k (.v y)
   | true, .v (.agg arr), .v (.int _ j) => VIdxR j len fun m => VCells arr.toList (m * ei.zero.length) ei.zero.length fun l => k (.v (.agg l.toArray))
   | _, _, _ => VStuck 230
  | none => VStuck 231
 | _ => VStuck 232
theorem idxV_sound {C : VX} (hC : VXOK P C) {ρ : Env} {nx : Nat} {t : TypeId} {x i : SV} {k : SV → Prop} (hk : idxV C t x i k) :
  ∃ s, s.sc nx ∧ (∀ W, (Instr.index t (x.den ρ) (i.den ρ)).run P W = .ok (s.den ρ) W) ∧ k s := by
 unfold idxV at hk
 split at hk
 ·rename_i len e z1 b1 hl
  obtain ⟨d, hd, hf⟩ := (hC.te _ _ hl).und
  simp only [TK.fits] at hf
  subst hf
  split at hk
  ·rename_i ei hei
   have hsz := fun W => (hC.te _ _ hei).sizeOf W
   have hag := fun W => (hC.te _ _ hei).isAgg W
   split at hk
   ·rename_i arr kk j ha
    rw [ha] at hag
    obtain ⟨m, rfl, hm, hc, hcl, hcs, y, rfl, hk⟩ := hk
    refine ⟨.v y, trivial, fun W => ?_, hk⟩
    have hy := hcs 0 y rfl
    simp only [Nat.add_zero, Array.getElem?_toList] at hy
    have hb : (0 : Int) ≤ (m : Int) ∧ (m : Int) < (len : Int) := by omega
    simp only [SV.den, Instr.index, asIntOf, Sem.run_bind, Sem.run_pure, Result.andThen_ok, run_underlying hd, hb, and_self, if_true, hsz, Int.toNat_natCast]
    simp [part, hag, hy]
   ·rename_i arr kk j ha
    rw [ha] at hag
    obtain ⟨m, rfl, hm, cs, hcl, hcs, hk⟩ := hk
    refine ⟨.v (.agg cs.toArray), trivial, fun W => ?_, hk⟩
    have hb : (0 : Int) ≤ (m : Int) ∧ (m : Int) < (len : Int) := by omega
    have ex : arr.extract (m * ei.zero.length) (m * ei.zero.length + ei.zero.length) = cs.toArray := by
     refine Array.ext_getElem? fun q => ?_
     rw [Array.getElem?_extract, List.getElem?_toArray]
     by_cases hq : q < cs.length
     ·have h1 := hcs q _ (List.getElem?_eq_getElem hq)
      have h2 := (List.getElem?_eq_some_iff.1 h1).1
      rw [Array.length_toList] at h2
      rw [if_pos (by omega), ← Array.getElem?_toList, h1]
      simp [hq]
     ·rw [if_neg (by omega)]
      simp [hq]
    simp only [SV.den, Instr.index, asIntOf, Sem.run_bind, Sem.run_pure, Result.andThen_ok, run_underlying hd, hb, and_self, if_true, hsz, Int.toNat_natCast]
    simp [part, hag, hsz, ex]
   ·cases hk
  ·cases hk
 ·cases hk
def lenOf (st : St) (x : SV) (k : SV → Prop) : Prop :=
 match x with
 | .v (.slice _ n _) => k (.v (.int .i64 n))
 | .row id => match st.own id with
  | some (.row _ _ n _) => k (.v (.int .i64 n))
  | some (.vw _ _ _ n) => k (.v (.int .i64 n))
  | _ => VStuck 65
 | _ => VStuck 66
theorem lenOf_sound {C : VX} (hC : VXOK P C) {n₀ : Nat} {w : World} {M₀ : Mem} {ρ : Env} {st : St} {t ty : TypeId} {x : SV} {k : SV → Prop} (hk : lenOf st x k)
  {e : TypeId} {z : List Value} {b : Nat} (ht : look C.te t = some ⟨.sl e, z, b⟩) :
  ∃ s, s.sc st.nx ∧ (∀ W, SatH n₀ w M₀ ρ st W → (Builtin.len_ #[t] ty #[x.den ρ]).run P W = .ok (s.den ρ) W) ∧ k s := by
 obtain ⟨d, hd, hf⟩ := (hC.te _ _ ht).und
 simp only [TK.fits] at hf
 subst hf
 unfold lenOf at hk
 split at hk
 ·rename_i a n c
  exact ⟨.v (.int .i64 n), trivial, fun W _ => by simp [SV.den, Builtin.len_, run_underlying hd, goInt], hk⟩
 ·rename_i id
  split at hk
  ·rename_i E sz n xs hid
   refine ⟨.v (.int .i64 n), trivial, fun W h => ?_, hk⟩
   obtain ⟨_, _, ho, _⟩ := h.own id _ hid
   rcases ho.2 with ⟨hv, h0⟩ | ⟨g, cap, cur, hg, _⟩
   ·subst h0; simp [SV.den, hv, slOf, Builtin.len_, run_underlying hd, goInt]
   ·simp [SV.den, hg, slOf, Builtin.len_, run_underlying hd, goInt]
  ·rename_i sz b q n hid
   refine ⟨.v (.int .i64 n), trivial, fun W h => ?_, hk⟩
   obtain ⟨_, _, _, B, mb, cb, c, h2, h3⟩ := h.own id _ hid
   simp [SV.den, h3, Builtin.len_, run_underlying hd, goInt]
  ·cases hk
 ·cases hk
end Go.V
namespace Go.V
open Go Go.RowKit
variable {P : Program}
def lay (cells : List Value) (o : Nat) (vs : List Value) : List Value := cells.take o ++ vs ++ cells.drop (o + vs.length)
theorem foldl_lay (o : Nat) : ∀ (vs : List Value) (s : Nat) (arr : Array Value), o + s + vs.length ≤ arr.size →
  ((vs.zipIdx s).foldl (fun cs (p : Value × Nat) => cs.setIfInBounds (o + p.2) p.1) arr).toList = lay arr.toList (o + s) vs
 | [], s, arr, _ => by simp [lay]
 | v :: vs, s, arr, h => by
  simp only [List.length_cons] at h
  rw [List.zipIdx_cons, List.foldl_cons, foldl_lay o vs (s + 1) _ (by rw [Array.size_setIfInBounds]; omega)]
  unfold lay
  simp only [Array.toList_setIfInBounds]
  have h1 : o + s < arr.toList.length := by simp only [Array.length_toList]; omega
  have e1 : (arr.toList.set (o + s) v).take (o + (s + 1)) = arr.toList.take (o + s) ++ [v] := by
   have : o + (s + 1) = o + s + 1 := by omega
   rw [this, List.take_succ_eq_append_getElem (by simpa using h1)]
   simp [List.take_set_of_le]
  have e2 : (arr.toList.set (o + s) v).drop (o + (s + 1) + vs.length) = arr.toList.drop (o + s + (v :: vs).length) := by
   have : o + (s + 1) + vs.length = o + s + (v :: vs).length := by simp; omega
   rw [this, List.drop_set_of_lt (by simp only [List.length_cons]; omega)]
  rw [e1, e2]
  simp
def fillL (pl : Nat → Option (Nat × Nat)) : List Value → List (Nat × List Value) → Option (List Value)
 | cells, [] => some cells
 | cells, (i, vs) :: r => match pl i with
  | some (o, n) => match Nat.beq vs.length n && Nat.ble (o + vs.length) cells.length with
   | true => fillL pl (lay cells o vs) r
   | false => none
  | none => none
theorem fillL_sound (pl : Nat → Option (Nat × Nat)) : ∀ (parts : List (Nat × Value)) (cells out : List Value), fillL pl cells (parts.map fun p => (p.1, p.2.cells.toList)) = some out →
  Instr.fill pl cells.toArray parts = some out.toArray
 | [], cells, out, h => by simp only [List.map_nil, fillL, Option.some.injEq] at h; simp [Instr.fill, h]
 | (i, v) :: r, cells, out, h => by
  simp only [List.map_cons, fillL] at h
  cases hp : pl i with
  | none => rw [hp] at h; cases h
  | some q =>
   obtain ⟨o, n⟩ := q
   rw [hp] at h
   simp only at h
   split at h
   ·rename_i hb
    simp only [Bool.and_eq_true] at hb
    have h1 := Nat.eq_of_beq_eq_true hb.1
    have h2 := Nat.le_of_ble_eq_true hb.2
    simp only [Array.length_toList] at h1 h2
    have ih := fillL_sound pl r _ out h
    unfold Instr.fill
    simp only [hp]
    rw [if_neg (by simp; omega)]
    have hf := foldl_lay o v.cells.toList 0 cells.toArray (by simp; omega)
    have e : (v.cells.zipIdx.foldl (fun cs (c, j) => cs.setIfInBounds (o + j) c) cells.toArray) = (lay cells o v.cells.toList).toArray := by
     apply Array.ext'
     rw [← Array.foldl_toList]
     simpa using hf
    rw [e]
    exact ih
   ·cases h
def places (C : VX) : List (Nat × TypeId) → Option (List (Nat × Nat))
 | [] => some []
 | (o, t) :: r => match look C.te t, places C r with
  | some i, some l => some ((o, i.zero.length) :: l)
  | _, _ => none
theorem places_run {C : VX} (hC : VXOK P C) (W : World) : ∀ (fs : List Field) {l : List (Nat × Nat)}, places C (fs.map fun f => (f.offset, f.type)) = some l →
  (fs.mapM fun f => (do pure (f.offset, ← sizeOf f.type) : Sem (Nat × Nat))).run P W = .ok l W
 | [], l, h => by simp only [List.map_nil, places, Option.some.injEq] at h; subst h; rfl
 | f :: fs, l, h => by
  simp only [List.map_cons, places] at h
  split at h
  ·rename_i i l' hi hl
   simp only [Option.some.injEq] at h
   subst h
   have ih := places_run hC W fs hl
   have hs := (hC.te _ _ hi).sizeOf W
   simp only [List.mapM_cons, Sem.run_bind, hs, Result.andThen_ok, Sem.run_pure, ih]
  ·cases h
def partV (st : St) : List (Nat × Operand) → Option (List (Nat × List Value))
 | [] => some []
 | (i, x) :: r => match st.ev x with
  | some s => match s.cells with
   | some l => match vals l, partV st r with
    | some vs, some q => some ((i, vs) :: q)
    | _, _ => none
   | none => none
  | none => none
theorem partV_sound {n₀ : Nat} {w : World} {M₀ : Mem} {ρ : Env} {st : St} {a : Act} {W : World} (h : Sat n₀ w M₀ ρ st a W) : ∀ {l : List (Nat × Operand)} {r : List (Nat × List Value)}, partV st l = some r →
  (l.map fun p => (p.1, a.eval p.2)).map (fun p => (p.1, p.2.cells.toList)) = r
 | [], r, hr => by simp only [partV, Option.some.injEq] at hr; subst hr; rfl
 | (i, x) :: l, r, hr => by
  simp only [partV] at hr
  split at hr
  ·rename_i s hs
   split at hr
   ·rename_i cl hcl
    split at hr
    ·rename_i vs q hv hq
     simp only [Option.some.injEq] at hr
     subst hr
     have h1 := (h.ev hs).1
     have h2 := cells_den (ρ := ρ) hcl
     rw [← h1] at h2
     have h3 := vals_den (ρ := ρ) hv
     simp only [List.map_cons]
     rw [partV_sound h hq, h2, h3]
    ·cases hr
   ·cases hr
  ·cases hr
def bld (C : VX) (st : St) (t : TypeId) (parts : Array (Nat × Operand)) (k : SV → Prop) : Prop :=
 match look C.te t with
 | some ⟨.st fl, z, _⟩ => match places C fl, partV st parts.toList with
  | some pl, some ps => match fillL (fun i => pl[i]?) z ps with
   | some out => k (.v (.agg out.toArray))
   | none => VStuck 70
  | _, _ => VStuck 71
 | some ⟨.ar _ e, z, _⟩ => match look C.te e, partV st parts.toList with
  | some ei, some ps => match fillL (fun i => some (i * ei.zero.length, ei.zero.length)) z ps with
   | some out => k (.v (.agg out.toArray))
   | none => VStuck 77
  | _, _ => VStuck 78
 | _ => VStuck 72
theorem bld_sound {C : VX} (hC : VXOK P C) {n₀ : Nat} {w : World} {M₀ : Mem} {ρ : Env} {st : St} {a : Act} {W : World} (h : Sat n₀ w M₀ ρ st a W) {t : TypeId} {parts : Array (Nat × Operand)} {k : SV → Prop} (hk : bld C st t parts k) :
  ∃ s, s.sc st.nx ∧ (∀ W, (Instr.build t (parts.map fun (i, x) => (i, a.eval x))).run P W = .ok (s.den ρ) W) ∧ k s := by
 unfold bld at hk
 split at hk
 ·rename_i fl z b hl
  have hT := hC.te _ _ hl
  obtain ⟨d, hd, hf⟩ := hT.und
  simp only [TK.fits] at hf
  obtain ⟨fs, rfl, hfl⟩ := hf
  split at hk
  ·rename_i pl ps hpl hps
   split at hk
   ·rename_i out hout
    refine ⟨.v (.agg out.toArray), trivial, fun W => ?_, hk⟩
    obtain ⟨zv, hz1, hz2⟩ := hT.zeroValue W
    rw [← hfl] at hpl
    have hpr := places_run hC W fs.toList hpl
    have hpv := partV_sound h hps
    have hfs := fillL_sound (fun i => pl[i]?) (parts.toList.map fun p => (p.1, a.eval p.2)) z out (by rw [hpv]; exact hout)
    have hm : (fs.mapM fun f => (do pure (f.offset, ← sizeOf f.type) : Sem (Nat × Nat))).run P W = .ok pl.toArray W := by
     rw [Array.mapM_eq_mapM_toList]
     simp only [Sem.run_map, hpr]
     rfl
    simp only [Instr.build, Sem.run_bind, hz1, Result.andThen_ok, run_underlying hd, hm, hz2]
    have e : (parts.map fun x => (x.1, a.eval x.2)).toList = parts.toList.map fun p => (p.1, a.eval p.2) := by simp
    have e2 : (fun i : Nat => pl.toArray[i]?) = (fun i : Nat => pl[i]?) := by funext i; simp
    simp only [e, e2]
    rw [hfs]
    rfl
   ·cases hk
  ·cases hk
 ·rename_i n0 e z b hl
  have hT := hC.te _ _ hl
  obtain ⟨d, hd, hf⟩ := hT.und
  simp only [TK.fits] at hf
  subst hf
  split at hk
  ·rename_i ei ps hei hps
   split at hk
   ·rename_i out hout
    refine ⟨.v (.agg out.toArray), trivial, fun W => ?_, hk⟩
    obtain ⟨zv, hz1, hz2⟩ := hT.zeroValue W
    have hsz := (hC.te _ _ hei).sizeOf W
    have hpv := partV_sound h hps
    have hfs := fillL_sound (fun i => some (i * ei.zero.length, ei.zero.length)) (parts.toList.map fun p => (p.1, a.eval p.2)) z out (by rw [hpv]; exact hout)
    simp only [Instr.build, Sem.run_bind, hz1, Result.andThen_ok, run_underlying hd, hsz, hz2]
    have e : (parts.map fun x => (x.1, a.eval x.2)).toList = parts.toList.map fun p => (p.1, a.eval p.2) := by simp
    simp only [e]
    rw [hfs]
    rfl
   ·cases hk
  ·cases hk
 ·cases hk
def dense : Nat → List (Nat × Operand) → Bool
 | _, [] => true
 | n, (i, _) :: r => match Nat.beq i n with | true => dense (n + 1) r | false => false
def joinP (n : Nat) : List (Nat × List Value) → Option (List Value)
 | [] => some []
 | (_, vs) :: r => match Nat.beq vs.length n, joinP n r with
  | true, some l => some (vs ++ l)
  | _, _ => none
theorem dense_zip : ∀ {l : List (Nat × Operand)} {n : Nat}, dense n l = true → ∀ (f : Operand → Value), (l.map fun p => (p.1, f p.2)) = ((l.map fun p => f p.2).zipIdx n).map fun x => (x.2, x.1)
 | [], _, _, f => rfl
 | (i, x) :: r, n, h, f => by
  simp only [dense] at h
  cases hb : Nat.beq i n with
  | false => rw [hb] at h; cases h
  | true =>
   rw [hb] at h
   have := Nat.eq_of_beq_eq_true hb
   subst this
   simp only [List.map_cons, List.zipIdx_cons]
   rw [dense_zip h f]
theorem joinP_spec {n : Nat} : ∀ {l : List (Nat × Value)} {r : List Value}, joinP n (l.map fun p => (p.1, p.2.cells.toList)) = some r →
  r = (l.map (·.2)).flatMap (fun v => v.cells.toList) ∧ ∀ v ∈ l.map (·.2), v.cells.size = n
 | [], r, h => by simp only [List.map_nil, joinP, Option.some.injEq] at h; subst h; simp
 | (i, v) :: l, r, h => by
  simp only [List.map_cons, joinP] at h
  split at h
  ·rename_i l' hb hl
   simp only [Option.some.injEq] at h
   subst h
   obtain ⟨h1, h2⟩ := joinP_spec hl
   refine ⟨by simp [h1], ?_⟩
   intro u hu
   simp only [List.map_cons, List.mem_cons] at hu
   rcases hu with rfl | hu
   ·have := Nat.eq_of_beq_eq_true hb
    simpa using this
   ·exact h2 u hu
  ·cases h
def allOneV : List Value → Bool
 | [] => true
 | .agg _ :: _ => false
 | .tuple _ :: _ => false
 | _ :: r => allOneV r
theorem allOneV_spec : ∀ {l : List Value}, allOneV l = true → ∀ x ∈ l, x.oneCell' = true
 | [], _, x, hx => by cases hx
 | v :: r, h, x, hx => by
  rcases List.mem_cons.1 hx with rfl | hx
  ·cases x <;> first | rfl | cases h
  ·refine allOneV_spec (l := r) ?_ x hx
   cases v <;> first | exact h | cases h
def bldS (C : VX) (st : St) (t : TypeId) (n : Nat) (parts : Array (Nat × Operand)) (k : St → Nat → Prop) : Prop :=
 match look C.te t with
 | some ⟨.sl e, _, _⟩ => match look C.te e, partV st parts.toList with
  | some ei, some ps => match Nat.blt 0 ei.zero.length && Nat.ble (n * ei.zero.length) 16777216 && Nat.beq parts.toList.length n && dense 0 parts.toList, joinP ei.zero.length ps with
   | true, some out => match allOneV out with
    | true => st.addK (.row e ei.zero.length n out) k
    | false => VStuck 73
   | _, _ => VStuck 74
  | _, _ => VStuck 75
 | _ => VStuck 76
theorem bldS_sound {C : VX} (hC : VXOK P C) {n₀ : Nat} {w : World} {M₀ : Mem} {ρ : Env} {st : St} {a : Act} {W : World} (h : Sat n₀ w M₀ ρ st a W) {t : TypeId} {n : Nat} {parts : Array (Nat × Operand)} {k : St → Nat → Prop} (hk : bldS C st t n parts k) :
  ∃ v W' ρ' st' id, (Instr.buildSlice t n (parts.map fun (i, x) => (i, a.eval x))).run P W = .ok v W' ∧ v = (SV.row id).den ρ' ∧ id < st'.nx ∧ Sat n₀ w M₀ ρ' st' a W' ∧ st'.G = st.G ∧ k st' id ∧ Below W.heap.size W W' := by
 unfold bldS at hk
 split at hk
 ·rename_i e z b hl
  have hT := hC.te _ _ hl
  obtain ⟨d, hd, hf⟩ := hT.und
  simp only [TK.fits] at hf
  subst hf
  split at hk
  ·rename_i ei ps hei hps
   obtain ⟨inf, zv, hi1, hi2, hi3, hi4, _⟩ := (hC.te _ _ hei).inf
   split at hk
   ·rename_i out hb hout
    split at hk
    ·rename_i h1v
     replace hk := addK_iff hk
     simp only [Bool.and_eq_true] at hb
     obtain ⟨⟨⟨b1, b2⟩, b3⟩, b4⟩ := hb
     have b1 : 0 < ei.zero.length := Nat.le_of_ble_eq_true b1
     have b2 := Nat.le_of_ble_eq_true b2
     have b3 := Nat.eq_of_beq_eq_true b3
     have hpv := partV_sound h hps
     rw [← hpv] at hout
     obtain ⟨j1, j2⟩ := joinP_spec hout
     have e1 : ((parts.toList.map fun p => (p.1, a.eval p.2)).map (·.2)) = parts.toList.map fun p => a.eval p.2 := by simp
     rw [e1] at j1 j2
     have hlen : out.length = n * ei.zero.length := by
      rw [j1, List.length_flatMap]
      have : ∀ (l : List Value), (∀ v ∈ l, v.cells.size = ei.zero.length) → (l.map fun v => v.cells.toList.length).sum = l.length * ei.zero.length := by
       intro l hl
       induction l with
       | nil => simp
       | cons v l ih =>
        simp only [List.map_cons, List.sum_cons, List.length_cons]
        rw [ih (fun u hu => hl u (List.mem_cons_of_mem _ hu)), Array.length_toList, hl v (List.mem_cons_self), Nat.succ_mul]
        omega
      rw [this _ j2, List.length_map, b3]
     have hfill : Instr.fill (fun i => some (i * inf.size, inf.size)) ((Array.range (n * inf.size)).map (zv.cells[· % zv.cells.size]!)) (parts.map fun x => (x.1, a.eval x.2)).toList = some out.toArray := by
      have e2 : (parts.map fun x => (x.1, a.eval x.2)).toList = ((parts.toList.map fun p => a.eval p.2).zipIdx 0).map fun x => (x.2, x.1) := by
       rw [← dense_zip b4 a.eval]; simp
      rw [e2, j1, hi2]
      have := Go.Great.fill_whole b1 (parts.toList.map fun p => a.eval p.2) ((Array.range (n * ei.zero.length)).map (zv.cells[· % zv.cells.size]!)) j2 (by simp [b3])
      simpa using this
     refine ⟨.slice (some ⟨W.heap.size, 0, none⟩) n n, W.alloc (.cells out.toArray e), upd ρ st.nx (.slice (some ⟨W.heap.size, 0, none⟩) n n), st.add (.row e ei.zero.length n out), st.nx, ?_, ?_, by simp [St.add], ?_, rfl, hk, (Below.refl _ W).alloc (Nat.le_refl _) _⟩
     ·by_cases hn : n = 0
      ·subst hn
       have hp0 : parts = #[] := by
        have : parts.toList = [] := List.eq_nil_of_length_eq_zero b3
        rw [← Array.toArray_toList (xs := parts), this]
       subst hp0
       simp only [Nat.zero_mul] at hlen
       have : out = [] := List.eq_nil_of_length_eq_zero hlen
       subst this
       have hu := run_underlying (P := P) (w := W) hd
       have e0 : (Array.map (fun _ : Nat => (default : Value)) (Array.range 0)) = #[] := Array.eq_empty_of_size_eq_zero (by simp)
       simp [Instr.buildSlice, hu, sizeOf, typeInfo, hi1, Instr.fill, newRow, e0]
      ·exact run_buildSlice W t e n _ out.toArray inf zv hd hi1 hi3 (by rw [hi2]; simpa using b2) (by rw [hi2]; intro h0; rcases Nat.mul_eq_zero.1 h0 with h0 | h0 <;> omega) hfill
     ·simp [SV.den, upd_same, slOf]
     ·exact h.rowLit e ei.zero.length n out hlen (by
       have : n ≤ n * ei.zero.length := Nat.le_mul_of_pos_right _ b1
       unfold maxLen; omega) (allOneV_spec h1v)
    ·cases hk
   ·cases hk
  ·cases hk
 ·cases hk
end Go.V
namespace Go.V
open Go Go.RowKit
variable {P : Program}
def ret : List Value → Value
 | [x] => x
 | l => .tuple l.toArray
def Enters (P : Program) (f : Nat) : Prop := ∀ args W, (callFunc f args).run P W = .ok (.enter f args) W
def Fn (P : Program) (f : Nat) (args : List Value) (M : Mem) (R : List Value → Mem → Prop) : Prop :=
 Enters P f ∧ ∀ W, M.ok W → Calls P f args.toArray W fun e W' => ∃ rs M', e = .returned (ret rs) ∧ Below W.heap.size W W' ∧ M.le M' ∧ M'.ok W' ∧ (∀ b, b < W.heap.size → M' b = M b) ∧ R rs M'
theorem Fn.mono {f : Nat} {args : List Value} {M : Mem} {R R' : List Value → Mem → Prop} (h : Fn P f args M R) (hr : ∀ rs M', M.le M' → R rs M' → R' rs M') : Fn P f args M R' := ⟨h.1, fun W hW =>
 (h.2 W hW).mono fun _ _ ⟨rs, M', h1, h2, h3, h4, h5, h6⟩ => ⟨rs, M', h1, h2, h3, h4, h5, hr rs M' h3 h6⟩⟩
inductive VFn (P : Program) (f : Nat) (args : List Value) (M : Mem) (K : List Value → Mem → Prop) : Prop
 | mk (R : List Value → Mem → Prop) (h : Fn P f args M R) (hk : ∀ rs M', M.le M' → R rs M' → K rs M')
def FnP (P : Program) (f : Nat) (args : List Value) (M : Mem) (vs : List Value) : Prop := Fn P f args M fun rs M' => rs = vs ∧ M' = M
theorem VFn.p {f : Nat} {args : List Value} {M : Mem} {K : List Value → Mem → Prop} {vs : List Value} (h : FnP P f args M vs) (hk : K vs M) : VFn P f args M K :=
 .mk _ h (by rintro rs M' _ ⟨rfl, rfl⟩; exact hk)
def retSV : List Value → SV
 | [x] => .v x
 | l => .tup (l.map .v)
theorem retSV_den (ρ : Env) (rs : List Value) : (retSV rs).den ρ = ret rs := by
 unfold retSV ret
 split
 ·rfl
 ·simp only [SV.den, List.map_map]
  have : (At.den ρ ∘ At.v) = id := rfl
  rw [this, List.map_id]
theorem retSV_sc (nx : Nat) (rs : List Value) : (retSV rs).sc nx := by
 unfold retSV
 split
 ·trivial
 ·intro a ha
  simp only [List.mem_map] at ha
  obtain ⟨x, _, rfl⟩ := ha
  trivial
def SlAt (M : Mem) (sz : Nat) (x : Value) (n : Nat) (xs : List Value) : Prop :=
 ∃ a c, x = .slice a n c ∧ n ≤ c ∧ c ≤ maxLen ∧ xs.length = n * sz ∧ (∀ v ∈ xs, v.oneCell' = true) ∧ (0 < n → ∃ ad : Addr, a = some ad ∧ ∀ j v, xs[j]? = some v → M.cell (ad.add j) = some v)
theorem SlAt.le {M M' : Mem} (h : M.le M') {sz n : Nat} {x : Value} {xs : List Value} : SlAt M sz x n xs → SlAt M' sz x n xs := fun ⟨a, c, h1, h2, h3, h4, h4', h5⟩ =>
 ⟨a, c, h1, h2, h3, h4, h4', fun hn => let ⟨ad, h6, h7⟩ := h5 hn; ⟨ad, h6, fun j v hj => Mem.cell_le h (h7 j v hj)⟩⟩
def FzNew (M M' : Mem) (sz : Nat) (x : Value) (n : Nat) (xs : List Value) : Prop := ∃ B c arr E, x = .slice (some ⟨B, 0, none⟩) n c ∧ M B = none ∧ M' B = some (.cells arr E (0, 0)) ∧ n ≤ c ∧ c ≤ maxLen ∧ arr.size = c * sz ∧ arr.toList.take (n * sz) = xs
inductive VFz (M : Mem) (sz n : Nat) (xs : List Value) (K : Value → Nat → Mem → Prop) : Prop
 | mk (h : ∀ x B M', M.le M' → SlAt M' sz x n xs → K x B M')
 | nw (h : ∀ x B M', M.le M' → SlAt M' sz x n xs → (0 < xs.length → FzNew M M' sz x n xs) → K x B M')
inductive VFzB (M : Mem) (t : TypeId) (vs : List Value) (K : Value → Nat → Mem → Prop) : Prop
 | mk (h : ∀ x B M', M.le M' → M' B = some (.cells vs.toArray t (0, 0)) → K x B M')
def At.sub (id : Nat) (x : Value) (B : Nat) : At → At
 | .row j => match Nat.beq j id with | true => .v x | false => .row j
 | .box j off => match Nat.beq j id with | true => .v (.pointer (some ⟨B, off, none⟩)) | false => .box j off
 | a => a
def SV.sub (id : Nat) (x : Value) (B : Nat) : SV → SV
 | .row j => match Nat.beq j id with | true => .v x | false => .row j
 | .box j off => match Nat.beq j id with | true => .v (.pointer (some ⟨B, off, none⟩)) | false => .box j off
 | .clo f a b => .clo f (a.map (At.sub id x B)) (b.map (At.sub id x B))
 | .tup l => .tup (l.map (At.sub id x B))
 | s => s
def OE.sub (id : Nat) (x : Value) (B : Nat) : OE → OE
 | .box t cs => .box t (cs.map (SV.sub id x B))
 | .gh t v s => .gh t v (s.sub id x B)
 | e => e
def St.sub (st : St) (id : Nat) (x : Value) (B : Nat) (M' : Mem) : St :=
 { sl := st.sl.map fun p => (p.1, p.2.sub id x B), ow := (id, none) :: st.ow.map fun p => (p.1, p.2.map (OE.sub id x B)), nx := st.nx, M := M', nt := st.nt, G := st.G }
def At.fK (a : At) (k : At → Prop) : Prop :=
 match a with
 | .v x => k (.v x)
 | .box i o => k (.box i o)
 | .row i => k (.row i)
theorem At.fK_iff {a : At} {k : At → Prop} (h : a.fK k) : k a := by cases a <;> exact h
def atsK : List At → (List At → Prop) → Prop
 | [], k => k []
 | a :: l, k => a.fK fun a => atsK l fun l => k (a :: l)
theorem atsK_iff : ∀ {l : List At} {k : List At → Prop}, atsK l k → k l
 | [], _, h => h
 | a :: l, k, h => atsK_iff (l := l) (k := fun l => k (a :: l)) (At.fK_iff (k := fun a => atsK l fun l => k (a :: l)) h)
def SV.fK (s : SV) (k : SV → Prop) : Prop :=
 match s with
 | .v x => k (.v x)
 | .box i o => k (.box i o)
 | .row i => k (.row i)
 | .clo f a b => atsK a fun a => atsK b fun b => k (.clo f a b)
 | .tup l => atsK l fun l => k (.tup l)
theorem SV.fK_iff {s : SV} {k : SV → Prop} (h : s.fK k) : k s := by
 cases s with
 | v x => exact h
 | box i o => exact h
 | row i => exact h
 | clo f a b => exact atsK_iff (atsK_iff h)
 | tup l => exact atsK_iff h
def svsK : List SV → (List SV → Prop) → Prop
 | [], k => k []
 | a :: l, k => a.fK fun a => svsK l fun l => k (a :: l)
theorem svsK_iff : ∀ {l : List SV} {k : List SV → Prop}, svsK l k → k l
 | [], _, h => h
 | a :: l, k, h => svsK_iff (l := l) (k := fun l => k (a :: l)) (SV.fK_iff (k := fun a => svsK l fun l => k (a :: l)) h)
def OE.fK (e : OE) (k : OE → Prop) : Prop :=
 match e with
 | .box t cs => svsK cs fun cs => k (.box t cs)
 | .row E sz n xs => k (.row E sz n xs)
 | .gh t v s => s.fK fun s => k (.gh t v s)
 | .vw sz b m n => k (.vw sz b m n)
 | .mp P t kk e B ks => k (.mp P t kk e B ks)
 | .nw B => k (.nw B)
theorem OE.fK_iff {e : OE} {k : OE → Prop} (h : e.fK k) : k e := by
 cases e with
 | box t cs => exact svsK_iff h
 | row E sz n xs => exact h
 | gh t v s => exact SV.fK_iff (k := fun s => k (.gh t v s)) h
 | vw => exact h
 | mp => exact h
 | nw => exact h
def slK : List (Nat × SV) → (List (Nat × SV) → Prop) → Prop
 | [], k => k []
 | p :: l, k => match p with
  | (d, s) => s.fK fun s => slK l fun l => k ((d, s) :: l)
theorem slK_iff : ∀ {l : List (Nat × SV)} {k : List (Nat × SV) → Prop}, slK l k → k l
 | [], _, h => h
 | (d, s) :: l, k, h => slK_iff (l := l) (k := fun l => k ((d, s) :: l)) (SV.fK_iff (k := fun s => slK l fun l => k ((d, s) :: l)) h)
def owK : List (Nat × Option OE) → (List (Nat × Option OE) → Prop) → Prop
 | [], k => k []
 | p :: l, k => match p with
  | (d, none) => owK l fun l => k ((d, none) :: l)
  | (d, some e) => e.fK fun e => owK l fun l => k ((d, some e) :: l)
theorem owK_iff : ∀ {l : List (Nat × Option OE)} {k : List (Nat × Option OE) → Prop}, owK l k → k l
 | [], _, h => h
 | (d, none) :: l, k, h => owK_iff (l := l) (k := fun l => k ((d, none) :: l)) h
 | (d, some e) :: l, k, h => owK_iff (l := l) (k := fun l => k ((d, some e) :: l)) (OE.fK_iff (k := fun e => owK l fun l => k ((d, some e) :: l)) h)
def St.subK (st : St) (id : Nat) (x : Value) (B : Nat) (M' : Mem) (k : St → Prop) : Prop :=
 match st with
 | ⟨sl, ow, nx, _, nt, G⟩ => slK (sl.map fun p => (p.1, p.2.sub id x B)) fun sl => owK (ow.map fun p => (p.1, p.2.map (OE.sub id x B))) fun ow => k ⟨sl, (id, none) :: ow, nx, M', nt, G⟩
theorem subK_iff {st : St} {id : Nat} {x : Value} {B : Nat} {M' : Mem} {k : St → Prop} (h : st.subK id x B M' k) : k (st.sub id x B M') := by cases st; exact owK_iff (slK_iff h)
theorem At.sub_den {ρ : Env} {id : Nat} {x : Value} {B : Nat} (hx : slOf (ρ id) = x) (hB : blkOf (ρ id) = B) (a : At) : (a.sub id x B).den ρ = a.den ρ := by
 cases a with
 | row j =>
  simp only [At.sub]
  cases hb : Nat.beq j id with
  | true => have := Nat.eq_of_beq_eq_true hb; subst this; exact hx.symm
  | false => rfl
 | box j off =>
  simp only [At.sub]
  cases hb : Nat.beq j id with
  | true => have := Nat.eq_of_beq_eq_true hb; subst this; simp [At.den, hB]
  | false => rfl
 | v => rfl
theorem SV.sub_den {ρ : Env} {id : Nat} {x : Value} {B : Nat} (hx : slOf (ρ id) = x) (hB : blkOf (ρ id) = B) (s : SV) : (s.sub id x B).den ρ = s.den ρ := by
 cases s with
 | row j =>
  simp only [SV.sub]
  cases hb : Nat.beq j id with
  | true => have := Nat.eq_of_beq_eq_true hb; subst this; exact hx.symm
  | false => rfl
 | box j off =>
  simp only [SV.sub]
  cases hb : Nat.beq j id with
  | true => have := Nat.eq_of_beq_eq_true hb; subst this; simp [SV.den, hB]
  | false => rfl
 | v => rfl
 | clo f a b => simp [SV.sub, SV.den, At.sub_den hx hB]
 | tup l => simp [SV.sub, SV.den, At.sub_den hx hB]
theorem At.sub_sc {nx id : Nat} {x : Value} {B : Nat} {a : At} (h : a.sc nx) : (a.sub id x B).sc nx := by
 cases a with
 | row j =>
  simp only [At.sub]
  cases hb : Nat.beq j id with
  | true => trivial
  | false => exact h
 | box j off =>
  simp only [At.sub]
  cases hb : Nat.beq j id with
  | true => trivial
  | false => exact h
 | v => trivial
theorem SV.sub_sc {nx id : Nat} {x : Value} {B : Nat} {s : SV} (h : s.sc nx) : (s.sub id x B).sc nx := by
 cases s with
 | row j =>
  simp only [SV.sub]
  cases hb : Nat.beq j id with
  | true => trivial
  | false => exact h
 | box j off =>
  simp only [SV.sub]
  cases hb : Nat.beq j id with
  | true => trivial
  | false => exact h
 | v => trivial
 | clo f a b =>
  refine ⟨fun y hy => ?_, fun y hy => ?_⟩ <;> (simp only [List.mem_map] at hy; obtain ⟨z, hz, rfl⟩ := hy)
  ·exact At.sub_sc (h.1 z hz)
  ·exact At.sub_sc (h.2 z hz)
 | tup l =>
  intro y hy
  simp only [List.mem_map] at hy
  obtain ⟨z, hz, rfl⟩ := hy
  exact At.sub_sc (h z hz)
theorem look_map {α β : Type} (f : α → β) : ∀ (l : List (Nat × α)) (d : Nat), look (l.map fun p => (p.1, f p.2)) d = (look l d).map f
 | [], d => rfl
 | (k, x) :: r, d => by
  simp only [List.map_cons, look_cons]
  split
  ·rfl
  ·exact look_map f r d
theorem own_sub (st : St) (id : Nat) (x : Value) (B : Nat) (M' : Mem) (j : Nat) : (st.sub id x B M').own j = if j = id then none else (st.own j).map (OE.sub id x B) := by
 unfold St.own St.sub
 simp only [look_cons, look_map]
 by_cases h : j = id
 ·simp [h]
 ·simp only [h, if_false]
  cases hl : look st.ow j with
  | none => rfl
  | some o => cases o <;> rfl
theorem OwnOK.sub {n₀ : Nat} {ρ : Env} {W : World} {j : Nat} {e : OE} {id : Nat} {x : Value} {B : Nat} (hx : slOf (ρ id) = x) (hB : blkOf (ρ id) = B) (h : OwnOK n₀ ρ W j e) : OwnOK n₀ ρ W j (e.sub id x B) := by
 cases e with
 | box t cs =>
  obtain ⟨B, h1, h2, h3⟩ := h
  refine ⟨B, h1, h2, ?_⟩
  rw [h3]
  congr 3
  simp [SV.sub_den hx hB]
 | row => exact h
 | gh t v s => exact ⟨h.1, (SV.sub_den hx hB s).trans h.2⟩
 | vw => exact h
 | mp => exact h
 | nw => exact h
theorem OE.sub_sc {nx id : Nat} {x : Value} {B : Nat} {e : OE} (h : e.sc nx) : (e.sub id x B).sc nx := by
 cases e with
 | box t cs =>
  intro s hs
  simp only [List.mem_map] at hs
  obtain ⟨z, hz, rfl⟩ := hs
  exact SV.sub_sc (h z hz)
 | row => exact h
 | gh t v s => exact SV.sub_sc (s := s) h
 | vw => exact h
 | mp => exact h
 | nw => exact h
theorem Sat.frzCore {n₀ : Nat} {w : World} {M₀ : Mem} {ρ : Env} {st : St} {a : Act} {W : World} (h : Sat n₀ w M₀ ρ st a W) {id : Nat} (M' : Mem)
  (hH : SatH n₀ w M₀ ρ { st with ow := (id, none) :: st.ow, M := M' } W) : Sat n₀ w M₀ ρ (st.sub id (slOf (ρ id)) (blkOf (ρ id)) M') a W := by
 refine ⟨⟨hH.below, hH.size, hH.mem, ?_, ?_, ?_, hH.pin, hH.mlow, ?_⟩, h.nt, ?_, h.marks⟩
 ·intro i e hi
  rw [own_sub] at hi
  split at hi
  ·cases hi
  ·rename_i hne
   cases hi' : st.own i with
   | none => rw [hi'] at hi; cases hi
   | some e' =>
    rw [hi'] at hi
    simp only [Option.map_some, Option.some.injEq] at hi
    subst hi
    obtain ⟨k1, k2, k3⟩ := h.h.own i e' hi'
    exact ⟨k1, OE.sub_sc k2, k3.sub rfl rfl⟩
 ·intro i j ei ej hi hj hij
  rw [own_sub] at hi hj
  split at hi
  ·cases hi
  ·split at hj
   ·cases hj
   ·rename_i hni hnj
    cases hi' : st.own i with
    | none => rw [hi'] at hi; cases hi
    | some e1 =>
     cases hj' : st.own j with
     | none => rw [hj'] at hj; cases hj
     | some e2 => exact h.h.sep i j e1 e2 hi' hj' hij
 ·intro i e b hi hb
  rw [own_sub] at hi
  split at hi
  ·cases hi
  ·rename_i hni
   cases hi' : st.own i with
   | none => rw [hi'] at hi; cases hi
   | some e1 =>
    refine hH.msep i e1 b ?_ hb
    show (St.own { sl := st.sl, ow := (id, none) :: st.ow, nx := st.nx, M := M', nt := st.nt, G := st.G } i) = some e1
    have := own_cons { st with M := M' } id none i
    rw [show (St.own { sl := st.sl, ow := (id, none) :: st.ow, nx := st.nx, M := M', nt := st.nt, G := st.G } i) = _ from this, if_neg hni]
    exact hi'
 ·intro b o hb
  obtain ⟨h2, h3⟩ := h.h.fpin b o hb
  refine ⟨h2, fun i e hi => ?_⟩
  rw [own_sub] at hi
  split at hi
  ·cases hi
  ·cases hi' : st.own i with
   | none => rw [hi'] at hi; cases hi
   | some e1 => exact h3 i e1 hi'
 ·intro d s hd
  simp only [St.sub, look_map] at hd
  cases hl : look st.sl d with
  | none => rw [hl] at hd; cases hd
  | some s0 =>
   rw [hl] at hd
   simp only [Option.map_some, Option.some.injEq] at hd
   subst hd
   obtain ⟨k1, k2, k3⟩ := h.sl d s0 hl
   exact ⟨k1, SV.sub_sc k2, by rw [SV.sub_den rfl rfl]; exact k3⟩
theorem Sat.frz {n₀ : Nat} {w : World} {M₀ : Mem} {ρ : Env} {st : St} {a : Act} {W : World} (h : Sat n₀ w M₀ ρ st a W) {id E sz n : Nat} {xs : List Value} (hid : st.own id = some (.row E sz n xs)) :
  ∃ M', st.M.le M' ∧ SlAt M' sz (slOf (ρ id)) n xs ∧ (0 < xs.length → FzNew st.M M' sz (slOf (ρ id)) n xs) ∧ Sat n₀ w M₀ ρ (st.sub id (slOf (ρ id)) (blkOf (ρ id)) M') a W := by
 obtain ⟨g1, _, ho, h1⟩ := h.h.own id _ hid
 rcases ho.2 with ⟨hv, h0⟩ | ⟨g, cap, cur, hg, hge, hh, hnc, hcm, hcs, ht⟩
 ·subst h0
  refine ⟨st.M, Mem.le_refl _, ⟨none, 0, by rw [hv]; rfl, Nat.le_refl _, by simp [maxLen], ho.1, h1, fun h => absurd h (Nat.lt_irrefl _)⟩, fun hx => (by have := ho.1; rw [Nat.zero_mul] at this; omega), h.frzCore _ ?_⟩
  exact h.h.kill id
 ·have hob : ob (ρ id) = some g := by simp [hg, ob]
  obtain ⟨f1, f2⟩ := h.h.freeze hid hob hh
  refine ⟨_, f2, ⟨some ⟨g, 0, none⟩, cap, by rw [hg]; rfl, hnc, hcm, ho.1, h1, fun _ => ⟨_, rfl, fun j v hj => ?_⟩⟩, fun _ => ⟨g, cap, cur, E, by rw [hg]; rfl, h.h.msep id _ g hid hob, by simp [Mem.with], hnc, hcm, hcs, ht⟩, h.frzCore _ f1⟩
  rw [Addr.add_none]
  have hb : (st.M.with g (.cells cur E (0, 0))) g = some (.cells cur E (0, 0)) := by simp [Mem.with]
  rw [← ht, List.getElem?_take] at hj
  split at hj
  ·simp only [Mem.cell, hb, Option.isSome_none, Bool.false_eq_true, if_false, Nat.zero_add]
   simpa using hj
  ·cases hj
theorem Sat.frzB {n₀ : Nat} {w : World} {M₀ : Mem} {ρ : Env} {st : St} {a : Act} {W : World} (h : Sat n₀ w M₀ ρ st a W) {id t : Nat} {cs : List SV} {vs : List Value} (hid : st.own id = some (.box t cs)) (hv : vals cs = some vs) :
  ∃ M', st.M.le M' ∧ M' (blkOf (ρ id)) = some (.cells vs.toArray t (0, 0)) ∧ Sat n₀ w M₀ ρ (st.sub id (slOf (ρ id)) (blkOf (ρ id)) M') a W := by
 obtain ⟨_, _, B, hr, hn, hh⟩ := h.h.own id _ hid
 have hob : ob (ρ id) = some B := by simp [hr, ob]
 obtain ⟨f1, f2⟩ := h.h.freeze hid hob hh
 refine ⟨_, f2, ?_, h.frzCore _ f1⟩
 rw [hr]
 simp [Mem.with, blkOf, vals_den hv]
end Go.V
