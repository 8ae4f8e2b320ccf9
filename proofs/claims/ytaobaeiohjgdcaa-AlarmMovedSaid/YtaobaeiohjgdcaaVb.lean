/- The verification-condition framework, part B: what the steps on the heap do to a symbolic state. -/
import Derived.Test.YtaobaeiohjgdcaaVa
namespace Go.V
open Go Go.RowKit

def upd (ρ : Env) (i : Nat) (v : Value) : Env := fun j => if j = i then v else ρ j
theorem upd_same (ρ : Env) (i : Nat) (v : Value) : upd ρ i v i = v := by simp [upd]
theorem agree_upd (ρ : Env) (nx : Nat) (v : Value) : Agree nx ρ (upd ρ nx v) := fun i hi => by simp [upd]; omega

theorem Sat.env {n₀ : Nat} {w : World} {M₀ : Mem} {ρ ρ' : Env} {st st' : St} {a : Act} {W W' : World} (h : Sat n₀ w M₀ ρ st a W) (hH : SatH n₀ w M₀ ρ' st' W') (hag : Agree st.nx ρ ρ')
    (hnx : st.nx ≤ st'.nx) (hsl : st'.sl = st.sl) (hnt : st'.nt = st.nt) (hG : st'.G = st.G) : Sat n₀ w M₀ ρ' st' a W' where
  h := hH
  nt := by rw [h.nt, hnt]
  sl := fun d s hd => by
    rw [hsl] at hd
    obtain ⟨h1, h2, h3⟩ := h.sl d s hd
    exact ⟨by rw [hnt]; exact h1, SV.sc_mono hnx h2, by rw [h3, SV.den_agree hag h2]⟩
  marks := by rw [hG]; exact h.marks

theorem own_cons (st : St) (id : Nat) (e : Option OE) (j : Nat) : St.own { st with ow := (id, e) :: st.ow } j = if j = id then e else st.own j := by
  unfold St.own
  simp only [look_cons]
  by_cases h : j = id
  · simp [h]; cases e <;> rfl
  · simp [h]

def St.add (st : St) (e : OE) : St := { st with ow := (st.nx, some e) :: st.ow, nx := st.nx + 1 }
theorem own_add (st : St) (e : OE) (j : Nat) : (st.add e).own j = if j = st.nx then some e else st.own j := by
  unfold St.add
  unfold St.own
  simp only [look_cons]
  by_cases h : j = st.nx
  · simp [h]
  · simp [h]

/-- A new entry; the state written out. -/
def St.addK (st : St) (e : OE) (k : St → Nat → Prop) : Prop :=
  match st with
  | ⟨sl, ow, nx, M, nt, G⟩ => k ⟨sl, (nx, some e) :: ow, nx + 1, M, nt, G⟩ nx
theorem addK_iff {st : St} {e : OE} {k : St → Nat → Prop} (h : st.addK e k) : k (st.add e) st.nx := by cases st; exact h
/-- More is known of memory; the state written out. -/
def St.memK (st : St) (M' : Mem) (k : St → Prop) : Prop :=
  match st with
  | ⟨sl, ow, nx, _, nt, G⟩ => k ⟨sl, ow, nx, M', nt, G⟩
theorem memK_iff {st : St} {M' : Mem} {k : St → Prop} (h : st.memK M' k) : k { st with M := M' } := by cases st; exact h
/-- What is known of memory, handed on. -/
def St.withM (st : St) (k : Mem → Prop) : Prop :=
  match st with
  | ⟨_, _, _, M, _, _⟩ => k M
theorem withM_iff {st : St} {k : Mem → Prop} (h : st.withM k) : k st.M := by cases st; exact h
/-- A new entry, in a block that is new. -/
theorem SatH.add {n₀ : Nat} {w : World} {M₀ : Mem} {ρ : Env} {st : St} {W W' : World} (h : SatH n₀ w M₀ ρ st W) (e : OE) (v : Value) (hb : Below W.heap.size W W') (hsc : e.sc st.nx)
    (hown : OwnOK n₀ (upd ρ st.nx v) W' st.nx e) (hob : ∀ b, ob v = some b → W.heap.size ≤ b) : SatH n₀ w M₀ (upd ρ st.nx v) (st.add e) W' where
  below := h.below.trans (hb.mono h.size)
  size := Nat.le_trans h.size hb.size
  mem := fun b o hm => by
    have := h.mem b o hm
    rw [hb.block b (Array.getElem?_eq_some_iff.1 this).1]; exact this
  own := fun id e' he => by
    rw [own_add] at he
    split at he
    · rename_i hid
      obtain rfl := Option.some.inj he
      subst hid
      exact ⟨by simp [St.add], e.sc_mono (by simp [St.add]) hsc, hown⟩
    · obtain ⟨h1, h2, h3⟩ := h.own id e' he
      exact ⟨by simp [St.add]; omega, e'.sc_mono (by simp [St.add]) h2, h3.keep (agree_upd ρ st.nx v) h1 h2 fun b hbb => hb.block b (h3.lt b hbb).2.1⟩
  sep := fun i j ei ej hi hj hij b hbi hbj => by
    rw [own_add] at hi hj
    have lt : ∀ k ek, st.own k = some ek → ∀ b, ob (upd ρ st.nx v k) = some b → b < W.heap.size := fun k ek hk b hb' => by
      obtain ⟨h1, _, h3⟩ := h.own k ek hk
      rw [agree_upd ρ st.nx v k h1] at hb'
      exact (h3.lt b hb').2.1
    by_cases h1 : i = st.nx
    · by_cases h2 : j = st.nx
      · omega
      · simp only [h2, if_false] at hj
        have := lt j ej hj b hbj
        subst h1
        rw [upd_same] at hbi
        have := hob b hbi
        omega
    · simp only [h1, if_false] at hi
      have l1 := lt i ei hi b hbi
      by_cases h2 : j = st.nx
      · subst h2
        rw [upd_same] at hbj
        have := hob b hbj
        omega
      · simp only [h2, if_false] at hj
        have g1 := (h.own i ei hi).1
        have g2 := (h.own j ej hj).1
        rw [agree_upd ρ st.nx v i g1] at hbi
        rw [agree_upd ρ st.nx v j g2] at hbj
        exact h.sep i j ei ej hi hj hij b hbi hbj
  msep := fun i e' b hi hbb => by
    rw [own_add] at hi
    by_cases h1 : i = st.nx
    · subst h1
      rw [upd_same] at hbb
      have hge := hob b hbb
      cases hm : st.M b with
      | none => exact hm
      | some o =>
        have := (Array.getElem?_eq_some_iff.1 (h.mem b o hm)).1
        omega
    · simp only [h1, if_false] at hi
      have g := (h.own i e' hi).1
      rw [agree_upd ρ st.nx v i g] at hbb
      exact h.msep i e' b hi hbb
  pin := fun b o hbo => by
    obtain ⟨h1, h2, h3⟩ := h.pin b o hbo
    exact ⟨h1, (hb.block b (Array.getElem?_eq_some_iff.1 h2).1).trans h2, h3⟩
  mlow := h.mlow
  fpin := fun b o hbo => by
    obtain ⟨h2, h3⟩ := h.fpin b o hbo
    have hlt := (Array.getElem?_eq_some_iff.1 h2).1
    refine ⟨(hb.block b hlt).trans h2, ?_⟩
    intro i e' hi hbb
    rw [own_add] at hi
    by_cases h1 : i = st.nx
    · subst h1
      rw [upd_same] at hbb
      have := hob b hbb
      omega
    · simp only [h1, if_false] at hi
      rw [agree_upd ρ st.nx v i (h.own i e' hi).1] at hbb
      exact h3 i e' hi hbb

/-- A variable is made. -/
theorem Sat.box {n₀ : Nat} {w : World} {M₀ : Mem} {ρ : Env} {st : St} {a : Act} {W : World} (h : Sat n₀ w M₀ ρ st a W) (t : TypeId) (cs : List SV) (hsc : ∀ s ∈ cs, s.sc st.nx) :
    Sat n₀ w M₀ (upd ρ st.nx (.pointer (some ⟨W.heap.size, 0, none⟩))) (st.add (.box t cs)) a (W.alloc (.cells (cs.map (SV.den ρ)).toArray t)) := by
  have hb : Below W.heap.size W (W.alloc (.cells (cs.map (SV.den ρ)).toArray t)) := (Below.refl _ W).alloc (Nat.le_refl _) _
  refine h.env (h.h.add (.box t cs) _ hb hsc ?_ ?_) (agree_upd _ _ _) (by simp [St.add]) rfl rfl rfl
  · refine ⟨W.heap.size, upd_same _ _ _, h.h.size, ?_⟩
    rw [heap_alloc_new]
    have : cs.map (SV.den (upd ρ st.nx (.pointer (some ⟨W.heap.size, 0, none⟩)))) = cs.map (SV.den ρ) := List.map_congr_left fun s hs => SV.den_agree (agree_upd _ _ _) (hsc s hs)
    rw [this]
  · intro b hbb
    simp [ob] at hbb
    omega

/-- A literal slice is made: a growing slice of one's own. -/
theorem Sat.rowLit {n₀ : Nat} {w : World} {M₀ : Mem} {ρ : Env} {st : St} {a : Act} {W : World} (h : Sat n₀ w M₀ ρ st a W) (E sz n : Nat) (cs : List Value) (hl : cs.length = n * sz) (hn : n ≤ maxLen) (h1 : ∀ x ∈ cs, x.oneCell' = true) :
    Sat n₀ w M₀ (upd ρ st.nx (.slice (some ⟨W.heap.size, 0, none⟩) n n)) (st.add (.row E sz n cs)) a (W.alloc (.cells cs.toArray E)) := by
  have hb : Below W.heap.size W (W.alloc (.cells cs.toArray E)) := (Below.refl _ W).alloc (Nat.le_refl _) _
  refine h.env (h.h.add (.row E sz n cs) _ hb trivial ?_ ?_) (agree_upd _ _ _) (by simp [St.add]) rfl rfl rfl
  · refine ⟨?_, h1⟩
    rw [upd_same]
    have := World.ownsRow_lit (base := n₀) (e := E) (size := sz) W cs.toArray n h.h.size hn (by simpa using hl)
    simpa using this
  · intro b hbb
    simp [ob] at hbb
    omega

/-- An entry is given another content, its block alone turns. -/
theorem SatH.set {n₀ : Nat} {w : World} {M₀ : Mem} {ρ : Env} {st : St} {W W' : World} {id : Nat} {e e' : OE} (h : SatH n₀ w M₀ ρ st W) (hid : st.own id = some e) (hb : W.grownBy W' (ob (ρ id))) (hsc : e'.sc st.nx)
    (hown : OwnOK n₀ ρ W' id e') : SatH n₀ w M₀ ρ { st with ow := (id, some e') :: st.ow } W' where
  below := h.below.grown hb h.size (fun k hk => ((h.own id e hid).2.2.lt k hk).1)
  size := Nat.le_trans h.size hb.size
  mem := fun b o hm => by
    have hm' := h.mem b o hm
    rw [hb.block b (Array.getElem?_eq_some_iff.1 hm').1 ?_]; exact hm'
    intro hc
    have := h.msep id e b hid hc.symm
    rw [this] at hm; cases hm
  own := fun i ei hi => by
    rw [own_cons] at hi
    split at hi
    · rename_i hii
      obtain rfl := Option.some.inj hi
      subst hii
      exact ⟨(h.own i e hid).1, hsc, hown⟩
    · rename_i hii
      obtain ⟨g1, g2, g3⟩ := h.own i ei hi
      refine ⟨g1, g2, g3.keep (Agree.refl _ _) g1 g2 fun b hbb => hb.block b (g3.lt b hbb).2.1 ?_⟩
      intro hc
      exact h.sep i id ei e hi hid hii b hbb hc.symm
  sep := fun i j ei ej hi hj hij => by
    rw [own_cons] at hi hj
    have g : ∀ k ek, (if k = id then some e' else st.own k) = some ek → ∃ e0, st.own k = some e0 := fun k ek hk => by
      split at hk
      · rename_i hh; subst hh; exact ⟨_, hid⟩
      · exact ⟨_, hk⟩
    obtain ⟨e1, h1⟩ := g i ei hi
    obtain ⟨e2, h2⟩ := g j ej hj
    exact h.sep i j e1 e2 h1 h2 hij
  msep := fun i ei b hi hbb => by
    rw [own_cons] at hi
    split at hi
    · rename_i hh; subst hh; exact h.msep i e b hid hbb
    · exact h.msep i ei b hi hbb
  pin := fun b o hbo => by
    obtain ⟨h1, h2, h3⟩ := h.pin b o hbo
    refine ⟨h1, (hb.block b (Array.getElem?_eq_some_iff.1 h2).1 (fun hc => ?_)).trans h2, h3⟩
    obtain ⟨_, _, c, t, fr, hh⟩ := (h.own id e hid).2.2.lt b hc.symm
    rw [hh] at h2; cases h2; cases h1
  mlow := h.mlow
  fpin := fun b o hbo => by
    obtain ⟨h2, h3⟩ := h.fpin b o hbo
    refine ⟨(hb.block b (Array.getElem?_eq_some_iff.1 h2).1 (fun hc => h3 id e hid hc.symm)).trans h2, ?_⟩
    intro i ei hi
    rw [own_cons] at hi
    split at hi
    · rename_i hh; subst hh; exact h3 i e hid
    · exact h3 i ei hi

/-- An entry is struck: nobody looks at it again. -/
theorem SatH.kill {n₀ : Nat} {w : World} {M₀ : Mem} {ρ : Env} {st : St} {W : World} (id : Nat) (h : SatH n₀ w M₀ ρ st W) : SatH n₀ w M₀ ρ { st with ow := (id, none) :: st.ow } W where
  below := h.below
  size := h.size
  mem := h.mem
  own := fun i ei hi => by
    rw [own_cons] at hi
    split at hi
    · cases hi
    · exact h.own i ei hi
  sep := fun i j ei ej hi hj hij => by
    rw [own_cons] at hi hj
    split at hi
    · cases hi
    · split at hj
      · cases hj
      · exact h.sep i j ei ej hi hj hij
  msep := fun i ei b hi hbb => by
    rw [own_cons] at hi
    split at hi
    · cases hi
    · exact h.msep i ei b hi hbb
  pin := h.pin
  mlow := h.mlow
  fpin := fun b o hbo => by
    obtain ⟨h2, h3⟩ := h.fpin b o hbo
    refine ⟨h2, fun i ei hi => ?_⟩
    rw [own_cons] at hi
    split at hi
    · cases hi
    · exact h3 i ei hi

/-- Immutable memory with one block more. -/
def Mem.with (M : Mem) (b : Nat) (o : Obj) : Mem := fun k => if k = b then some o else M k

/-- An own block is made immutable: it is struck from what is owned, and is known from now on. -/
theorem SatH.freeze {n₀ : Nat} {w : World} {M₀ : Mem} {ρ : Env} {st : St} {W : World} {id : Nat} {e : OE} (h : SatH n₀ w M₀ ρ st W) (hid : st.own id = some e) {b : Nat} (hb : ob (ρ id) = some b) {o : Obj} (ho : W.heap[b]? = some o) :
    SatH n₀ w M₀ ρ { st with ow := (id, none) :: st.ow, M := st.M.with b o } W ∧ st.M.le (st.M.with b o) := by
  have hnone := h.msep id e b hid hb
  refine ⟨⟨h.below, h.size, ?_, ?_, ?_, ?_, ?_, ?_, ?_⟩, ?_⟩
  · intro k o' hk
    simp only [Mem.with] at hk
    split at hk
    · rename_i hkb; subst hkb; cases hk; exact ho
    · exact h.mem k o' hk
  · intro i ei hi
    have hi' : (if i = id then none else st.own i) = some ei := by rw [← own_cons]; exact hi
    split at hi'
    · cases hi'
    · exact h.own i ei hi'
  · intro i j ei ej hi hj hij
    have hi' : (if i = id then none else st.own i) = some ei := by rw [← own_cons]; exact hi
    have hj' : (if j = id then none else st.own j) = some ej := by rw [← own_cons]; exact hj
    split at hi'
    · cases hi'
    · split at hj'
      · cases hj'
      · exact h.sep i j ei ej hi' hj' hij
  · intro i ei k hi hbb
    have hi' : (if i = id then none else st.own i) = some ei := by rw [← own_cons]; exact hi
    split at hi'
    · cases hi'
    · rename_i hne
      show (st.M.with b o) k = none
      simp only [Mem.with]
      split
      · rename_i hkb
        subst hkb
        exact absurd hb (h.sep i id ei e hi' hid hne k hbb)
      · exact h.msep i ei k hi' hbb
  · intro k o' hk
    obtain ⟨h1, h2, h3⟩ := h.pin k o' hk
    refine ⟨h1, h2, ?_⟩
    show (st.M.with b o) k = none
    simp only [Mem.with]
    split
    · rename_i hkb
      subst hkb
      obtain ⟨_, _, c, t, fr, hh⟩ := (h.own id e hid).2.2.lt k hb
      rw [hh] at h2; cases h2; cases h1
    · exact h3
  · intro k hk
    have hge := ((h.own id e hid).2.2.lt b hb).1
    show (st.M.with b o) k = M₀ k
    simp only [Mem.with]
    rw [if_neg (by omega)]
    exact h.mlow k hk
  · intro k o' hk
    obtain ⟨h2, h3⟩ := h.fpin k o' hk
    refine ⟨h2, fun i ei hi => ?_⟩
    have hi' : (if i = id then none else st.own i) = some ei := by rw [← own_cons]; exact hi
    split at hi'
    · cases hi'
    · exact h3 i ei hi'
  · intro k o' hk
    simp only [Mem.with]
    split
    · rename_i hkb; subst hkb; rw [hnone] at hk; cases hk
    · exact hk
end Go.V
