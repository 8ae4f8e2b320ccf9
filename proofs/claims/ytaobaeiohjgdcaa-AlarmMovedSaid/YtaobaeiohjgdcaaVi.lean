/- The verification-condition framework, part I: calls; own slices made immutable. -/
import Derived.Test.YtaobaeiohjgdcaaVh
namespace Go.V
open Go Go.RowKit
variable {P : Program}

/-- A call's value. -/
def ret : List Value → Value
  | [x] => x
  | l => .tuple l.toArray
/-- A contract: called in whatever memory in which M lies, f returns; nothing that was there has turned; R says what it returns, and what is known to be immutable then. -/
def Enters (P : Program) (f : Nat) : Prop := ∀ args W, (callFunc f args).run P W = .ok (.enter f args) W
def Fn (P : Program) (f : Nat) (args : List Value) (M : Mem) (R : List Value → Mem → Prop) : Prop :=
  Enters P f ∧ ∀ W, M.ok W → Calls P f args.toArray W fun e W' => ∃ rs M', e = .returned (ret rs) ∧ Below W.heap.size W W' ∧ M.le M' ∧ M'.ok W' ∧ (∀ b, b < W.heap.size → M' b = M b) ∧ R rs M'
theorem Fn.mono {f : Nat} {args : List Value} {M : Mem} {R R' : List Value → Mem → Prop} (h : Fn P f args M R) (hr : ∀ rs M', M.le M' → R rs M' → R' rs M') : Fn P f args M R' := ⟨h.1, fun W hW =>
  (h.2 W hW).mono fun _ _ ⟨rs, M', h1, h2, h3, h4, h5, h6⟩ => ⟨rs, M', h1, h2, h3, h4, h5, hr rs M' h3 h6⟩⟩

/-- A call of a function by its contract. -/
inductive VFn (P : Program) (f : Nat) (args : List Value) (M : Mem) (K : List Value → Mem → Prop) : Prop
  | mk (R : List Value → Mem → Prop) (h : Fn P f args M R) (hk : ∀ rs M', M.le M' → R rs M' → K rs M')
/-- What a contract that only reckons says: these values, and no more is known of memory. -/
def FnP (P : Program) (f : Nat) (args : List Value) (M : Mem) (vs : List Value) : Prop := Fn P f args M fun rs M' => rs = vs ∧ M' = M
theorem VFn.p {f : Nat} {args : List Value} {M : Mem} {K : List Value → Mem → Prop} {vs : List Value} (h : FnP P f args M vs) (hk : K vs M) : VFn P f args M K :=
  .mk _ h (by rintro rs M' _ ⟨rfl, rfl⟩; exact hk)

/-- What a call leaves, as a symbolic value. -/
def retSV : List Value → SV
  | [x] => .v x
  | l => .tup (l.map .v)
theorem retSV_den (ρ : Env) (rs : List Value) : (retSV rs).den ρ = ret rs := by
  unfold retSV ret
  split
  · rfl
  · simp only [SV.den, List.map_map]
    have : (At.den ρ ∘ At.v) = id := rfl
    rw [this, List.map_id]
theorem retSV_sc (nx : Nat) (rs : List Value) : (retSV rs).sc nx := by
  unfold retSV
  split
  · trivial
  · intro a ha
    simp only [List.mem_map] at ha
    obtain ⟨x, _, rfl⟩ := ha
    trivial

/-! ### A slice in immutable memory -/
/-- x is a slice of n elements of sz cells each, the cells xs, in M. -/
def SlAt (M : Mem) (sz : Nat) (x : Value) (n : Nat) (xs : List Value) : Prop :=
  ∃ a c, x = .slice a n c ∧ n ≤ c ∧ c ≤ maxLen ∧ xs.length = n * sz ∧ (∀ v ∈ xs, v.oneCell' = true) ∧ (0 < n → ∃ ad : Addr, a = some ad ∧ ∀ j v, xs[j]? = some v → M.cell (ad.add j) = some v)
theorem SlAt.le {M M' : Mem} (h : M.le M') {sz n : Nat} {x : Value} {xs : List Value} : SlAt M sz x n xs → SlAt M' sz x n xs := fun ⟨a, c, h1, h2, h3, h4, h4', h5⟩ =>
  ⟨a, c, h1, h2, h3, h4, h4', fun hn => let ⟨ad, h6, h7⟩ := h5 hn; ⟨ad, h6, fun j v hj => Mem.cell_le h (h7 j v hj)⟩⟩

/-- An own slice is made immutable. -/
inductive VFz (M : Mem) (sz n : Nat) (xs : List Value) (K : Value → Nat → Mem → Prop) : Prop
  | mk (h : ∀ x B M', M.le M' → SlAt M' sz x n xs → K x B M')
/-- An own variable is made immutable. -/
inductive VFzB (M : Mem) (t : TypeId) (vs : List Value) (K : Value → Nat → Mem → Prop) : Prop
  | mk (h : ∀ x B M', M.le M' → M' B = some (.cells vs.toArray t (0, 0)) → K x B M')
def At.sub (id : Nat) (x : Value) (B : Nat) : At → At
  | .row j => match Nat.beq j id with | true => .v x | false => .row j
  | .box j off => match Nat.beq j id with | true => .v (.pointer (some ⟨B, off, none⟩)) | false => .box j off
  | a => a
def SV.sub (id : Nat) (x : Value) (B : Nat) : SV → SV
  | .row j => match Nat.beq j id with | true => .v x | false => .row j
  | .box j off => match Nat.beq j id with | true => .v (.pointer (some ⟨B, off, none⟩)) | false => .box j off
  | .clo f a b => .clo f (a.map (At.sub id x B)) (b.map (At.sub id x B))
  | .tup l => .tup (l.map (At.sub id x B))
  | s => s
def OE.sub (id : Nat) (x : Value) (B : Nat) : OE → OE
  | .box t cs => .box t (cs.map (SV.sub id x B))
  | e => e
def St.sub (st : St) (id : Nat) (x : Value) (B : Nat) (M' : Mem) : St :=
  { sl := st.sl.map fun p => (p.1, p.2.sub id x B), ow := (id, none) :: st.ow.map fun p => (p.1, p.2.map (OE.sub id x B)), nx := st.nx, M := M', nt := st.nt, G := st.G }
/- The state's parts, worked out. -/
def At.fK (a : At) (k : At → Prop) : Prop :=
  match a with
  | .v x => k (.v x)
  | .box i o => k (.box i o)
  | .row i => k (.row i)
theorem At.fK_iff {a : At} {k : At → Prop} (h : a.fK k) : k a := by cases a <;> exact h
def atsK : List At → (List At → Prop) → Prop
  | [], k => k []
  | a :: l, k => a.fK fun a => atsK l fun l => k (a :: l)
theorem atsK_iff : ∀ {l : List At} {k : List At → Prop}, atsK l k → k l
  | [], _, h => h
  | a :: l, k, h => atsK_iff (l := l) (k := fun l => k (a :: l)) (At.fK_iff (k := fun a => atsK l fun l => k (a :: l)) h)
def SV.fK (s : SV) (k : SV → Prop) : Prop :=
  match s with
  | .v x => k (.v x)
  | .box i o => k (.box i o)
  | .row i => k (.row i)
  | .clo f a b => atsK a fun a => atsK b fun b => k (.clo f a b)
  | .tup l => atsK l fun l => k (.tup l)
theorem SV.fK_iff {s : SV} {k : SV → Prop} (h : s.fK k) : k s := by
  cases s with
  | v x => exact h
  | box i o => exact h
  | row i => exact h
  | clo f a b => exact atsK_iff (atsK_iff h)
  | tup l => exact atsK_iff h
def svsK : List SV → (List SV → Prop) → Prop
  | [], k => k []
  | a :: l, k => a.fK fun a => svsK l fun l => k (a :: l)
theorem svsK_iff : ∀ {l : List SV} {k : List SV → Prop}, svsK l k → k l
  | [], _, h => h
  | a :: l, k, h => svsK_iff (l := l) (k := fun l => k (a :: l)) (SV.fK_iff (k := fun a => svsK l fun l => k (a :: l)) h)
def OE.fK (e : OE) (k : OE → Prop) : Prop :=
  match e with
  | .box t cs => svsK cs fun cs => k (.box t cs)
  | .row E sz n xs => k (.row E sz n xs)
theorem OE.fK_iff {e : OE} {k : OE → Prop} (h : e.fK k) : k e := by
  cases e with
  | box t cs => exact svsK_iff h
  | row E sz n xs => exact h
def slK : List (Nat × SV) → (List (Nat × SV) → Prop) → Prop
  | [], k => k []
  | p :: l, k => match p with
    | (d, s) => s.fK fun s => slK l fun l => k ((d, s) :: l)
theorem slK_iff : ∀ {l : List (Nat × SV)} {k : List (Nat × SV) → Prop}, slK l k → k l
  | [], _, h => h
  | (d, s) :: l, k, h => slK_iff (l := l) (k := fun l => k ((d, s) :: l)) (SV.fK_iff (k := fun s => slK l fun l => k ((d, s) :: l)) h)
def owK : List (Nat × Option OE) → (List (Nat × Option OE) → Prop) → Prop
  | [], k => k []
  | p :: l, k => match p with
    | (d, none) => owK l fun l => k ((d, none) :: l)
    | (d, some e) => e.fK fun e => owK l fun l => k ((d, some e) :: l)
theorem owK_iff : ∀ {l : List (Nat × Option OE)} {k : List (Nat × Option OE) → Prop}, owK l k → k l
  | [], _, h => h
  | (d, none) :: l, k, h => owK_iff (l := l) (k := fun l => k ((d, none) :: l)) h
  | (d, some e) :: l, k, h => owK_iff (l := l) (k := fun l => k ((d, some e) :: l)) (OE.fK_iff (k := fun e => owK l fun l => k ((d, some e) :: l)) h)
/-- The same; the state written out. -/
def St.subK (st : St) (id : Nat) (x : Value) (B : Nat) (M' : Mem) (k : St → Prop) : Prop :=
  match st with
  | ⟨sl, ow, nx, _, nt, G⟩ => slK (sl.map fun p => (p.1, p.2.sub id x B)) fun sl => owK (ow.map fun p => (p.1, p.2.map (OE.sub id x B))) fun ow => k ⟨sl, (id, none) :: ow, nx, M', nt, G⟩
theorem subK_iff {st : St} {id : Nat} {x : Value} {B : Nat} {M' : Mem} {k : St → Prop} (h : st.subK id x B M' k) : k (st.sub id x B M') := by cases st; exact owK_iff (slK_iff h)
theorem At.sub_den {ρ : Env} {id : Nat} {x : Value} {B : Nat} (hx : slOf (ρ id) = x) (hB : blkOf (ρ id) = B) (a : At) : (a.sub id x B).den ρ = a.den ρ := by
  cases a with
  | row j =>
    simp only [At.sub]
    cases hb : Nat.beq j id with
    | true => have := Nat.eq_of_beq_eq_true hb; subst this; exact hx.symm
    | false => rfl
  | box j off =>
    simp only [At.sub]
    cases hb : Nat.beq j id with
    | true => have := Nat.eq_of_beq_eq_true hb; subst this; simp [At.den, hB]
    | false => rfl
  | v => rfl
theorem SV.sub_den {ρ : Env} {id : Nat} {x : Value} {B : Nat} (hx : slOf (ρ id) = x) (hB : blkOf (ρ id) = B) (s : SV) : (s.sub id x B).den ρ = s.den ρ := by
  cases s with
  | row j =>
    simp only [SV.sub]
    cases hb : Nat.beq j id with
    | true => have := Nat.eq_of_beq_eq_true hb; subst this; exact hx.symm
    | false => rfl
  | box j off =>
    simp only [SV.sub]
    cases hb : Nat.beq j id with
    | true => have := Nat.eq_of_beq_eq_true hb; subst this; simp [SV.den, hB]
    | false => rfl
  | v => rfl
  | clo f a b => simp [SV.sub, SV.den, At.sub_den hx hB]
  | tup l => simp [SV.sub, SV.den, At.sub_den hx hB]
theorem At.sub_sc {nx id : Nat} {x : Value} {B : Nat} {a : At} (h : a.sc nx) : (a.sub id x B).sc nx := by
  cases a with
  | row j =>
    simp only [At.sub]
    cases hb : Nat.beq j id with
    | true => trivial
    | false => exact h
  | box j off =>
    simp only [At.sub]
    cases hb : Nat.beq j id with
    | true => trivial
    | false => exact h
  | v => trivial
theorem SV.sub_sc {nx id : Nat} {x : Value} {B : Nat} {s : SV} (h : s.sc nx) : (s.sub id x B).sc nx := by
  cases s with
  | row j =>
    simp only [SV.sub]
    cases hb : Nat.beq j id with
    | true => trivial
    | false => exact h
  | box j off =>
    simp only [SV.sub]
    cases hb : Nat.beq j id with
    | true => trivial
    | false => exact h
  | v => trivial
  | clo f a b =>
    refine ⟨fun y hy => ?_, fun y hy => ?_⟩ <;> (simp only [List.mem_map] at hy; obtain ⟨z, hz, rfl⟩ := hy)
    · exact At.sub_sc (h.1 z hz)
    · exact At.sub_sc (h.2 z hz)
  | tup l =>
    intro y hy
    simp only [List.mem_map] at hy
    obtain ⟨z, hz, rfl⟩ := hy
    exact At.sub_sc (h z hz)
theorem look_map {α β : Type} (f : α → β) : ∀ (l : List (Nat × α)) (d : Nat), look (l.map fun p => (p.1, f p.2)) d = (look l d).map f
  | [], d => rfl
  | (k, x) :: r, d => by
    simp only [List.map_cons, look_cons]
    split
    · rfl
    · exact look_map f r d
theorem own_sub (st : St) (id : Nat) (x : Value) (B : Nat) (M' : Mem) (j : Nat) : (st.sub id x B M').own j = if j = id then none else (st.own j).map (OE.sub id x B) := by
  unfold St.own St.sub
  simp only [look_cons, look_map]
  by_cases h : j = id
  · simp [h]
  · simp only [h, if_false]
    cases hl : look st.ow j with
    | none => rfl
    | some o => cases o <;> rfl
theorem OwnOK.sub {n₀ : Nat} {ρ : Env} {W : World} {j : Nat} {e : OE} {id : Nat} {x : Value} {B : Nat} (hx : slOf (ρ id) = x) (hB : blkOf (ρ id) = B) (h : OwnOK n₀ ρ W j e) : OwnOK n₀ ρ W j (e.sub id x B) := by
  cases e with
  | box t cs =>
    obtain ⟨B, h1, h2, h3⟩ := h
    refine ⟨B, h1, h2, ?_⟩
    rw [h3]
    congr 3
    simp [SV.sub_den hx hB]
  | row => exact h
theorem OE.sub_sc {nx id : Nat} {x : Value} {B : Nat} {e : OE} (h : e.sc nx) : (e.sub id x B).sc nx := by
  cases e with
  | box t cs =>
    intro s hs
    simp only [List.mem_map] at hs
    obtain ⟨z, hz, rfl⟩ := hs
    exact SV.sub_sc (h z hz)
  | row => exact h

theorem Sat.frzCore {n₀ : Nat} {w : World} {M₀ : Mem} {ρ : Env} {st : St} {a : Act} {W : World} (h : Sat n₀ w M₀ ρ st a W) {id : Nat} (M' : Mem)
    (hH : SatH n₀ w M₀ ρ { st with ow := (id, none) :: st.ow, M := M' } W) : Sat n₀ w M₀ ρ (st.sub id (slOf (ρ id)) (blkOf (ρ id)) M') a W := by
  refine ⟨⟨hH.below, hH.size, hH.mem, ?_, ?_, ?_, hH.pin, hH.mlow, ?_⟩, h.nt, ?_, h.marks⟩
  · intro i e hi
    rw [own_sub] at hi
    split at hi
    · cases hi
    · rename_i hne
      cases hi' : st.own i with
      | none => rw [hi'] at hi; cases hi
      | some e' =>
        rw [hi'] at hi
        simp only [Option.map_some, Option.some.injEq] at hi
        subst hi
        obtain ⟨k1, k2, k3⟩ := h.h.own i e' hi'
        exact ⟨k1, OE.sub_sc k2, k3.sub rfl rfl⟩
  · intro i j ei ej hi hj hij
    rw [own_sub] at hi hj
    split at hi
    · cases hi
    · split at hj
      · cases hj
      · rename_i hni hnj
        cases hi' : st.own i with
        | none => rw [hi'] at hi; cases hi
        | some e1 =>
          cases hj' : st.own j with
          | none => rw [hj'] at hj; cases hj
          | some e2 => exact h.h.sep i j e1 e2 hi' hj' hij
  · intro i e b hi hb
    rw [own_sub] at hi
    split at hi
    · cases hi
    · rename_i hni
      cases hi' : st.own i with
      | none => rw [hi'] at hi; cases hi
      | some e1 =>
        refine hH.msep i e1 b ?_ hb
        show (St.own { sl := st.sl, ow := (id, none) :: st.ow, nx := st.nx, M := M', nt := st.nt, G := st.G } i) = some e1
        have := own_cons { st with M := M' } id none i
        rw [show (St.own { sl := st.sl, ow := (id, none) :: st.ow, nx := st.nx, M := M', nt := st.nt, G := st.G } i) = _ from this, if_neg hni]
        exact hi'
  · intro b o hb
    obtain ⟨h2, h3⟩ := h.h.fpin b o hb
    refine ⟨h2, fun i e hi => ?_⟩
    rw [own_sub] at hi
    split at hi
    · cases hi
    · cases hi' : st.own i with
      | none => rw [hi'] at hi; cases hi
      | some e1 => exact h3 i e1 hi'
  · intro d s hd
    simp only [St.sub, look_map] at hd
    cases hl : look st.sl d with
    | none => rw [hl] at hd; cases hd
    | some s0 =>
      rw [hl] at hd
      simp only [Option.map_some, Option.some.injEq] at hd
      subst hd
      obtain ⟨k1, k2, k3⟩ := h.sl d s0 hl
      exact ⟨k1, SV.sub_sc k2, by rw [SV.sub_den rfl rfl]; exact k3⟩
/-- An own slice becomes immutable: it is known from now on, and a plain value wherever it stood. -/
theorem Sat.frz {n₀ : Nat} {w : World} {M₀ : Mem} {ρ : Env} {st : St} {a : Act} {W : World} (h : Sat n₀ w M₀ ρ st a W) {id E sz n : Nat} {xs : List Value} (hid : st.own id = some (.row E sz n xs)) :
    ∃ M', st.M.le M' ∧ SlAt M' sz (slOf (ρ id)) n xs ∧ Sat n₀ w M₀ ρ (st.sub id (slOf (ρ id)) (blkOf (ρ id)) M') a W := by
  obtain ⟨g1, _, ho, h1⟩ := h.h.own id _ hid
  rcases ho.2 with ⟨hv, h0⟩ | ⟨g, cap, cur, hg, hge, hh, hnc, hcm, hcs, ht⟩
  · subst h0
    refine ⟨st.M, Mem.le_refl _, ⟨none, 0, by rw [hv]; rfl, Nat.le_refl _, by simp [maxLen], ho.1, h1, fun h => absurd h (Nat.lt_irrefl _)⟩, h.frzCore _ ?_⟩
    exact h.h.kill id
  · have hob : ob (ρ id) = some g := by simp [hg, ob]
    obtain ⟨f1, f2⟩ := h.h.freeze hid hob hh
    refine ⟨_, f2, ⟨some ⟨g, 0, none⟩, cap, by rw [hg]; rfl, hnc, hcm, ho.1, h1, fun _ => ⟨_, rfl, fun j v hj => ?_⟩⟩, h.frzCore _ f1⟩
    rw [Addr.add_none]
    have hb : (st.M.with g (.cells cur E (0, 0))) g = some (.cells cur E (0, 0)) := by simp [Mem.with]
    rw [← ht, List.getElem?_take] at hj
    split at hj
    · simp only [Mem.cell, hb, Option.isSome_none, Bool.false_eq_true, if_false, Nat.zero_add]
      simpa using hj
    · cases hj
/-- An own variable becomes immutable. -/
theorem Sat.frzB {n₀ : Nat} {w : World} {M₀ : Mem} {ρ : Env} {st : St} {a : Act} {W : World} (h : Sat n₀ w M₀ ρ st a W) {id t : Nat} {cs : List SV} {vs : List Value} (hid : st.own id = some (.box t cs)) (hv : vals cs = some vs) :
    ∃ M', st.M.le M' ∧ M' (blkOf (ρ id)) = some (.cells vs.toArray t (0, 0)) ∧ Sat n₀ w M₀ ρ (st.sub id (slOf (ρ id)) (blkOf (ρ id)) M') a W := by
  obtain ⟨_, _, B, hr, hn, hh⟩ := h.h.own id _ hid
  have hob : ob (ρ id) = some B := by simp [hr, ob]
  obtain ⟨f1, f2⟩ := h.h.freeze hid hob hh
  refine ⟨_, f2, ?_, h.frzCore _ f1⟩
  rw [hr]
  simp [Mem.with, blkOf, vals_den hv]
end Go.V
