import Derived.Test.YtegmjmdkhbibjaaGreatHa4
import Derived.Shelf.Spec.SlicesGrow
set_option linter.unusedVariables false
set_option linter.unusedSimpArgs false
/- Tides, plainly: editions, what holds in a block and a slot, the least bounds of several. -/
namespace Go.Proofs.YtegmjmdkhbibjaaGreat
open Go
structure FlowS where
  x : Int
  y : Int
  s : Int
  ul : Int
  uh : Int
  vl : Int
  vh : Int
  hl : Int
  hh : Int
def zeroF : FlowS := ⟨0, 0, 0, 0, 0, 0, 0, 0, 0⟩
def spB (m lo hi : Int) : Bool := decide (lo ≤ hi ∧ -m ≤ lo ∧ hi ≤ m)
def bndB (f : FlowS) : Bool := spB 5000 f.ul f.uh && spB 5000 f.vl f.vh && spB 2000 f.hl f.hh
def gf (l : List FlowS) (i : Nat) : FlowS := l.getD i zeroF
/-! ### Order of flows -/
/-! ### The least bounds of several -/
structure IsJ (S : FlowS → Prop) (f : FlowS) : Prop where
  x : f.x = 0
  y : f.y = 0
  s : f.s = 0
  ul : (∀ g, S g → f.ul ≤ g.ul) ∧ ∃ g, S g ∧ g.ul = f.ul
  uh : (∀ g, S g → g.uh ≤ f.uh) ∧ ∃ g, S g ∧ g.uh = f.uh
  vl : (∀ g, S g → f.vl ≤ g.vl) ∧ ∃ g, S g ∧ g.vl = f.vl
  vh : (∀ g, S g → g.vh ≤ f.vh) ∧ ∃ g, S g ∧ g.vh = f.vh
  hl : (∀ g, S g → f.hl ≤ g.hl) ∧ ∃ g, S g ∧ g.hl = f.hl
  hh : (∀ g, S g → g.hh ≤ f.hh) ∧ ∃ g, S g ∧ g.hh = f.hh
theorem lo_unique {α : Type} {S T : α → Prop} {c : α → Int} {a b : Int} (hT : ∀ g, T g → S g) (h : (∀ g, S g → a ≤ c g) ∧ ∃ g, S g ∧ c g = a) (k : (∀ g, T g → b ≤ c g) ∧ ∃ g, T g ∧ c g = b) : a ≤ b := by
  obtain ⟨g, hg, e⟩ := k.2
  have := h.1 g (hT g hg)
  omega
theorem hi_unique {α : Type} {S T : α → Prop} {c : α → Int} {a b : Int} (hT : ∀ g, T g → S g) (h : (∀ g, S g → c g ≤ a) ∧ ∃ g, S g ∧ c g = a) (k : (∀ g, T g → c g ≤ b) ∧ ∃ g, T g ∧ c g = b) : b ≤ a := by
  obtain ⟨g, hg, e⟩ := k.2
  have := h.1 g (hT g hg)
  omega
/-- Bounds within others. -/
def inF (a b : FlowS) : Prop := b.ul ≤ a.ul ∧ a.uh ≤ b.uh ∧ b.vl ≤ a.vl ∧ a.vh ≤ b.vh ∧ b.hl ≤ a.hl ∧ a.hh ≤ b.hh
theorem IsJ.le {S T : FlowS → Prop} {f g : FlowS} (h : IsJ S f) (k : IsJ T g) (hT : ∀ x, T x → S x) : inF g f :=
  ⟨lo_unique hT h.ul k.ul, hi_unique hT h.uh k.uh, lo_unique hT h.vl k.vl, hi_unique hT h.vh k.vh, lo_unique hT h.hl k.hl, hi_unique hT h.hh k.hh⟩
theorem IsJ.mem {S : FlowS → Prop} {f g : FlowS} (h : IsJ S f) (hg : S g) : inF g f := ⟨h.ul.1 g hg, h.uh.1 g hg, h.vl.1 g hg, h.vh.1 g hg, h.hl.1 g hg, h.hh.1 g hg⟩
theorem IsJ.congr {S T : FlowS → Prop} {f : FlowS} (h : IsJ S f) (hT : ∀ x, T x ↔ S x) : IsJ T f := by
  have : T = S := funext fun x => propext (hT x)
  rw [this]; exact h
theorem IsJ.one {f : FlowS} (hx : f.x = 0) (hy : f.y = 0) (hs : f.s = 0) : IsJ (· = f) f :=
  ⟨hx, hy, hs, ⟨fun _ h => by rw [h]; exact Int.le_refl _, _, rfl, rfl⟩, ⟨fun _ h => by rw [h]; exact Int.le_refl _, _, rfl, rfl⟩, ⟨fun _ h => by rw [h]; exact Int.le_refl _, _, rfl, rfl⟩, ⟨fun _ h => by rw [h]; exact Int.le_refl _, _, rfl, rfl⟩, ⟨fun _ h => by rw [h]; exact Int.le_refl _, _, rfl, rfl⟩, ⟨fun _ h => by rw [h]; exact Int.le_refl _, _, rfl, rfl⟩⟩
theorem IsJ.bnd {S : FlowS → Prop} {f : FlowS} (h : IsJ S f) (hS : ∀ g, S g → bndB g = true) : bndB f = true := by
  obtain ⟨g1, k1, e1⟩ := h.ul.2
  obtain ⟨g2, k2, e2⟩ := h.uh.2
  obtain ⟨g3, k3, e3⟩ := h.vl.2
  obtain ⟨g4, k4, e4⟩ := h.vh.2
  obtain ⟨g5, k5, e5⟩ := h.hl.2
  obtain ⟨g6, k6, e6⟩ := h.hh.2
  have b1 := hS _ k1; have b2 := hS _ k2; have b3 := hS _ k3; have b4 := hS _ k4; have b5 := hS _ k5; have b6 := hS _ k6
  have c1 := h.uh.1 _ k1; have c3 := h.vh.1 _ k3; have c5 := h.hh.1 _ k5
  simp only [bndB, spB, Bool.and_eq_true, decide_eq_true_eq] at b1 b2 b3 b4 b5 b6 ⊢
  omega

/-! ### What holds -/
end Go.Proofs.YtegmjmdkhbibjaaGreat

/- Contracts of exact, span, and of the leaves of tide. -/
namespace Go.Proofs.YtegmjmdkhbibjaaGreat
open Go Go.V Go.RowKit
end Go.Proofs.YtegmjmdkhbibjaaGreat

/- Contracts of package cut: half-planes, sides, frames. -/
namespace Go.Proofs.YtegmjmdkhbibjaaGreat
open Go Go.V Go.RowKit
def hv (A B C : Int) : Value := .agg #[.int .i64 A, .int .i64 B, .int .i64 C]
end Go.Proofs.YtegmjmdkhbibjaaGreat

/- Rays, plainly: 64 directions, and what lies between two of them. -/
namespace Go.Proofs.YtegmjmdkhbibjaaGreat
open Go
end Go.Proofs.YtegmjmdkhbibjaaGreat

/- The verification-condition framework, part T: a region that draws its order, more than one of whose operations make memory, in any order. -/
namespace Go.V
open Go Go.RowKit
variable {P : Program}

/-- It has not been taken, and whom it waits for has been. -/
def rdyB (ops : List Oper) (D : List Nat) (i : Nat) : Bool :=
  !D.any (Nat.beq i) && match ops[i]? with | some o => (bindsOn o).all (fun k => D.any (Nat.beq k)) | none => false
def nextV (ops : List Oper) (vs D : List Nat) : Option Nat := vs.find? (rdyB ops D)
def cands (ops : List Oper) (D : List Nat) : List Nat := (List.range ops.length).filter (rdyB ops D)
/-- Two operations of which neither waits for the other are apart. -/
def pairS (ops : Array Oper) (tab : List Nat) (i j : Nat) : Bool :=
  match ops[i]?, ops[j]? with
  | some o, some o' => dstNe o o' && (anc tab j i || anc tab i j || (!dstIn (o'.looksAt ops) o && !dstIn (o.looksAt ops) o'))
  | _, _ => false
def statOK (ops : Array Oper) (vs tab : List Nat) : Bool :=
  tabOK ops.toList tab && (ops.toList.all plainOp) && (vs.all fun i => (List.range ops.size).all fun j => Nat.beq i j || pairS ops tab i j)
theorem any_beq {D : List Nat} {i : Nat} : D.any (Nat.beq i) = true ↔ i ∈ D := by
  rw [List.any_eq_true]
  constructor
  · rintro ⟨x, hx, h⟩
    rw [Nat.eq_of_beq_eq_true h]; exact hx
  · exact fun h => ⟨i, h, Nat.beq_refl i⟩
theorem rdyB_iff {ops : Array Oper} {D : List Nat} {i : Nat} : rdyB ops.toList D i = true ↔ i ∉ D ∧ ∃ o, ops[i]? = some o ∧ ∀ k ∈ bindsOn o, k ∈ D := by
  unfold rdyB
  rw [Bool.and_eq_true, Bool.not_eq_true', ← Bool.not_eq_true, any_beq]
  constructor
  · rintro ⟨h1, h2⟩
    refine ⟨h1, ?_⟩
    split at h2
    · rename_i o ho
      refine ⟨o, by simpa using ho, fun k hk => any_beq.1 (List.all_eq_true.1 h2 k hk)⟩
    · cases h2
  · rintro ⟨h1, o, ho, hk⟩
    refine ⟨h1, ?_⟩
    have ho' : ops.toList[i]? = some o := by simpa using ho
    rw [ho']
    exact List.all_eq_true.2 fun k hk' => any_beq.2 (hk k hk')
/-- The operations, what yields a value as soon as it can; of the others any that can. -/
def eagT (R : WR) (F : Fence) (n : Nat) (P : Program) (ops : Array Oper) (vs : List Nat) (Q : Exit → Act → World → Prop) : Nat → List Nat → Act → World → Prop
  | 0, _, a, w => Q .normal a w
  | f + 1, D, a, w => match nextV ops.toList vs D with
    | some i => ∃ o, ops[i]? = some o ∧ ∃ v, (∀ W, R.r w W → Yv P ops o a v W) ∧ (∀ W g, R.r w W → o.about P W a.eval = some g → F.fn g) ∧ eagT R F n P ops vs Q f (i :: D) (a.put o.dst v) w
    | none => ∀ i ∈ cands ops.toList D, wpOpIn F n P ops Q i (fun a' w' => R.r w w' ∧ eagT R F n P ops vs Q f (i :: D) a' w') a w
theorem statOK_spec {ops : Array Oper} {vs tab : List Nat} (h : statOK ops vs tab = true) : tabOK ops.toList tab = true ∧ (∀ (i : Nat) (o : Oper), ops[i]? = some o → plainOp o = true) ∧ ∀ i ∈ vs, ∀ j, j < ops.size → i ≠ j → pairS ops tab i j = true := by
  simp only [statOK, Bool.and_eq_true, List.all_eq_true, List.mem_range, Bool.or_eq_true] at h
  obtain ⟨⟨h1, h2⟩, h3⟩ := h
  refine ⟨h1, fun i o ho => h2 o ?_, fun i hi j hj hne => ?_⟩
  · exact List.mem_of_getElem? (by simpa using ho : ops.toList[i]? = some o)
  · rcases h3 i hi j hj with h | h
    · exact absurd (Nat.eq_of_beq_eq_true h) hne
    · exact h
theorem pairS_pair {ops : Array Oper} {tab : List Nat} {i j : Nat} (h : pairS ops tab i j = true) (hn : anc tab i j = false) : pairOK ops tab (i, 0) (j, 0) = true := by
  unfold pairS at h
  unfold pairOK
  split at h
  · rename_i o o' h1 h2
    simp only [h1, h2]
    rw [hn, Bool.or_false] at h
    simpa using h
  · cases h
theorem all_lt_len : ∀ (n : Nat) (D : List Nat), (∀ i, i < n → i ∈ D) → n ≤ D.length
  | 0, _, _ => Nat.zero_le _
  | n + 1, D, h => by
    have hn := h n (Nat.lt_succ_self n)
    have ih := all_lt_len n (D.erase n) fun i hi => (List.mem_erase_of_ne (by omega)).2 (h i (by omega))
    rw [List.length_erase_of_mem hn] at ih
    have := List.length_pos_of_mem hn
    omega
theorem nodup_le_len : ∀ (n : Nat) (E : List Nat), (∀ x ∈ E, x < n) → E.Nodup → E.length ≤ n
  | 0, E, hE, _ => by
    cases E with
    | nil => exact Nat.le_refl _
    | cons x E => have := hE x List.mem_cons_self; omega
  | n + 1, E, hE, hn => by
    by_cases hm : n ∈ E
    · have := nodup_le_len n (E.erase n) (fun x hx => by
        have h1 := hE x (List.mem_of_mem_erase hx)
        have h2 := (hn.mem_erase_iff.1 hx).1
        omega) (hn.erase n)
      rw [List.length_erase_of_mem hm] at this
      omega
    · have := nodup_le_len n E (fun x hx => by
        have h1 := hE x hx
        have : x ≠ n := fun e => hm (e ▸ hx)
        omega) hn
      omega
theorem bindsOn_lt {ops : Array Oper} {tab : List Nat} (h : tabOK ops.toList tab = true) {i : Nat} {o : Oper} (ho : ops[i]? = some o) {k : Nat} (hk : k ∈ bindsOn o) : k < i := by
  have ho' : ops.toList[i]? = some o := by simpa using ho
  have hi : i < ops.toList.length := (List.getElem?_eq_some_iff.1 ho').1
  simp only [tabOK, List.all_eq_true, List.mem_range] at h
  have h1 := h i hi
  rw [ho'] at h1
  simp only [Bool.and_eq_true, List.all_eq_true] at h1
  exact Nat.le_of_ble_eq_true (h1.1 k hk)
/-- The state of such a region under way. -/
structure WayT (R : WR) (F : Fence) (n : Nat) (P : Program) (ops : Array Oper) (vs : List Nat) (Q : Exit → Act → World → Prop) (tab : List Nat) (us : List Nat) (listed : Array Bool) (a la : Act) (w : World) (pend : List PE) (D : List Nat) (f : Nat) : Prop where
  und : us.Nodup
  size : listed.size = ops.size
  uiff : ∀ i, i < ops.size → (listed.getD i true = false ↔ i ∈ us)
  ult : ∀ i ∈ us, i < ops.size
  dnd : D.Nodup
  len : D.length + f = ops.size
  dA : ∀ i, i < ops.size → i ∉ us → i ∈ D
  dP : ∀ i ∈ D, i ∈ us → ∃ p ∈ pend, p.i = i
  dlt : ∀ i ∈ D, i < ops.size
  punl : ∀ p ∈ pend, p.i ∈ us ∧ p.i ∈ D ∧ p.i ∈ vs
  pnd : (pend.map PE.i).Nodup
  closedD : ∀ i o, ops[i]? = some o → i ∈ D → ∀ k ∈ bindsOn o, k ∈ D
  closed : ∀ i o, ops[i]? = some o → listed.getD i false = true → ∀ k ∈ bindsOn o, listed.getD k false = true
  defers : a.defers = la.defers
  tsize : a.tmps.size = la.tmps.size
  agree : ∀ d, (∀ p ∈ pend, p.o.dst ≠ some d) → a.tmps[d]? = la.tmps[d]?
  inv : PInv R F P ops tab a la w pend
  rest : eagT R F n P ops vs Q f D la w
theorem way_anyT {R : WR} {F : Fence} {n : Nat} {ops : Array Oper} {Q : Exit → Act → World → Prop} {vs tab : List Nat} (hok : statOK ops vs tab = true) (hQ : ∀ c a w, ¬ Q (.panic c) a w) :
    ∀ (fuel : Nat) {us : List Nat} {listed : Array Bool} {a la : Act} {w : World} {pend : List PE} {D : List Nat} {f : Nat}, us.length = fuel → WayT R F n P ops vs Q tab us listed a la w pend D f → wpAnyIn F n P .any ops Q fuel listed a w := by
  obtain ⟨htab, hplain, hstat⟩ := statOK_spec hok
  have fin : ∀ {listed : Array Bool} {a la : Act} {w : World} {pend : List PE} {D : List Nat} {f : Nat}, WayT R F n P ops vs Q tab [] listed a la w pend D f → Q .normal a w := by
    intro listed a la w pend D f h
    have hp : pend = [] := by
      cases pend with
      | nil => rfl
      | cons p l => have := (h.punl p List.mem_cons_self).1; cases this
    subst hp
    have hf : f = 0 := by
      have := all_lt_len ops.size D fun i hi => h.dA i hi (fun hx => by cases hx)
      have := h.len
      omega
    subst hf
    have hal : a = la := by
      have h1 := h.defers
      have h2 : a.tmps = la.tmps := Array.ext_getElem? (fun d => h.agree d (fun p hp => by cases hp))
      cases a; cases la
      simp only at h1 h2
      subst h1; subst h2; rfl
    rw [hal]; exact h.rest
  -- something can come up: the least of those that are left
  have some_ready : ∀ {us : List Nat} {listed : Array Bool} {a la : Act} {w : World} {pend : List PE} {D : List Nat} {f : Nat}, WayT R F n P ops vs Q tab us listed a la w pend D f → Region.ready .any ops listed = [] → us = [] := by
    intro us listed a la w pend D f h hr
    cases hus : us with
    | nil => rfl
    | cons i0 us' =>
      exfalso
      obtain ⟨i, hi, hmin⟩ : ∃ i, i ∈ us ∧ ∀ k, k < i → k ∉ us := by
        obtain ⟨m, hm1, hm2⟩ := least_of (p := fun i => i ∈ us) i0 (by rw [hus]; exact List.mem_cons_self)
        exact ⟨m, hm1, fun k hk hku => by have := hm2 k hku; omega⟩
      have hlt := h.ult i hi
      have ho : ops[i]? = some ops[i] := Array.getElem?_eq_getElem hlt
      have : i ∈ Region.ready .any ops listed := ready_iff.2 ⟨hlt, (h.uiff i hlt).2 hi, _, ho, fun k hk => by
        have hki : k < i := bindsOn_lt htab ho hk
        have hnk := mt (h.uiff k (by omega)).1 (hmin k hki)
        rw [getD_tf (by rw [h.size]; omega)] at hnk
        simpa using hnk⟩
      rw [hr] at this; cases this
  intro fuel
  induction fuel with
  | zero =>
    intro us listed a la w pend D f hlen h
    have hus : us = [] := List.length_eq_zero_iff.1 hlen
    subst hus
    refine ⟨?_, fin h⟩
    cases hr : Region.ready .any ops listed with
    | nil => rfl
    | cons i l =>
      have hi : i ∈ Region.ready .any ops listed := by rw [hr]; exact List.mem_cons_self
      obtain ⟨h1, h2, _⟩ := ready_iff.1 hi
      have := (h.uiff i h1).1 h2
      cases this
  | succ fuel ih =>
    intro us listed a la w pend D f hlen h
    refine ⟨fun hr => ?_, fun i hi => ?_⟩
    · have := some_ready h hr
      subst this
      exact fin h
    · obtain ⟨hilt, hil, oi, hoi, hib⟩ := ready_iff.1 hi
      have hius : i ∈ us := (h.uiff i hilt).1 hil
      have hlen' : (us.erase i).length = fuel := by rw [List.length_erase_of_mem hius, hlen]; rfl
      have noanc : ∀ k, k ∈ us → anc tab i k = false := by
        intro k hk
        cases ha : anc tab i k with
        | false => rfl
        | true =>
          exfalso
          have := anc_done htab (Ls := fun k => listed.getD k false = true) h.closed i k oi hoi hib ha (fun k hk => by rw [← h.size]; exact getD_lt hk)
          have h2 := (h.uiff k (h.ult k hk)).2 hk
          rw [getD_tf (by rw [h.size]; exact h.ult k hk)] at h2
          rw [h2] at this; cases this
      have hsz' : (listed.setIfInBounds i true).size = ops.size := by simp [h.size]
      have huiff' : ∀ k, k < ops.size → ((listed.setIfInBounds i true).getD k true = false ↔ k ∈ us.erase i) := by
        intro k hk
        rw [getD_set (by rw [h.size]; exact hilt), h.und.mem_erase_iff]
        by_cases hik : i = k
        · subst hik; simp
        · rw [if_neg hik, h.uiff k hk]
          exact ⟨fun h1 => ⟨fun e => hik e.symm, h1⟩, fun h1 => h1.2⟩
      have hclosed' : ∀ j o, ops[j]? = some o → (listed.setIfInBounds i true).getD j false = true → ∀ k ∈ bindsOn o, (listed.setIfInBounds i true).getD k false = true := by
        intro j o hj hl k hk
        rw [getD_set (by rw [h.size]; exact hilt)] at hl ⊢
        split
        · rfl
        · split at hl
          · rename_i e; subst e
            rw [hoi] at hj; cases hj
            exact hib k hk
          · exact h.closed j o hj hl k hk
      have hpl : plainOp oi = true := hplain i oi hoi
      have hibus : ∀ k ∈ bindsOn oi, k < ops.size ∧ k ∉ us := fun k hk => by
        have h1 := hib k hk
        have hks : k < ops.size := by rw [← h.size]; exact getD_lt h1
        refine ⟨hks, fun hku => ?_⟩
        have h2 := (h.uiff k hks).2 hku
        rw [getD_tf (by rw [h.size]; exact hks)] at h2
        rw [h2] at h1; cases h1
      clear hi hil
      have hund' := h.und.erase i
      have hult' : ∀ k ∈ us.erase i, k < ops.size := fun k hk => h.ult k (List.mem_of_mem_erase hk)
      have hmem' : ∀ k ∈ us, k ≠ i → k ∈ us.erase i := fun k hk hne => (h.und.mem_erase_iff).2 ⟨hne, hk⟩
      have hne' : ∀ k ∈ us.erase i, k ≠ i := fun k hk => ((h.und.mem_erase_iff).1 hk).1
      -- one that was taken ahead
      have doP : ∀ {la : Act} {pend : List PE} {D : List Nat} {f : Nat}, WayT R F n P ops vs Q tab us listed a la w pend D f → (∃ p ∈ pend, p.i = i) → wpOpIn F n P ops Q i (wpAnyIn F n P .any ops Q fuel (listed.setIfInBounds i true)) a w := by
        rintro la pend D f h ⟨p, hp, hpi⟩
        obtain ⟨l', hpe, hl'⟩ := h.inv.get p hp
        have hpo : p.o = oi := by have := hpe.ho; rw [hpi, hoi] at this; exact (Option.some.inj this).symm
        have hsee : Sees ops oi a p.b := by
          intro d hd
          rw [← hpo] at hd
          rcases hpe.see d hd with ⟨q, hq, hqd, _⟩ | ⟨_, h4⟩
          · have hqp := hl' q hq
            have := pair_spec (p := (q.i, 0)) (q := (p.i, 0)) (h.inv.ho q hqp) hpe.ho (hpe.pair q hq)
            exact absurd hd ((this.2 (by rw [hpi]; exact noanc q.i (h.punl q hqp).1)).2.2.1 d hqd)
          · exact h4.symm
        have hval := h.inv.val p hp
        have next : wpAnyIn F n P .any ops Q fuel (listed.setIfInBounds i true) (a.put oi.dst p.v) w := by
          refine ih (us := us.erase i) (la := la) (pend := pend.filter fun q => !Nat.beq q.i i) (D := D) (f := f) hlen' ⟨hund', hsz', huiff', hult', h.dnd, h.len, ?_, ?_, h.dlt, ?_, ?_, h.closedD, hclosed', by rw [put_defers]; exact h.defers, by rw [put_size]; exact h.tsize, ?_, ?_, h.rest⟩
          · intro k hk hku
            by_cases e : k = i
            · subst e; rw [← hpi]; exact (h.punl p hp).2.1
            · exact h.dA k hk fun hx => hku (hmem' k hx e)
          · intro k hkD hku
            obtain ⟨q, hq, hqk⟩ := h.dP k hkD (List.mem_of_mem_erase hku)
            refine ⟨q, List.mem_filter.2 ⟨hq, ?_⟩, hqk⟩
            cases hb : Nat.beq q.i i with
            | false => rfl
            | true => exact absurd ((Nat.eq_of_beq_eq_true hb).symm.trans hqk).symm (hne' k hku)
          · intro q hq
            obtain ⟨hq1, hq2⟩ := List.mem_filter.1 hq
            exact ⟨hmem' q.i (h.punl q hq1).1 (fun he => by rw [he, Nat.beq_refl] at hq2; cases hq2), (h.punl q hq1).2⟩
          · exact List.Nodup.sublist (List.Sublist.map _ List.filter_sublist) h.pnd
          · intro d hd
            by_cases hdd : oi.dst = some d
            · rw [hdd, put_get, if_pos rfl, hval d (by rw [hpo]; exact hdd), h.tsize]
            · rw [put_other _ _ hdd]
              refine h.agree d fun q hq hqd => ?_
              by_cases hqi : q.i = i
              · have := h.inv.ho q hq
                rw [hqi, hoi] at this
                cases this
                exact hdd hqd
              · refine hd q (List.mem_filter.2 ⟨hq, ?_⟩) hqd
                cases hb : Nat.beq q.i i with
                | false => rfl
                | true => exact absurd (Nat.eq_of_beq_eq_true hb) hqi
          · have := PInv.exec (j := p) (tab := tab) hpe.ho h.tsize hval h.inv (fun q hq _ => by rw [hpi]; exact noanc q.i (h.punl q hq).1) h.pnd (.inl hp)
            rw [hpo, hpi] at this
            exact this
        have hyv := hpe.yv w hpe.bel
        have hab := fun f => hpe.ab w f hpe.bel
        rw [hpo] at hyv hab
        unfold wpOpIn
        simp only [hoi]
        rw [hsee.wanted]
        rcases hyv with ⟨hw, hrun⟩ | ⟨hw, hv⟩
        · rw [if_pos hw]
          unfold Oper.wpIn
          rw [hsee.about]
          refine ⟨hab, ?_⟩
          rw [Oper.semAt_plain _ _ _ (plain_defer hpl), hsee.exec hpl, hrun]
          exact next
        · rw [if_neg (by rw [hw]; exact Bool.false_ne_true)]
          rw [hsee.about]
          exact ⟨hab, by rw [← hv]; exact next⟩
      have main : ∀ (f : Nat) {la : Act} {pend : List PE} {D : List Nat}, WayT R F n P ops vs Q tab us listed a la w pend D f → wpOpIn F n P ops Q i (wpAnyIn F n P .any ops Q fuel (listed.setIfInBounds i true)) a w := by
        intro f
        induction f with
        | zero =>
          intro la pend D h
          have hD : i ∈ D := by
            refine Classical.byContradiction fun hno => ?_
            have h1 := nodup_le_len ops.size (i :: D) (fun x hx => by
              rcases List.mem_cons.1 hx with rfl | hx
              · exact hilt
              · exact h.dlt x hx) (List.nodup_cons.2 ⟨hno, h.dnd⟩)
            have h2 := h.len
            rw [List.length_cons] at h1
            omega
          exact doP h (h.dP i hD hius)
        | succ f ihf =>
          intro la pend D h
          by_cases hp : ∃ p ∈ pend, p.i = i
          · exact doP h hp
          have hiD : i ∉ D := fun hD => hp (h.dP i hD hius)
          have hr := h.rest
          unfold eagT at hr
          have notD : ∀ {p : PE}, p ∈ pend → ∀ {j : Nat} {o : Oper}, j ∉ D → anc tab p.i j = false := by
            intro p hp j o hj
            cases ha : anc tab p.i j with
            | false => rfl
            | true =>
              exfalso
              have hpD := (h.punl p hp).2.1
              have hpo := h.inv.ho p hp
              exact hj (anc_done htab (Ls := fun k => k ∈ D) (fun i o ho hi k hk => h.closedD i o ho hi k hk) p.i j p.o hpo (h.closedD p.i p.o hpo hpD) ha (fun k hk => h.dlt k hk))
          split at hr
          · rename_i k hk
            have hkr : rdyB ops.toList D k = true := List.find?_some hk
            have hkv : k ∈ vs := List.mem_of_find?_eq_some hk
            obtain ⟨hkD, ok, hok0, hkb⟩ := rdyB_iff.1 hkr
            obtain ⟨ok1, hok', v, hv, hab, he⟩ := hr
            have eok : ok = ok1 := by rw [hok0] at hok'; exact Option.some.inj hok'
            subst eok
            have hkus : k ∈ us := Classical.byContradiction fun hno => hkD (h.dA k (Array.getElem?_eq_some_iff.1 hok0).1 hno)
            have hpk : ∀ p ∈ pend, p.i ≠ k := fun p hp he => hkD (he ▸ (h.punl p hp).2.1)
            have hpair : ∀ p ∈ pend, pairOK ops tab (p.i, 0) (k, 0) = true := fun p hp =>
              pairS_pair (hstat p.i (h.punl p hp).2.2 k (Array.getElem?_eq_some_iff.1 hok0).1 (hpk p hp)) (notD hp (o := ok) hkD)
            have hdst : ∀ p ∈ pend, ∀ d, p.o.dst = some d → ok.dst ≠ some d := fun p hp => (pair_spec (p := (p.i, 0)) (q := (k, 0)) (h.inv.ho p hp) hok0 (hpair p hp)).1
            refine ihf (la := la.put ok.dst v) (pend := ⟨k, ok, v, la, w⟩ :: pend) (D := k :: D) ⟨h.und, h.size, h.uiff, h.ult, List.nodup_cons.2 ⟨hkD, h.dnd⟩, by rw [List.length_cons]; have := h.len; omega, fun j hj hju => List.mem_cons_of_mem _ (h.dA j hj hju), ?_, ?_, ?_, ?_, ?_, h.closed, by rw [put_defers]; exact h.defers, by rw [put_size]; exact h.tsize, ?_, ⟨⟨hok0, hv, hab, R.refl _, ?_, ?_, hpair⟩, ?_⟩, he⟩
            · intro j hj hju
              rcases List.mem_cons.1 hj with rfl | hj
              · exact ⟨_, List.mem_cons_self, rfl⟩
              · obtain ⟨p, hp, hpj⟩ := h.dP j hj hju
                exact ⟨p, List.mem_cons_of_mem _ hp, hpj⟩
            · intro j hj
              rcases List.mem_cons.1 hj with rfl | hj
              · exact (Array.getElem?_eq_some_iff.1 hok0).1
              · exact h.dlt j hj
            · intro p hp
              rcases List.mem_cons.1 hp with rfl | hp
              · exact ⟨hkus, List.mem_cons_self, hkv⟩
              · exact ⟨(h.punl p hp).1, List.mem_cons_of_mem _ (h.punl p hp).2.1, (h.punl p hp).2.2⟩
            · refine List.nodup_cons.2 ⟨fun hm => ?_, h.pnd⟩
              obtain ⟨p, hp, hpi⟩ := List.mem_map.1 hm
              exact hpk p hp hpi
            · intro j o ho hj q hq
              rcases List.mem_cons.1 hj with rfl | hj
              · rw [hok0] at ho; cases ho
                exact List.mem_cons_of_mem _ (hkb q hq)
              · exact List.mem_cons_of_mem _ (h.closedD j o ho hj q hq)
            · intro d hd
              rw [put_other _ _ (hd _ List.mem_cons_self)]
              exact h.agree d fun p hp => hd p (List.mem_cons_of_mem _ hp)
            · intro d hd
              simp only at hd
              rw [hd, put_get, if_pos rfl]
              have := put_size la (some d) v
              rw [this]
            · intro d hd
              by_cases hx : ∃ p ∈ pend, p.o.dst = some d
              · obtain ⟨p, hp, hpd⟩ := hx
                exact .inl ⟨p, hp, hpd, by rw [put_other _ _ (hdst p hp d hpd)]⟩
              · exact .inr ⟨fun p hp hpd => hx ⟨p, hp, hpd⟩, (h.agree d fun p hp hpd => hx ⟨p, hp, hpd⟩).symm⟩
            · exact PInv.step (by rw [put_size]) h.inv (fun p hp d hd => by rw [put_other _ _ (hdst p hp d hd)]) (fun p hp d hd => rfl) (R.refl _)
          · -- an effect: the one that comes up is among those that can
            have hcand : i ∈ cands ops.toList D := by
              unfold cands
              refine List.mem_filter.2 ⟨List.mem_range.2 (by simpa using hilt), rdyB_iff.2 ⟨hiD, oi, hoi, fun k hk => ?_⟩⟩
              obtain ⟨h1, h2⟩ := hibus k hk
              exact h.dA k h1 h2
            have hop := hr i hcand
            have hap : ∀ p ∈ pend, (∀ d, p.o.dst = some d → d ∉ oi.looksAt ops) ∧ (∀ d, oi.dst = some d → d ∉ p.o.looksAt ops) ∧ ∀ d, p.o.dst = some d → oi.dst ≠ some d := by
              intro p hp'
              have hne : p.i ≠ i := fun e => hp ⟨p, hp', e⟩
              have h1 := pair_spec (p := (p.i, 0)) (q := (i, 0)) (h.inv.ho p hp') hoi (pairS_pair (hstat p.i (h.punl p hp').2.2 i hilt hne) (notD hp' (o := oi) hiD))
              have h2 := h1.2 (noanc p.i (h.punl p hp').1)
              exact ⟨h2.2.2.1, h2.2.2.2, h1.1⟩
            have hsee : Sees ops oi a la := fun d hd => h.agree d fun p hp hpd => (hap p hp).1 d hpd hd
            refine op_move hoi hpl hsee h.defers hQ hop ?_
            intro v w' ds hk
            obtain ⟨hb, he⟩ := hk
            refine ih (us := us.erase i) (la := { la with defers := ds }.put oi.dst v) (pend := pend) (D := i :: D) (f := f) hlen' ⟨hund', hsz', huiff', hult', List.nodup_cons.2 ⟨hiD, h.dnd⟩, by rw [List.length_cons]; have := h.len; omega, ?_, ?_, ?_, ?_, h.pnd, ?_, hclosed', by rw [put_defers, put_defers], by rw [put_size, put_size]; exact h.tsize, ?_, ?_, he⟩
            · intro k hk hku
              by_cases e : k = i
              · subst e; exact List.mem_cons_self
              · exact List.mem_cons_of_mem _ (h.dA k hk fun hx => hku (hmem' k hx e))
            · intro k hkD hku
              rcases List.mem_cons.1 hkD with rfl | hkD
              · exact absurd rfl (hne' _ hku)
              · exact h.dP k hkD (List.mem_of_mem_erase hku)
            · intro j hj
              rcases List.mem_cons.1 hj with rfl | hj
              · exact hilt
              · exact h.dlt j hj
            · intro p hp'
              exact ⟨hmem' p.i (h.punl p hp').1 (fun e => hp ⟨p, hp', e⟩), List.mem_cons_of_mem _ (h.punl p hp').2.1, (h.punl p hp').2.2⟩
            · intro j o ho hj q hq
              rcases List.mem_cons.1 hj with rfl | hj
              · rw [hoi] at ho; cases ho
                obtain ⟨h1, h2⟩ := hibus q hq
                exact List.mem_cons_of_mem _ (h.dA q h1 h2)
              · exact List.mem_cons_of_mem _ (h.closedD j o ho hj q hq)
            · intro d hd
              by_cases hdd : oi.dst = some d
              · rw [hdd, put_get, put_get, if_pos rfl, if_pos rfl]
                show (if d < a.tmps.size then some v else none) = if d < la.tmps.size then some v else none
                rw [h.tsize]
              · rw [put_other _ _ hdd, put_other _ _ hdd]
                exact h.agree d hd
            · refine PInv.step (by rw [put_size]) h.inv (fun p hp d hd => ?_) (fun p hp d hd => ?_) hb
              · rw [put_other _ _ ((hap p hp).2.2 d hd)]
              · rw [put_other _ _ (fun hx => (hap p hp).2.1 d hx hd)]
      exact main f h

/-- **A region that draws its order: whatever makes memory in any order.** -/
theorem wpIn_region_eagT {R : WR} {F : Fence} {n : Nat} {ops : Array Oper} {Q : Exit → Act → World → Prop} {vs tab : List Nat} {id : Nat} {a : Act} {w : World} (hm : P.follows .mixedOrders = true) (hok : statOK ops vs tab = true) (hQ : ∀ c a w, ¬ Q (.panic c) a w)
    (h : eagT R F n P ops vs Q ops.size [] a { w with drawn := w.drawn + 1 }) : (Code.region id ops true).wpIn F n P Q a w := by
  refine wpIn_region_any hm ?_
  refine way_anyT hok hQ ops.size (us := List.range ops.size) (la := a) (pend := []) (D := []) (f := ops.size) (by simp) ⟨List.nodup_range, by simp, ?_, (fun i hi => List.mem_range.1 hi), List.nodup_nil, by simp, (fun i hi hn => absurd (List.mem_range.2 hi) hn), (fun i hi => (by cases hi)), (fun i hi => (by cases hi)), (fun p hp => (by cases hp)), List.nodup_nil, (fun i o ho hi => (by cases hi)), ?_, rfl, rfl, fun _ _ => rfl, trivial, h⟩
  · intro i hi
    simp [Array.getD, hi]
  · intro i o ho hl
    simp [Array.getD] at hl

/-! ### Its verification condition -/
/-- Two things to show. -/
inductive VBoth (A B : Prop) : Prop
  | mk (h : A) (k : B)
def allC : List Nat → (Nat → Prop) → Prop
  | [], _ => VStuck 220
  | i :: r, p => match r with
    | [] => p i
    | _ => VBoth (p i) (allC r p)
theorem allC_mem : ∀ {l : List Nat} {p : Nat → Prop}, allC l p → ∀ i ∈ l, p i
  | [], _, h, _, _ => by cases h
  | [j], p, h, i, hi => by simp at hi; subst hi; exact h
  | j :: k :: r, p, h, i, hi => by
    cases h with
    | mk h1 h2 =>
      rcases List.mem_cons.1 hi with rfl | hi
      · exact h1
      · exact allC_mem (l := k :: r) h2 i hi
def vcT (C : VX) (P : Program) (ops : List Oper) (vs es : List Nat) (M0 : Mem) : Nat → List Nat → St → (St → Prop) → Prop
  | 0, _, st, k => k st
  | f + 1, D, st, k => match nextV ops vs D with
    | some i => match ops[i]? with
      | some o => guardV ops st o (fun st => barV C P M0 st o fun s => st.putv o.dst s fun st' => vcT C P ops vs es M0 f (i :: D) st' k) (fun st => st.putv o.dst (.v (.tuple #[])) fun st' => vcT C P ops vs es M0 f (i :: D) st' k)
      | none => VStuck 221
    | none => allC (es.filter (rdyB ops D)) fun i => match ops[i]? with
      | some o => guardV ops st o (fun st => step C P st o fun st' => st'.withM fun M' => VFact (M0.le M') (vcT C P ops vs es M0 f (i :: D) st' k)) (fun st => st.putv o.dst (.v (.tuple #[])) fun st' => vcT C P ops vs es M0 f (i :: D) st' k)
      | none => VStuck 222
theorem vcT_sound {C : VX} (hC : VXOK P C) {r : Option Nat} {n : Nat} {κ : Yt → Bs → Prop} {fx : Nat → Prop} {tm : Array Value} {ops : Array Oper} {vs es : List Nat} (hes : ∀ i, i < ops.toList.length → i ∉ vs → i ∈ es) {k : St → Prop} {G : Gh} {Q : Exit → Act → World → Prop} (hQ : ∀ a W, KK κ G k a W → Keep fx tm a → Q .normal a W) (hw : ∀ o ∈ ops.toList, ∀ d, o.dst = some d → ¬ fx d) {B : Bs} {M0 : Mem} (hlow : ∀ b, b < B.n₀ → M0 b = B.M₀ b) :
    ∀ (f : Nat) {D : List Nat} {ρ : Env} {st : St} {a : Act} {W : World}, vcT C P ops.toList vs es M0 f D st k → κ st.G.Y B → Sat B.n₀ B.w B.M₀ ρ st a W → G.lq st.G → Keep fx tm a → M0.le st.M → eagT (WR.keep (KeepW B M0)) (Fw r) n P ops vs Q f D a W := by
  intro f
  induction f with
  | zero => intro D ρ st a W hk hκ h hG hkp _; exact hQ a W ⟨B, ρ, st, hκ, h, hG, hk⟩ hkp
  | succ f ih =>
    intro D ρ st a W hk hκ h hG hkp hle
    have putM : ∀ (st : St) (d : Option Tmp) (s : SV), (st.put d s).M = st.M := fun st d s => by cases d <;> rfl
    have kw : ∀ {ρ' : Env} {st' : St} {a' : Act} {W' : World}, Sat B.n₀ B.w B.M₀ ρ' st' a' W' → M0.le st'.M → KeepW B M0 W' := fun h hl => ⟨h.h.below, h.h.size, fun b o hb => h.h.mem b o (hl b o hb)⟩
    have skip : ∀ {i : Nat} {o : Oper}, (∀ d, o.dst = some d → ¬ fx d) → ∀ {st1 : St}, Sat B.n₀ B.w B.M₀ ρ st1 a W → st1.G = st.G → M0.le st1.M → (st1.putv o.dst (.v (.tuple #[])) fun st' => vcT C P ops.toList vs es M0 f (i :: D) st' k) → eagT (WR.keep (KeepW B M0)) (Fw r) n P ops vs Q f (i :: D) (a.put o.dst undef) W := by
      intro i o hwo st1 h1 hG1 hM1 hB
      obtain ⟨j1, j2⟩ := putv_elim hB h1 (by trivial)
      exact ih j2 (by rw [put_G, hG1]; exact hκ) j1 (by rw [put_G, hG1]; exact hG) (hkp.put hwo _) (by rw [putM]; exact hM1)
    unfold vcT at hk
    unfold eagT
    split at hk
    · rename_i i hn
      split at hk
      · rename_i o ho
        have ho' : ops[i]? = some o := by simpa using ho
        have hwo := hw o (List.mem_of_getElem? ho)
        refine ⟨o, ho', ?_⟩
        obtain ⟨st1, h1, hG1, hM1, hcase⟩ := guard_soundM h hk
        have hM1' : M0.le st1.M := by rw [hM1]; exact hle
        rcases hcase with ⟨hw', hA⟩ | ⟨hw', hB⟩
        · obtain ⟨sl, ow, nx, M1, nt, G1⟩ := st1
          have hbH : ∀ W', KeepW B M0 W' → SatH B.n₀ B.w B.M₀ ρ ⟨sl, [], nx, M0, nt, ⟨fun _ => none, none, fun _ => none⟩⟩ W' := fun W' hk =>
            ⟨hk.1, hk.2.1, hk.2.2, fun id e he => (by cases he), fun i j ei ej hi => (by cases hi), fun i e b hi => (by cases hi), fun b o hb => (by cases hb), hlow, fun b o hb => (by cases hb)⟩
          have hbs : Sat B.n₀ B.w B.M₀ ρ ⟨sl, [], nx, M0, nt, ⟨fun _ => none, none, fun _ => none⟩⟩ { a with defers := [] } W := ⟨hbH W (kw h1 hM1'), h1.nt, h1.sl, trivial⟩
          obtain ⟨_, s, q1, q2, q3⟩ := val_sound hC hA hbs
          obtain ⟨j1, j2⟩ := putv_elim q3 h1 q1
          exact ⟨s.den ρ, fun W' hb => .inl ⟨hw', q2 W' (hbH W' (hb (kw h1 hM1')))⟩, fun _ _ _ _ => trivial, ih j2 (by rw [put_G, hG1]; exact hκ) j1 (by rw [put_G, hG1]; exact hG) (hkp.put hwo _) (by rw [putM]; exact hM1')⟩
        · exact ⟨undef, fun W' hb => .inr ⟨hw', rfl⟩, fun _ _ _ _ => trivial, skip hwo h1 hG1 hM1' hB⟩
      · cases hk
    · rename_i hn
      intro i hi
      have hi' : i ∈ es.filter (rdyB ops.toList D) := by
        obtain ⟨h1, h2⟩ := List.mem_filter.1 hi
        refine List.mem_filter.2 ⟨hes i (List.mem_range.1 h1) fun hv => ?_, h2⟩
        exact absurd h2 (List.find?_eq_none.1 hn i hv)
      have hk := allC_mem hk i hi'
      split at hk
      · rename_i o ho
        have ho' : ops[i]? = some o := by simpa using ho
        have hwo := hw o (List.mem_of_getElem? ho)
        obtain ⟨st1, h1, hG1, hM1, hcase⟩ := guard_soundM h hk
        have hM1' : M0.le st1.M := by rw [hM1]; exact hle
        unfold wpOpIn
        simp only [ho']
        rcases hcase with ⟨hw', hA⟩ | ⟨hw', hB⟩
        · rw [if_pos hw']
          refine Oper.wpIn_mono ?_ (op_keep (step_sound hC hA h1) hwo hkp)
          rintro a' W' ⟨⟨ρ', st', g1, g2, g3⟩, hkp'⟩
          cases withM_iff g3 with
          | mk hle' hk' => exact ⟨fun _ => kw g1 hle', ih hk' (by rw [g2.2, hG1]; exact hκ) g1 (hG.trans (by rw [← hG1]; exact g2.1)) hkp' hle'⟩
        · rw [if_neg (by rw [hw']; exact Bool.false_ne_true)]
          exact ⟨fun _ _ => trivial, fun h => h, skip hwo h1 hG1 hM1' hB⟩
      · cases hk
/-- Which operations yield a value. -/
def valsOf (ops : List Oper) : List Nat := (List.range ops.length).filter fun i => match ops[i]? with | some o => isVal ops o | none => false
/-- A region, its operations in any order; the ways come together in one state. -/
theorem VCode.draws {C : VX} (hC : VXOK P C) {id : Nat} {ops : Array Oper} {st : St} {Q : Ex → St → Prop} (ds : List Nat) (hok : statOK ops (valsOf ops.toList) (tabOf ops.toList) = true) (S : Type) (inv : S → St) (pf : S → Prop)
    (walk : frzSl st ds fun st1 => st1.withM fun M0 => vcT C P ops.toList (valsOf ops.toList) (List.range ops.toList.length) M0 ops.toList.length [] st1 fun st' => ∃ s, pf s ∧ Wk st' (inv s))
    (rest : st.withYf fun _ f => ∀ s m, pf s → (inv s).flatG m f (Q .normal)) : VCode P (.region id ops true) st Q := by
  refine ⟨fun r n κ B ρ a W fx tm hY hr hκ h hwr hkp => ?_⟩
  obtain ⟨st1, h1, hG1, hk⟩ := frzSl_sound h walk
  replace hk := withM_iff hk
  refine wpIn_region_eagT (R := WR.keep (KeepW B st1.M)) (vs := valsOf ops.toList) (tab := tabOf ops.toList) hC.mixed hok ?_ ?_
  · rintro c a' w' ⟨⟨ex, he, _⟩, _⟩; cases he
  · rw [show ops.toList.length = ops.size from Array.length_toList] at hk
    refine vcT_sound hC (fun i hi _ => List.mem_range.2 hi) (G := st1.G) (k := fun st' => ∃ s, pf s ∧ Wk st' (inv s)) (fun a W hK hkp => ⟨⟨.normal, rfl, ?_⟩, hkp⟩) hwr h1.h.mlow _ hk (by rw [hG1]; exact hκ) (h1.grow (W' := { W with drawn := W.drawn + 1 }) (Below.drew (Below.refl _ W)) (M' := st1.M) h1.h.mem (fun _ _ => rfl)) (Gh.lq_refl _) hkp (Mem.le_refl _)
    obtain ⟨B', ρ', st', hκ', g1, g2, s, hp, hwk⟩ := hK
    obtain ⟨ρ1, hs1⟩ := hwk.imp st'.G _ _ _ ρ' a W g1
    have hq := flatG_iff (withYf_iff rest s st'.G.m hp)
    have hf : st'.G.f = st.G.f := by rw [g2.2, hG1]
    refine ⟨B', ρ1, _, ?_, ?_, ?_, hq⟩
    · rw [← hwk.y]; exact hκ'
    · rw [← hwk.y, ← hf]; exact hs1
    · exact ⟨by rw [← hG1]; exact g2.1, rfl⟩
/-- What a join asks of the ways through a code. -/
def joinQ (S : Type) (inv : S → St) (pf : S → Prop) (Q : Ex → St → Prop) : Ex → St → Prop := fun e st' => match e with
  | .normal => ∃ s, pf s ∧ Wk st' (inv s)
  | .ret => Q .ret st'
  | .exit i => Q (.exit i) st'
/-- A state that says less, ahead of a code. -/
theorem VCode.ease {c : Code} {st : St} {Q : Ex → St → Prop} (st' : St) (hw : Wk st st') (rest : st.withYf fun _ f => ∀ m, st'.flatG m f fun st2 => VCode P c st2 Q) : VCode P c st Q := by
  refine ⟨fun r n κ B ρ a W fx tm hY hr hκ h hwr hkp => ?_⟩
  obtain ⟨ρ1, hs1⟩ := hw.imp st.G _ _ _ ρ a W h
  have hq := flatG_iff (withYf_iff rest st.G.m)
  have hG : (⟨st.G.m, st'.G.Y, st.G.f⟩ : Gh) = st.G := by rw [← hw.y]
  rw [hG] at hq
  exact hq.run r n κ B ρ1 a W fx tm hY hr hκ hs1 hwr hkp
/-- What slots hold is frozen ahead of a code: own variables that are only read from here on. -/
theorem VCode.frz {c : Code} {st : St} {Q : Ex → St → Prop} (ds : List Nat) (walk : frzSl st ds fun st1 => VCode P c st1 Q) : VCode P c st Q := by
  refine ⟨fun r n κ B ρ a W fx tm hY hr hκ h hwr hkp => ?_⟩
  obtain ⟨st1, h1, hG1, hk⟩ := frzSl_sound h walk
  have := hk.run r n κ B ρ a W fx tm hY (by rw [hG1]; exact hr) (by rw [hG1]; exact hκ) h1 hwr hkp
  rw [hG1] at this
  exact this
end Go.V

/- Contracts of package ray: leaves, rays, what lies between two. -/
namespace Go.Proofs.YtegmjmdkhbibjaaGreat
open Go Go.V Go.RowKit
end Go.Proofs.YtegmjmdkhbibjaaGreat

/- Contracts of tide: valid editions, searching flows, what holds. -/
namespace Go.Proofs.YtegmjmdkhbibjaaGreat
open Go Go.V Go.RowKit
def flC (f : FlowS) : List Value := [.int .i64 f.x, .int .i64 f.y, .int .i64 f.s, .int .i64 f.ul, .int .i64 f.uh, .int .i64 f.vl, .int .i64 f.vh, .int .i64 f.hl, .int .i64 f.hh]
def FlowD (_ : Mem) (f : FlowS) (r : List Value) : Prop := r = flC f
def FlsV (M : Mem) (v : Value) (l : List FlowS) : Prop := Arr FlowD M 9 v l
theorem FlsV.le {M M' : Mem} {v : Value} {l : List FlowS} (h : FlsV M v l) (hM : M.le M') : FlsV M' v l := Arr.le (fun _ _ _ _ _ h => h) h hM
theorem FlsV.get {M : Mem} {v : Value} {l : List FlowS} (h : FlsV M v l) : ∃ ad c, v = .slice ad l.length c ∧ l.length ≤ 9223372036854775807 ∧ ∀ M', M.le M' → ∀ i, i < l.length → ∃ ad', ad = some ad' ∧ ∀ j v, (flC (gf l i))[j]? = some v → M'.cell ((ad'.add (i * 9)).add j) = some v := by
  obtain ⟨ad, c, h1, h2, h3⟩ := Arr.get h
  refine ⟨ad, c, h1, h2, fun M' hM i hi => ?_⟩
  obtain ⟨ad', r, h4, _, rfl, h6⟩ := h3 i _ (getD_get zeroF hi)
  exact ⟨ad', h4, fun j y hy => h6 M' hM j y hy⟩
end Go.Proofs.YtegmjmdkhbibjaaGreat

/- Contracts of tide: the search for a flow, what holds in a block and a slot. -/
namespace Go.Proofs.YtegmjmdkhbibjaaGreat
open Go Go.V Go.RowKit
end Go.Proofs.YtegmjmdkhbibjaaGreat

/- Contracts of tide: what holds in a block and a slot; at a place and a time; blocks of a rectangle. -/
namespace Go.Proofs.YtegmjmdkhbibjaaGreat
open Go Go.V Go.RowKit
theorem isCb_bd {n : Int} (h : isCb n = true) : -500000 ≤ n ∧ n ≤ 500000 := by simpa [isCb] using h
end Go.Proofs.YtegmjmdkhbibjaaGreat

/- Contracts of tide: the blocks of a rectangle. -/
namespace Go.Proofs.YtegmjmdkhbibjaaGreat
open Go Go.V Go.RowKit
end Go.Proofs.YtegmjmdkhbibjaaGreat

/- Contracts of span.Join and tide.join. -/
namespace Go.Proofs.YtegmjmdkhbibjaaGreat
open Go Go.V Go.RowKit
end Go.Proofs.YtegmjmdkhbibjaaGreat

/- Contracts of tide: bounds of all that is ranged over. -/
namespace Go.Proofs.YtegmjmdkhbibjaaGreat
open Go Go.V Go.RowKit
end Go.Proofs.YtegmjmdkhbibjaaGreat

/- Contracts of tide: Bound. -/
namespace Go.Proofs.YtegmjmdkhbibjaaGreat
open Go Go.V Go.RowKit
end Go.Proofs.YtegmjmdkhbibjaaGreat

/- Contracts of tide: Bound. -/
namespace Go.Proofs.YtegmjmdkhbibjaaGreat
open Go Go.V Go.RowKit
end Go.Proofs.YtegmjmdkhbibjaaGreat

/- Contracts of the tide's reference: what is usable. -/
namespace Go.Proofs.YtegmjmdkhbibjaaGreat
open Go Go.V Go.RowKit
end Go.Proofs.YtegmjmdkhbibjaaGreat

/- Contracts of the tide's reference: bounds, rectangle, few, valid; what the laws look at. -/
namespace Go.Proofs.YtegmjmdkhbibjaaGreat
open Go Go.V Go.RowKit
end Go.Proofs.YtegmjmdkhbibjaaGreat

/- Contracts of the tide's reference: few, valid, usable. -/
namespace Go.Proofs.YtegmjmdkhbibjaaGreat
open Go Go.V Go.RowKit
end Go.Proofs.YtegmjmdkhbibjaaGreat

/- Contracts of the tide's reference: valid editions. -/
namespace Go.Proofs.YtegmjmdkhbibjaaGreat
open Go Go.V Go.RowKit
end Go.Proofs.YtegmjmdkhbibjaaGreat

/- Contracts of the tide's laws: usable. -/
namespace Go.Proofs.YtegmjmdkhbibjaaGreat
open Go Go.V Go.RowKit
end Go.Proofs.YtegmjmdkhbibjaaGreat

/- Contracts of the tide's laws: a place inside. -/
namespace Go.Proofs.YtegmjmdkhbibjaaGreat
open Go Go.V Go.RowKit
end Go.Proofs.YtegmjmdkhbibjaaGreat

/- Contracts of the tide's reference: down, slots, blocks, joins. -/
namespace Go.Proofs.YtegmjmdkhbibjaaGreat
open Go Go.V Go.RowKit
end Go.Proofs.YtegmjmdkhbibjaaGreat

/- Contracts: quotients rounded up; the places around a ray. -/
namespace Go.Proofs.YtegmjmdkhbibjaaGreat
open Go Go.V Go.RowKit
end Go.Proofs.YtegmjmdkhbibjaaGreat

/- The verification-condition framework, part U: contracts of functions that hand back a growing slice. -/
namespace Go.V
open Go Go.RowKit
variable {P : Program}
/-- A contract: what is handed back is a new slice, the caller's own. -/
def FnRow (P : Program) (f : Nat) (args : List Value) (M : Mem) (E sz : Nat) (R : Nat → List Value → Mem → Prop) : Prop :=
  Enters P f ∧ ∀ W, M.ok W → Calls P f args.toArray W fun e W' => ∃ v n xs M', e = .returned v ∧ W'.ownsRow W.heap.size E sz v n xs ∧ (∀ x ∈ xs, x.oneCell' = true) ∧ (∀ b, ob v = some b → M' b = none) ∧
    Below W.heap.size W W' ∧ M.le M' ∧ M'.ok W' ∧ (∀ b, b < W.heap.size → M' b = M b) ∧ R n xs M'
/-- What a function hands back: a slice of its own. -/
def finRow (C : VX) (fn : Func) (E sz : Nat) (R : Nat → List Value → Mem → Prop) (e : Ex) (st : St) : Prop :=
  match e with
  | .exit _ => VStuck 180
  | _ => match resSV C st fn.results.toList with
    | some [.row id] => match st.own id with
      | some (.row E' sz' n xs) => match Nat.beq E' E && Nat.beq sz' sz with
        | true => st.withM fun M => VFact (R n xs M) True
        | false => VStuck 181
      | _ => VStuck 182
    | _ => VStuck 183
theorem FnRow.of_vc {C : VX} (hC : VXOK P C) {f : Nat} {fn : Func} {c : Code} (hf : P.funcs[f]? = some fn) (hb : fn.body = some c) (hname : (fn.name == "runtime.NumGoroutine") = false)
    {args : List Value} (hnt : Nat.ble args.length fn.ntmps = true) {M : Mem} {E sz : Nat} {R : Nat → List Value → Mem → Prop} (h : vc C P c (st0 args M fn.ntmps none) (finRow C fn E sz R)) : FnRow P f args M E sz R := by
  refine ⟨Go.Proofs.enters_of hf hname hb, fun W hW => ?_⟩
  refine (callsIn_wide (n := 100)).1 (callsIn_of_wp_marks hf hb trivial ?_ rfl)
  have hle := Nat.le_of_ble_eq_true hnt
  have hs0 : Sat W.heap.size W M (fun _ => undef) (st0 args M fn.ntmps none) { tmps := args.toArray ++ Array.replicate (fn.ntmps - args.toArray.size) undef, defers := [] } W := by
    refine ⟨⟨Below.refl _ _, Nat.le_refl _, hW, ?_, ?_, ?_, ?_, fun _ _ => rfl, fun b o hb => by cases hb⟩, by simp [st0]; omega, ?_, trivial⟩
    · intro id e he; simp [St.own, st0, look] at he
    · intro i j ei ej hi; simp [St.own, st0, look] at hi
    · intro i e b hi; simp [St.own, st0, look] at hi
    · intro b o hb; cases hb
    · intro d s hd
      obtain ⟨h1, h2, v, h3, rfl⟩ := argSlots_look args 0 d s hd
      refine ⟨by simp [st0]; omega, trivial, ?_⟩
      simp only [Nat.sub_zero] at h3
      rw [Array.getElem?_append_left (by simp; omega)]
      simp only [SV.den, List.getElem?_toArray]
      exact h3
  have := vc_sound (r := none) (n := 100) hC (κ := fun Y B => Y = none ∧ B = ⟨W.heap.size, W, M⟩) (fun l args rest B M W hκ => by cases hκ.1) (fx := fun _ => False) (tm := #[]) (B := ⟨W.heap.size, W, M⟩) c h (fun l hl => by cases hl) ⟨rfl, rfl⟩ hs0 (wr_false c) (fun d hd => hd.elim)
  refine wpIn_mono this ?_
  rintro e a' W' ⟨⟨ex, he, B, ρ, st, ⟨_, rfl⟩, h1, h2, h3⟩, _⟩
  have main : (e = .normal ∨ e = .ret) → LeavesInM (Fw none) 100 P fn a'.tmps (fun e W'' => ∃ v n xs M', e = .returned v ∧ W''.ownsRow W.heap.size E sz v n xs ∧ (∀ x ∈ xs, x.oneCell' = true) ∧ (∀ b, ob v = some b → M' b = none) ∧
    Below W.heap.size W W'' ∧ M.le M' ∧ M'.ok W'' ∧ (∀ b, b < W.heap.size → M' b = M b) ∧ R n xs M') a'.defers .returning W' := by
    intro hcase
    have h3' : (match resSV C st fn.results.toList with
      | some [.row id] => match st.own id with
        | some (.row E' sz' n xs) => match Nat.beq E' E && Nat.beq sz' sz with
          | true => st.withM fun M => VFact (R n xs M) True
          | false => VStuck 181
        | _ => VStuck 182
      | _ => VStuck 183) := by
      rcases hcase with rfl | rfl <;> cases he <;> exact h3
    split at h3'
    · rename_i id hrs
      split at h3'
      · rename_i E' sz' n xs hid
        split at h3'
        · rename_i hb2
          simp only [Bool.and_eq_true] at hb2
          have e1 := Nat.eq_of_beq_eq_true hb2.1
          have e2 := Nat.eq_of_beq_eq_true hb2.2
          subst e1 e2
          obtain ⟨hR, _⟩ := withM_iff h3'
          have hsl : ∀ d s, look st.sl d = some s → s.sc st.nx ∧ a'.tmps[d]? = some (s.den ρ) := fun d s hd => ⟨(h1.sl d s hd).2.1, (h1.sl d s hd).2.2⟩
          have hres := fun (G : Gh) (W'' : World) (hS : SatH W.heap.size W M ρ { st with G := G } W'') => results_run (tmps := a'.tmps) (st := { st with G := G }) hC hS hsl fn.results.toList (r := [.row id]) (by rw [resSV_G]; exact hrs)
          refine leaves_of a'.defers h1.h h1.h rfl (fun b => by rw [h2.2]; rfl) h1.marks ?_
          intro G W'' s1 s2
          obtain ⟨k1, k2, k3, k4⟩ := s2.own id _ hid
          have hv : slOf (ρ id) = ρ id := ownsRow_isSl k3
          refine ⟨slOf (ρ id), ?_, slOf (ρ id), n, xs, st.M, rfl, by rw [hv]; exact k3, k4, ?_, s2.below, ?_, s2.mem, s2.mlow, hR⟩
          · have hr := (hres G W'' s1).1
            exact results_ret fn a'.tmps P [slOf (ρ id)] W'' hr
          · intro b hb
            rw [hv] at hb
            exact s2.msep id _ b hid hb
          · intro b o hb
            have hlt := (Array.getElem?_eq_some_iff.1 (hW b o hb)).1
            rw [s2.mlow b hlt]; exact hb
        · cases h3'
      · cases h3'
    · cases h3'
  cases e with
  | normal => exact main (.inl rfl)
  | ret => exact main (.inr rfl)
  | exit i => cases he; cases h3
  | goto => cases he
  | panic => cases he
  | outgrown => cases he
/-- More is known of memory, and there is one more entry, in a block that is new. -/
theorem SatH.more {n₀ : Nat} {w : World} {M₀ : Mem} {ρ : Env} {st : St} {W W' : World} (h : SatH n₀ w M₀ ρ st W) {E sz n : Nat} {xs : List Value} {v : Value} {M' : Mem} (hb : Below W.heap.size W W') (hrow : W'.ownsRow W.heap.size E sz v n xs) (h1 : ∀ x ∈ xs, x.oneCell' = true)
    (hnone : ∀ b, ob v = some b → M' b = none) (hM : M'.ok W') (hnew : ∀ b, b < W.heap.size → M' b = st.M b) : SatH n₀ w M₀ (upd ρ st.nx v) { st.add (.row E sz n xs) with M := M' } W' := by
  have hob : ∀ b, ob v = some b → W.heap.size ≤ b := fun b hb' => by
    rcases hrow.2 with ⟨rfl, _⟩ | ⟨g, cap, cur, rfl, hg, _⟩
    · cases hb'
    · simp [ob] at hb'; omega
  have hrow' : W'.ownsRow n₀ E sz v n xs := by
    refine ⟨hrow.1, ?_⟩
    rcases hrow.2 with h2 | ⟨g, cap, cur, h2, hg, r⟩
    · exact .inl h2
    · exact .inr ⟨g, cap, cur, h2, Nat.le_trans h.size hg, r⟩
  have key := h.add (.row E sz n xs) v hb trivial (by exact ⟨by rw [upd_same]; exact hrow', h1⟩) hob
  have old : ∀ i ei b, st.own i = some ei → ob (ρ i) = some b → b < W.heap.size := fun i ei b hi hb' => ((h.own i ei hi).2.2.lt b hb').2.1
  refine ⟨key.below, key.size, hM, key.own, key.sep, ?_, ?_, ?_, key.fpin⟩
  · intro i e b hi hbb
    have hi' : (st.add (.row E sz n xs)).own i = some e := hi
    rw [own_add] at hi'
    by_cases e1 : i = st.nx
    · subst e1
      rw [upd_same] at hbb
      exact hnone b hbb
    · rw [if_neg e1] at hi'
      rw [agree_upd ρ st.nx v i (h.own i e hi').1] at hbb
      show M' b = none
      rw [hnew b (old i e b hi' hbb)]
      exact h.msep i e b hi' hbb
  · intro b o hbo
    obtain ⟨k1, k2, k3⟩ := h.pin b o hbo
    have hlt := (Array.getElem?_eq_some_iff.1 k2).1
    refine ⟨k1, (hb.block b hlt).trans k2, ?_⟩
    show M' b = none
    rw [hnew b hlt]; exact k3
  · intro b hb'
    show M' b = M₀ b
    rw [hnew b (Nat.lt_of_lt_of_le hb' h.size)]
    exact h.mlow b hb'
/-- A call of such a function, its arguments plain. -/
theorem VCall.ofRow {f : Nat} {vs : List Value} {st : St} {K : SV → St → Prop} {E sz : Nat} {R : Nat → List Value → Mem → Prop} (hF : FnRow P f vs st.M E sz R)
    (hK : ∀ n xs M', st.M.le M' → R n xs M' → K (.row st.nx) ⟨st.sl, (st.nx, some (.row E sz n xs)) :: st.ow, st.nx + 1, M', st.nt, st.G⟩) : VCall P f (vs.map .v) st K := by
  refine ⟨hF.1, fun n₀ w M₀ ρ W hS hsa hss => ?_⟩
  have e : (vs.map SV.v).map (SV.den ρ) = vs := by rw [List.map_map]; exact (List.map_congr_left fun _ _ => rfl).trans (List.map_id vs)
  rw [e]
  refine (hF.2 W hS.mem).mono ?_
  rintro e W' ⟨v, n, xs, M', rfl, k1, k2, k3, k4, k5, k6, k7, k8⟩
  refine ⟨.row st.nx, _, upd ρ st.nx v, ?_, Nat.lt_succ_self _, hS.more k4 k1 k2 k3 k6 k7, ?_, rfl, rfl, hK n xs M' k5 k8⟩
  · simp only [SV.den, upd_same]
    rw [ownsRow_isSl k1]
  · intro d s hd
    have hs := hss d s hd
    exact ⟨SV.sc_mono (Nat.le_succ _) hs, s, hd, SV.den_agree (agree_upd ρ st.nx _) hs⟩
/-- The same, the memory named. -/
theorem VCall.ofRowM {f : Nat} {vs : List Value} {st : St} {K : SV → St → Prop} {E sz : Nat} {R : Nat → List Value → Mem → Prop} {M : Mem} (hF : FnRow P f vs M E sz R) (hM : st.M = M)
    (hK : ∀ n xs M', M.le M' → R n xs M' → K (.row st.nx) ⟨st.sl, (st.nx, some (.row E sz n xs)) :: st.ow, st.nx + 1, M', st.nt, st.G⟩) : VCall P f (vs.map .v) st K := by
  subst hM
  exact VCall.ofRow hF hK
/-- An own slice becomes immutable: the heap's part alone. -/
theorem SatH.frzRow {n₀ : Nat} {w : World} {M₀ : Mem} {ρ : Env} {st : St} {W : World} (h : SatH n₀ w M₀ ρ st W) {id E sz n : Nat} {xs : List Value} (hid : st.own id = some (.row E sz n xs)) :
    ∃ M', st.M.le M' ∧ SlAt M' sz (slOf (ρ id)) n xs ∧ SatH n₀ w M₀ ρ { st with ow := (id, none) :: st.ow, M := M' } W := by
  obtain ⟨g1, _, ho, h1⟩ := h.own id _ hid
  rcases ho.2 with ⟨hv, h0⟩ | ⟨g, cap, cur, hg, hge, hh, hnc, hcm, hcs, ht⟩
  · subst h0
    exact ⟨st.M, Mem.le_refl _, ⟨none, 0, by rw [hv]; rfl, Nat.le_refl _, by simp [maxLen], ho.1, h1, fun h => absurd h (Nat.lt_irrefl _)⟩, h.kill id⟩
  · have hob : ob (ρ id) = some g := by simp [hg, ob]
    obtain ⟨f1, f2⟩ := h.freeze hid hob hh
    refine ⟨_, f2, ⟨some ⟨g, 0, none⟩, cap, by rw [hg]; rfl, hnc, hcm, ho.1, h1, fun _ => ⟨_, rfl, fun j v hj => ?_⟩⟩, f1⟩
    rw [Addr.add_none]
    have hb : (st.M.with g (.cells cur E (0, 0))) g = some (.cells cur E (0, 0)) := by simp [Mem.with]
    rw [← ht, List.getElem?_take] at hj
    split at hj
    · simp only [Mem.cell, hb, Option.isSome_none, Bool.false_eq_true, if_false, Nat.zero_add]
      simpa using hj
    · cases hj
end Go.V

/- slices.Grow of nil; contract of slices.Concat. -/
namespace Go.Proofs.YtegmjmdkhbibjaaGreat
open Go Go.V Go.RowKit Go.Shelf
/-! ### slices.Concat -/
end Go.Proofs.YtegmjmdkhbibjaaGreat

/- Contract: cut.around, which calls itself. -/
namespace Go.Proofs.YtegmjmdkhbibjaaGreat
open Go Go.V Go.RowKit
theorem Clone_row (v : Value) (ps : List Pt) (M : Mem) (hv : Pts M v ps) (hn : 1 ≤ ps.length) (hn' : ps.length ≤ 100000) : FnRow Tryz.prog 82 [v] M 46 2 fun n xs _ => n = ps.length ∧ xs = cellsP ps := by
  obtain ⟨ad, c, rfl⟩ := hv.shape
  obtain ⟨_, hm, hrd⟩ := hv.cellsOf
  obtain ⟨ad', rfl, _⟩ := hrd M (Mem.le_refl _) 0 (by omega)
  refine FnRow.of_vc cxIOK Tryz.func82 rfl rfl rfl ?_
  repeat (first | refine VIf.tt ?_ | refine VIf.ff ?_)
  refine VSl.mk ps.length (cellsP ps) hv ?_
  repeat (first | refine VIf.tt ?_ | refine VIf.ff ?_)
  refine VFact.mk (by simp only; omega) ?_
  repeat (first | refine VIf.tt ?_ | refine VIf.ff ?_)
  refine VFact.mk ⟨?_, ?_⟩ trivial
  · exact Nat.zero_add _
  · exact List.nil_append _
end Go.Proofs.YtegmjmdkhbibjaaGreat

/- Contracts of chart: the leaves. -/
namespace Go.Proofs.YtegmjmdkhbibjaaGreat
open Go Go.V Go.RowKit
theorem isID_fn (n : Int) (M : Mem) : FnP Tryz.prog 61 [.int .i64 n] M [.bool (idOK n)] := by
  refine Fn.of_vc cxOK Tryz.func61 rfl rfl rfl ?_
  repeat (first | refine VIf.tt ?_ | refine VIf.ff ?_)
  refine VIf.mk (fun h => ?_) (fun h => ?_)
  · have h := of_decide_eq_true h
    repeat (first | refine VIf.tt ?_ | refine VIf.ff ?_)
    refine VFact.mk ⟨?_, rfl⟩ trivial
    have : idOK n = decide (n ≤ 1000000) := by unfold idOK; simp [h]
    rw [this]
  · have h := of_decide_eq_false h
    repeat (first | refine VIf.tt ?_ | refine VIf.ff ?_)
    refine VFact.mk ⟨?_, rfl⟩ trivial
    have : idOK n = false := by unfold idOK; simp [h]
    rw [this]
theorem chartPlace_fn (p : Pt) (M : Mem) (h1 : i64r p.1) (h2 : i64r p.2) : V.Fn Tryz.prog 50 [ptv p] M fun rs _ => rs = [.bool (placeB p)] := by
  refine Fn.of_vc cxOK Tryz.func50 rfl rfl rfl ?_
  repeat (first | refine VIf.tt ?_ | refine VIf.ff ?_)
  refine VFz.mk fun x B M1 hle hx => ?_
  repeat (first | refine VIf.tt ?_ | refine VIf.ff ?_)
  refine VFn.mk _ (HullOne_fn x p M1 hx h1 h2) ?_
  rintro rs M2 hM2 hr
  by_cases hp : placeB p = true
  · rw [if_pos hp] at hr
    obtain ⟨u, rfl, hu⟩ := hr
    repeat (first | refine VIf.tt ?_ | refine VIf.ff ?_)
    refine VFact.mk ?_ trivial
    rw [hp]; rfl
  · rw [if_neg hp] at hr
    subst hr
    have hp : placeB p = false := by simpa using hp
    repeat (first | refine VIf.tt ?_ | refine VIf.ff ?_)
    refine VFact.mk ?_ trivial
    rw [hp]; rfl
theorem isCell_fn (c : CellS) (M : Mem) : FnP Tryz.prog 64 [.agg #[.int .i64 c.lo, .int .i64 c.hi, .int .i64 c.dt, .bool c.vd]] M [.bool (cellOK c)] := by
  have bad : ¬ cellP c → cellOK c = false := fun h => decide_eq_false h
  refine Fn.of_vc cxOK Tryz.func64 rfl rfl rfl ?_
  repeat (first | refine VIf.tt ?_ | refine VIf.ff ?_)
  refine VIf.mk (fun h1 => ?_) (fun h1 => ?_)
  rotate_left
  · have h1 := of_decide_eq_false h1
    repeat (first | refine VIf.tt ?_ | refine VIf.ff ?_)
    refine VFact.mk ⟨?_, rfl⟩ trivial
    rw [bad (fun h => by unfold cellP at h; omega)]
  have h1 := of_decide_eq_true h1
  repeat (first | refine VIf.tt ?_ | refine VIf.ff ?_)
  refine VIf.mk (fun h2 => ?_) (fun h2 => ?_)
  rotate_left
  · have h2 := of_decide_eq_false h2
    repeat (first | refine VIf.tt ?_ | refine VIf.ff ?_)
    refine VFact.mk ⟨?_, rfl⟩ trivial
    rw [bad (fun h => by unfold cellP at h; omega)]
  have h2 := of_decide_eq_true h2
  repeat (first | refine VIf.tt ?_ | refine VIf.ff ?_)
  refine VIf.mk (fun h3 => ?_) (fun h3 => ?_)
  rotate_left
  · have h3 := of_decide_eq_false h3
    repeat (first | refine VIf.tt ?_ | refine VIf.ff ?_)
    refine VFact.mk ⟨?_, rfl⟩ trivial
    rw [bad (fun h => by unfold cellP at h; omega)]
  have h3 := of_decide_eq_true h3
  repeat (first | refine VIf.tt ?_ | refine VIf.ff ?_)
  refine VIf.mk (fun h4 => ?_) (fun h4 => ?_)
  rotate_left
  · have h4 := of_decide_eq_false h4
    repeat (first | refine VIf.tt ?_ | refine VIf.ff ?_)
    refine VFact.mk ⟨?_, rfl⟩ trivial
    rw [bad (fun h => by unfold cellP at h; omega)]
  have h4 := of_decide_eq_true h4
  repeat (first | refine VIf.tt ?_ | refine VIf.ff ?_)
  refine VFact.mk ⟨?_, rfl⟩ trivial
  have : cellOK c = decide (c.dt ≤ 1000000000) := by
    unfold cellOK
    rw [decide_eq_decide]
    unfold cellP
    omega
  rw [this]
theorem chValid1_fn (c : CellS) (M : Mem) : FnP Tryz.prog 63 [.agg #[.int .i64 c.lo, .int .i64 c.hi, .int .i64 c.dt, .bool c.vd]] M [.bool (!cellOK c)] := by
  refine Fn.of_vc cxOK Tryz.func63 rfl rfl rfl ?_
  repeat (first | refine VIf.tt ?_ | refine VIf.ff ?_)
  refine VFn.p (isCell_fn c _) ?_
  repeat (first | refine VIf.tt ?_ | refine VIf.ff ?_)
  exact VFact.mk ⟨rfl, rfl⟩ trivial
theorem IndexCe_fn (v : Value) (l : List CellS) (M : Mem) (hv : CelsV M v l) :
    V.Fn Tryz.prog 78 [v, .func (.func 63) #[] #[]] M fun rs _ => ∃ k : Int, rs = [.int .i64 k] ∧ (0 ≤ k ↔ l.any (fun c => !cellOK c) = true) := by
  obtain ⟨ad, c, rfl, hm, hrd⟩ := hv.get
  refine Fn.of_vc cxOK Tryz.func78 rfl rfl rfl ?_
  repeat (first | refine VIf.tt ?_ | refine VIf.ff ?_)
  refine VCode.loop cxOK Nat (fun i => ⟨[(0, .v (.slice ad l.length c)), (1, .v (.func (.func 63) #[] #[])), (7, .v (.int .i64 l.length)), (8, .v (.int .i64 i))], [], 0, M, 19, ⟨fun _ => none, none, fun _ => none⟩⟩)
    (fun i => i ≤ l.length ∧ ∀ j, j < i → (!cellOK (gce l j)) = false) (fun i => l.length - i) 0 ⟨Nat.zero_le _, fun j hj => by simp at hj⟩ (Wk.mk' id (by repeat' constructor) (by repeat' constructor) (injOK_id _) rfl rfl rfl) ?_
  rintro i ⟨hi, hz⟩ m
  repeat (first | refine VIf.tt ?_ | refine VIf.ff ?_)
  refine VIf.mk (fun hlt => ?_) (fun hge => ?_)
  · have hlt := lt_of_dec hlt
    obtain ⟨ad', ead, _, hpi⟩ := hrd M (Mem.le_refl _) i hlt
    repeat (first | refine VIf.tt ?_ | refine VIf.ff ?_)
    refine VIdx.mk ad' i ead rfl hlt ?_
    repeat (first | refine VIf.tt ?_ | refine VIf.ff ?_)
    refine VReads.mk [.int .i64 (gce l i).lo, .int .i64 (gce l i).hi, .int .i64 (gce l i).dt, .bool (gce l i).vd] rfl hpi ?_
    repeat (first | refine VIf.tt ?_ | refine VIf.ff ?_)
    refine VFn.p (chValid1_fn (gce l i) M) ?_
    repeat (first | refine VIf.tt ?_ | refine VIf.ff ?_)
    refine VIf.mk (fun hc => ?_) (fun hc => ?_)
    · repeat (first | refine VIf.tt ?_ | refine VIf.ff ?_)
      refine VFact.mk ⟨i, rfl, ?_⟩ trivial
      have := any_getD cell0 (fun c => !cellOK c) l hlt hc
      simp [this]
    · repeat (first | refine VIf.tt ?_ | refine VIf.ff ?_)
      refine VArith.ok (by first | omega | (simp only; omega)) (by first | omega | (simp only; omega)) ?_
      refine ⟨i + 1, ⟨hlt, fun j hj => ?_⟩, (by first | omega | (simp only; omega)), (Wk.mk' id (by repeat' constructor) (by repeat' constructor) (injOK_id _) rfl rfl rfl)⟩
      by_cases e : j = i
      · subst e; exact hc
      · exact hz j (by omega)
  · have : i = l.length := by have := ge_of_dec hge; omega
    subst this
    repeat (first | refine VIf.tt ?_ | refine VIf.ff ?_)
    refine VFact.mk ⟨-1, rfl, ?_⟩ trivial
    have := any_none cell0 (fun c => !cellOK c) l hz
    simp [this]
theorem ContainsCe_fn (v : Value) (l : List CellS) (M : Mem) (hv : CelsV M v l) :
    V.Fn Tryz.prog 62 [v, .func (.func 63) #[] #[]] M fun rs _ => rs = [.bool (!l.all cellOK)] := by
  obtain ⟨ad, c, rfl⟩ := hv.shape
  refine Fn.of_vc cxOK Tryz.func62 rfl rfl rfl ?_
  repeat (first | refine VIf.tt ?_ | refine VIf.ff ?_)
  refine VFn.mk _ (IndexCe_fn _ l M hv) ?_
  rintro rs M1 hM1 ⟨k, rfl, hk⟩
  repeat (first | refine VIf.tt ?_ | refine VIf.ff ?_)
  refine VFact.mk (bool1 ?_) trivial
  rw [List.not_all_eq_any_not, ← hk]; simp
theorem beaconID_fn (b : BeaS) (M : Mem) : FnP Tryz.prog 67 [.agg #[.int .i64 b.id, .int .i64 b.x, .int .i64 b.y]] M [.int .i64 b.id] := by
  refine Fn.of_vc cxOK Tryz.func67 rfl rfl rfl ?_
  repeat (first | refine VIf.tt ?_ | refine VIf.ff ?_)
  exact VFact.mk ⟨rfl, rfl⟩ trivial
theorem lineID_fn (n : Int) (v : Value) (M : Mem) : FnP Tryz.prog 70 [.agg #[.int .i64 n, v]] M [.int .i64 n] := by
  refine Fn.of_vc cxOK Tryz.func70 rfl rfl rfl ?_
  repeat (first | refine VIf.tt ?_ | refine VIf.ff ?_)
  exact VFact.mk ⟨rfl, rfl⟩ trivial
theorem chValid2_fn (b : BeaS) (M : Mem) (h : i64r b.id ∧ i64r b.x ∧ i64r b.y) : V.Fn Tryz.prog 65 [.agg #[.int .i64 b.id, .int .i64 b.x, .int .i64 b.y]] M fun rs _ => rs = [.bool (beaOK b)] := by
  refine Fn.of_vc cxOK Tryz.func65 rfl rfl rfl ?_
  repeat (first | refine VIf.tt ?_ | refine VIf.ff ?_)
  refine VFn.p (isID_fn _ _) ?_
  repeat (first | refine VIf.tt ?_ | refine VIf.ff ?_)
  refine VIf.mk (fun h1 => ?_) (fun h1 => ?_)
  · repeat (first | refine VIf.tt ?_ | refine VIf.ff ?_)
    refine VFn.mk _ (chartPlace_fn (b.x, b.y) _ h.2.1 h.2.2) ?_
    rintro rs M1 hM1 rfl
    repeat (first | refine VIf.tt ?_ | refine VIf.ff ?_)
    refine VFact.mk ?_ trivial
    unfold beaOK; rw [h1]; rfl
  · repeat (first | refine VIf.tt ?_ | refine VIf.ff ?_)
    refine VFact.mk ?_ trivial
    unfold beaOK; rw [h1]; rfl
theorem isLine1_fn (p : Pt) (M : Mem) (h1 : i64r p.1) (h2 : i64r p.2) : V.Fn Tryz.prog 80 [ptv p] M fun rs _ => rs = [.bool (!placeB p)] := by
  refine Fn.of_vc cxOK Tryz.func80 rfl rfl rfl ?_
  repeat (first | refine VIf.tt ?_ | refine VIf.ff ?_)
  refine VFn.mk _ (chartPlace_fn p _ h1 h2) ?_
  rintro rs M1 hM1 rfl
  repeat (first | refine VIf.tt ?_ | refine VIf.ff ?_)
  exact VFact.mk rfl trivial
/-- As IndexP_fn: the predicate may make memory. -/
theorem IndexPm_fn (v : Value) (ps : List Pt) (fid : Nat) (g : Pt → Bool) (M : Mem) (hv : Pts M v ps) (hg : ∀ i, i < ps.length → ∀ M', V.Fn Tryz.prog fid [ptv (gp ps i)] M' fun rs _ => rs = [.bool (g (gp ps i))]) :
    V.Fn Tryz.prog 97 [v, .func (.func fid) #[] #[]] M fun rs _ => ∃ k : Int, rs = [.int .i64 k] ∧ (0 ≤ k ↔ ps.any g = true) := by
  obtain ⟨ad, c, rfl⟩ := hv.shape
  obtain ⟨_, hm, hrd⟩ := hv.cellsOf
  unfold maxLen at hm
  refine Fn.of_vc cxOK Tryz.func97 rfl rfl rfl ?_
  repeat (first | refine VIf.tt ?_ | refine VIf.ff ?_)
  refine VCode.loop cxOK (Nat × Mem) (fun s => ⟨[(0, .v (.slice ad ps.length c)), (1, .v (.func (.func fid) #[] #[])), (7, .v (.int .i64 ps.length)), (8, .v (.int .i64 s.1))], [], 0, s.2, 19, ⟨fun _ => none, none, fun _ => none⟩⟩)
    (fun s => M.le s.2 ∧ s.1 ≤ ps.length ∧ ∀ j, j < s.1 → g (gp ps j) = false) (fun s => ps.length - s.1) (0, M) ⟨Mem.le_refl _, Nat.zero_le _, fun j hj => by simp at hj⟩ (Wk.mk' id (by repeat' constructor) (by repeat' constructor) (injOK_id _) rfl rfl rfl) ?_
  rintro ⟨i, M1⟩ ⟨hM1, hi, hz⟩ m
  have hM1 : M.le M1 := hM1
  repeat (first | refine VIf.tt ?_ | refine VIf.ff ?_)
  refine VIf.mk (fun hlt => ?_) (fun hge => ?_)
  · have hlt := lt_of_dec hlt
    obtain ⟨ad', ead, hpi⟩ := hrd M1 hM1 i hlt
    repeat (first | refine VIf.tt ?_ | refine VIf.ff ?_)
    refine VIdx.mk ad' i ead rfl hlt ?_
    repeat (first | refine VIf.tt ?_ | refine VIf.ff ?_)
    refine VReads.mk [.int .i64 (gp ps i).1, .int .i64 (gp ps i).2] rfl hpi ?_
    repeat (first | refine VIf.tt ?_ | refine VIf.ff ?_)
    refine VFn.mk _ (hg i hlt M1) ?_
    rintro rs M2 hM2 rfl
    repeat (first | refine VIf.tt ?_ | refine VIf.ff ?_)
    refine VIf.mk (fun hc => ?_) (fun hc => ?_)
    · repeat (first | refine VIf.tt ?_ | refine VIf.ff ?_)
      refine VFact.mk ⟨i, rfl, ?_⟩ trivial
      have := any_getD (0, 0) g ps hlt hc
      simp [this]
    · repeat (first | refine VIf.tt ?_ | refine VIf.ff ?_)
      refine VArith.ok (by first | omega | (simp only; omega)) (by first | omega | (simp only; omega)) ?_
      refine ⟨(i + 1, M2), ⟨hM1.trans hM2, hlt, fun j hj => ?_⟩, (by first | omega | (simp only; omega)), (Wk.mk' id (by repeat' constructor) (by repeat' constructor) (injOK_id _) rfl rfl rfl)⟩
      by_cases e : j = i
      · subst e; exact hc
      · exact hz j (by simp only at hj ⊢; omega)
  · have : i = ps.length := by have := ge_of_dec hge; have hi : i ≤ ps.length := hi; omega
    subst this
    repeat (first | refine VIf.tt ?_ | refine VIf.ff ?_)
    refine VFact.mk ⟨-1, rfl, ?_⟩ trivial
    have := any_none (0, 0) g ps hz
    simp [this]
theorem ContainsPm_fn (v : Value) (ps : List Pt) (fid : Nat) (g : Pt → Bool) (M : Mem) (hv : Pts M v ps) (hg : ∀ i, i < ps.length → ∀ M', V.Fn Tryz.prog fid [ptv (gp ps i)] M' fun rs _ => rs = [.bool (g (gp ps i))]) :
    V.Fn Tryz.prog 79 [v, .func (.func fid) #[] #[]] M fun rs _ => rs = [.bool (ps.any g)] := by
  obtain ⟨ad, c, rfl⟩ := hv.shape
  refine Fn.of_vc cxOK Tryz.func79 rfl rfl rfl ?_
  repeat (first | refine VIf.tt ?_ | refine VIf.ff ?_)
  refine VFn.mk _ (IndexPm_fn _ ps fid g M hv hg) ?_
  rintro rs M1 hM1 ⟨k, rfl, hk⟩
  repeat (first | refine VIf.tt ?_ | refine VIf.ff ?_)
  refine VFact.mk (bool1 ?_) trivial
  rw [← hk]; simp
end Go.Proofs.YtegmjmdkhbibjaaGreat

/- The verification-condition framework, part V: calls that keep the plain slots; that hand back a slice, made immutable; a block of one's own that was made immutable and is written again. -/
namespace Go.V
open Go Go.RowKit
variable {P : Program}

/-- The plain slots stay, whatever a call does. -/
theorem VCall.pl {f : Nat} {args : List SV} {st : St} {K : SV → St → Prop} (pls : List (Nat × Value)) (hs : subSl st (plSl pls))
    (h : VCall P f args ⟨[], st.ow, st.nx, st.M, st.nt, st.G⟩ fun s st' => K s ⟨plSl pls, st'.ow, st'.nx, st'.M, st'.nt, st'.G⟩) : VCall P f args st K := by
  refine ⟨h.ent, fun n₀ w M₀ ρ W hS hsa hss => ?_⟩
  refine (h.run n₀ w M₀ ρ W (hS.same rfl rfl rfl rfl) hsa (fun d s hd => by cases hd)).mono ?_
  rintro e W' ⟨s, st', ρ', rfl, h1, h2, h3, h4, h5, h6⟩
  refine ⟨s, ⟨plSl pls, st'.ow, st'.nx, st'.M, st'.nt, st'.G⟩, ρ', rfl, h1, h2.same rfl rfl rfl rfl, fun d s' hd => ?_, h4, h5, h6⟩
  obtain ⟨x, rfl⟩ := plSl_mem (look_mem hd)
  exact ⟨trivial, _, subSl_mem hs (look_mem hd), rfl⟩
/-- What a call hands back, a slice of one's own, is made immutable. -/
theorem VCall.frzR {f : Nat} {args : List SV} {st : St} {K : SV → St → Prop}
    (h : VCall P f args st fun s st' => ∃ id E sz n xs, s = .row id ∧ st'.own id = some (.row E sz n xs) ∧ st'.sl = [] ∧ ∀ x M', st'.M.le M' → SlAt M' sz x n xs → K (.v x) ⟨[], (id, none) :: st'.ow, st'.nx, M', st'.nt, st'.G⟩) : VCall P f args st K := by
  refine ⟨h.ent, fun n₀ w M₀ ρ W hS hsa hss => ?_⟩
  refine (h.run n₀ w M₀ ρ W hS hsa hss).mono ?_
  rintro e W' ⟨s, st', ρ', rfl, h1, h2, h3, h4, h5, id, E, sz, n, xs, rfl, hid, hsl, h6⟩
  obtain ⟨M', l1, s1, hS1⟩ := h2.frzRow hid
  exact ⟨.v (slOf (ρ' id)), ⟨[], (id, none) :: st'.ow, st'.nx, M', st'.nt, st'.G⟩, ρ', rfl, trivial, hS1.same rfl rfl rfl rfl, fun d s' hd => (by cases hd), h4, h5, h6 _ M' l1 s1⟩
/-- A state, taken apart. -/
def St.dK (st : St) (k : List (Nat × SV) → List (Nat × Option OE) → Nat → Mem → Nat → Gh → Prop) : Prop := match st with
  | ⟨sl, ow, nx, M, nt, G⟩ => k sl ow nx M nt G
theorem dK_iff {st : St} {k : List (Nat × SV) → List (Nat × Option OE) → Nat → Mem → Nat → Gh → Prop} (h : st.dK k) : k st.sl st.ow st.nx st.M st.nt st.G := by cases st; exact h
/-- A block that a call has made is marked: it is the call's own. -/
theorem VCall.nw {f : Nat} {vs : List Value} {st : St} {K : SV → St → Prop} {M : Mem} {R : List Value → Mem → Prop} (hF : Fn P f vs M R) (hM : st.M = M)
    (hK : ∀ rs M', M.le M' → R rs M' → ∃ B o, M B = none ∧ M' B = some o ∧ st.dK fun sl ow nx _ nt G => K (retSV rs) ⟨sl, (nx, some (.nw B)) :: ow, nx + 1, M', nt, G⟩) : VCall P f (vs.map .v) st K := by
  subst hM
  refine ⟨hF.1, fun n₀ w M₀ ρ W hS hsa hss => ?_⟩
  have e : (vs.map SV.v).map (SV.den ρ) = vs := by rw [List.map_map]; exact (List.map_congr_left fun _ _ => rfl).trans (List.map_id vs)
  rw [e]
  refine (hF.2 W hS.mem).mono ?_
  rintro e W' ⟨rs, M', rfl, g2, g3, g4, g5, g6⟩
  obtain ⟨B, o, b1, b2, hk⟩ := hK rs M' g3 g6
  replace hk := dK_iff hk
  have h1 := hS.grow g2 g4 g5
  have hB : n₀ ≤ B := by
    refine Nat.le_trans hS.size (Nat.le_of_not_lt fun hlt => ?_)
    rw [g5 B hlt, b1] at b2; cases b2
  have h2 := h1.add (.nw B) (.bool true) (Below.refl _ _) trivial ⟨by rw [upd_same]; rfl, hB⟩ (fun b hb => by cases hb)
  refine ⟨retSV rs, _, upd ρ st.nx (.bool true), by rw [retSV_den], retSV_sc _ _, h2, fun d s hd => ?_, rfl, rfl, hk⟩
  have hs := hss d s hd
  exact ⟨SV.sc_mono (Nat.le_succ _) hs, s, hd, SV.den_agree (agree_upd ρ st.nx _) hs⟩
def Mem.wo (M : Mem) (B : Nat) : Mem := fun b => if b = B then none else M b
theorem Mem.wo_le {Ma M : Mem} {B : Nat} (h : Ma.le M) (hB : Ma B = none) : Ma.le (M.wo B) := fun b o hb => by
  unfold Mem.wo
  split
  · rename_i e; subst e; rw [hB] at hb; cases hb
  · exact h b o hb
/-- A marked block, known as immutable, is one's own again. -/
theorem SatH.thaw {n₀ : Nat} {w : World} {M₀ : Mem} {ρ : Env} {st : St} {W : World} (h : SatH n₀ w M₀ ρ st W) {g B : Nat} (hg : st.own g = some (.nw B)) {arr : Array Value} {E sz n c : Nat} (hB : st.M B = some (.cells arr E (0, 0)))
    (hf : st.G.f B = none) (hn : n ≤ c) (hc : c ≤ maxLen) (hs : arr.size = c * sz) (h1 : ∀ v ∈ arr.toList.take (n * sz), v.oneCell' = true) :
    SatH n₀ w M₀ (upd ρ st.nx (.slice (some ⟨B, 0, none⟩) n c)) ⟨st.sl, (st.nx, some (.row E sz n (arr.toList.take (n * sz)))) :: st.ow, st.nx + 1, st.M.wo B, st.nt, st.G⟩ W := by
  have hnB := (h.own g _ hg).2.2.2
  have hh := h.mem B _ hB
  have hown : ∀ j, St.own ⟨st.sl, (st.nx, some (.row E sz n (arr.toList.take (n * sz)))) :: st.ow, st.nx + 1, st.M.wo B, st.nt, st.G⟩ j = if j = st.nx then some (.row E sz n (arr.toList.take (n * sz))) else st.own j := fun j => by
    have := own_add st (.row E sz n (arr.toList.take (n * sz))) j
    exact this
  have old : ∀ i e b, st.own i = some e → ob (ρ i) = some b → b ≠ B := fun i e b hi hb e' => by
    subst e'
    have := h.msep i e b hi hb
    rw [this] at hB; cases hB
  refine ⟨h.below, h.size, ?_, ?_, ?_, ?_, ?_, ?_, ?_⟩
  · intro b o hb
    simp only [Mem.wo] at hb
    split at hb
    · cases hb
    · exact h.mem b o hb
  · intro i e hi
    rw [hown] at hi
    split at hi
    · rename_i e1
      cases hi
      subst e1
      refine ⟨Nat.lt_succ_self _, trivial, ⟨?_, ?_⟩, h1⟩
      · rw [List.length_take, Array.length_toList, hs]
        exact Nat.min_eq_left (Nat.mul_le_mul_right _ hn)
      · exact .inr ⟨B, c, arr, upd_same _ _ _, hnB, hh, hn, hc, hs, rfl⟩
    · obtain ⟨k1, k2, k3⟩ := h.own i e hi
      exact ⟨Nat.lt_succ_of_lt k1, e.sc_mono (Nat.le_succ _) k2, k3.keep (agree_upd ρ st.nx _) k1 k2 fun _ _ => rfl⟩
  · intro i j ei ej hi hj hij b hbi hbj
    rw [hown] at hi hj
    split at hi
    · rename_i e1
      subst e1
      rw [upd_same] at hbi
      cases hbi
      rw [if_neg (fun e => hij e.symm)] at hj
      rw [agree_upd ρ st.nx _ j (h.own j ej hj).1] at hbj
      exact old j ej B hj hbj rfl
    · rename_i e1
      rw [agree_upd ρ st.nx _ i (h.own i ei hi).1] at hbi
      split at hj
      · rename_i e2
        subst e2
        rw [upd_same] at hbj
        cases hbj
        exact old i ei B hi hbi rfl
      · rw [agree_upd ρ st.nx _ j (h.own j ej hj).1] at hbj
        exact h.sep i j ei ej hi hj hij b hbi hbj
  · intro i e b hi hb
    rw [hown] at hi
    split at hi
    · rename_i e1
      subst e1
      rw [upd_same] at hb
      cases hb
      simp [Mem.wo]
    · rw [agree_upd ρ st.nx _ i (h.own i e hi).1] at hb
      show (if b = B then none else st.M b) = none
      rw [if_neg (old i e b hi hb)]
      exact h.msep i e b hi hb
  · intro b o hb
    obtain ⟨k1, k2, k3⟩ := h.pin b o hb
    refine ⟨k1, k2, ?_⟩
    show (if b = B then none else st.M b) = none
    split
    · rfl
    · exact k3
  · intro b hb
    show (if b = B then none else st.M b) = M₀ b
    rw [if_neg (by omega)]
    exact h.mlow b hb
  · intro b o hb
    obtain ⟨k1, k2⟩ := h.fpin b o hb
    refine ⟨k1, fun i e hi hbi => ?_⟩
    rw [hown] at hi
    split at hi
    · rename_i e1
      subst e1
      rw [upd_same] at hbi
      cases hbi
      have hb' : st.G.f B = some o := hb
      rw [hf] at hb'; cases hb'
    · rw [agree_upd ρ st.nx _ i (h.own i e hi).1] at hbi
      exact k2 i e hi hbi
/-- A call by its contract; then a marked block is one's own again, and a variable's cells refer to it. -/
theorem VCall.thaw {f : Nat} {vs : List Value} {st : St} {K : SV → St → Prop} {M : Mem} {R : List Value → Mem → Prop} (hF : Fn P f vs M R) (hM : st.M = M) {g B : Nat} (hg : st.own g = some (.nw B)) {arr : Array Value} {E sz n c : Nat}
    (hB : M B = some (.cells arr E (0, 0))) (hf : st.G.f B = none) (hn : n ≤ c) (hc : c ≤ maxLen) (hs : arr.size = c * sz) {xs : List Value} (hx : arr.toList.take (n * sz) = xs) (h1 : ∀ v ∈ xs, v.oneCell' = true)
    {i bt : Nat} {cs : List SV} (cs' : List SV) (hi : st.own i = some (.box bt cs)) (hcs : cs'.map (SV.sub st.nx (.slice (some ⟨B, 0, none⟩) n c) B) = cs) (hcb : cs'.all (SVB (st.nx + 1)) = true)
    (hK : ∀ rs M', M.le M' → R rs M' → st.dK fun sl ow nx _ nt G => K (retSV rs) ⟨sl, (i, some (.box bt cs')) :: (nx, some (.row E sz n xs)) :: ow, nx + 1, M'.wo B, nt, G⟩) : VCall P f (vs.map .v) st K := by
  subst hM
  subst hx
  refine ⟨hF.1, fun n₀ w M₀ ρ W hS hsa hss => ?_⟩
  have e : (vs.map SV.v).map (SV.den ρ) = vs := by rw [List.map_map]; exact (List.map_congr_left fun _ _ => rfl).trans (List.map_id vs)
  rw [e]
  refine (hF.2 W hS.mem).mono ?_
  rintro e W' ⟨rs, M', rfl, g2, g3, g4, g5, g6⟩
  have hh := (hS.grow g2 g4 g5).thaw hg (g3 _ _ hB) hf hn hc hs h1
  have hin := (hS.own i _ hi).1
  have hi2 : St.own ⟨st.sl, (st.nx, some (.row E sz n (arr.toList.take (n * sz)))) :: st.ow, st.nx + 1, M'.wo B, st.nt, st.G⟩ i = some (.box bt cs) := by
    have := own_add st (.row E sz n (arr.toList.take (n * sz))) i
    rw [if_neg (by omega)] at this
    exact this.trans hi
  obtain ⟨_, _, B5, b1, b2, b3⟩ := hh.own i _ hi2
  have hcd : cs'.map (SV.den (upd ρ st.nx (.slice (some ⟨B, 0, none⟩) n c))) = cs.map (SV.den (upd ρ st.nx (.slice (some ⟨B, 0, none⟩) n c))) := by
    rw [← hcs, List.map_map]
    refine List.map_congr_left fun s _ => ?_
    have := SV.sub_den (ρ := upd ρ st.nx (.slice (some ⟨B, 0, none⟩) n c)) (id := st.nx) (x := .slice (some ⟨B, 0, none⟩) n c) (B := B) (by rw [upd_same]; rfl) (by rw [upd_same]; rfl) s
    exact this.symm
  have h3 := hh.set (W' := W') (e' := .box bt cs') hi2 ⟨rfl, rfl, rfl, Nat.le_refl _, fun _ _ _ => rfl⟩ (fun s hs => SVB_spec (List.all_eq_true.1 hcb s hs)) ⟨B5, b1, b2, by rw [b3, hcd]⟩
  refine ⟨retSV rs, _, _, by rw [retSV_den], retSV_sc _ _, h3, fun d s hd => ?_, rfl, rfl, dK_iff (hK rs M' g3 g6)⟩
  have hs := hss d s hd
  exact ⟨SV.sc_mono (Nat.le_succ _) hs, s, hd, SV.den_agree (agree_upd ρ st.nx _) hs⟩
end Go.V

/- Contracts of chart: lines. -/
namespace Go.Proofs.YtegmjmdkhbibjaaGreat
open Go Go.V Go.RowKit
theorem pathOK_id {l : LinS} (h : idOK l.id = false) : pathOK l = false := by unfold pathOK; rw [h]; rfl
theorem pathOK_len {l : LinS} (h : ¬ (2 ≤ l.ps.length ∧ l.ps.length ≤ 64)) : pathOK l = false := by unfold pathOK; rw [decide_eq_false h, Bool.and_false]; rfl
theorem pathOK_pl {l : LinS} (h : l.ps.all placeB = false) : pathOK l = false := by unfold pathOK; rw [h, Bool.and_false]; rfl
theorem comp_lt {ps : List Pt} : ∀ {k i : Nat}, i < k → keepB ps i = false → (comp ps k).length < k := by
  intro k i hik hi
  have h1 := comp_le ps (j := i + 1) (k := k) (by omega)
  have h2 := comp_len ps i
  rw [comp_succ, if_neg (by rw [hi]; exact Bool.false_ne_true)] at h1
  omega
theorem compact_len (ps : List Pt) : decide (((compactP ps).length : Int) = ps.length) = (List.range ps.length).all (keepB ps) := by
  unfold compactP
  by_cases h : (List.range ps.length).all (keepB ps) = true
  · rw [h, comp_all ps ps.length (Nat.le_refl _) (all_iff.1 h)]
    simp
  · have h : (List.range ps.length).all (keepB ps) = false := by simpa using h
    rw [h]
    have h' : ¬ ∀ i, i < ps.length → keepB ps i = true := fun hh => by rw [all_true hh] at h; cases h
    obtain ⟨i, hi⟩ := Classical.not_forall.1 h'
    obtain ⟨hi1, hi2⟩ := Classical.not_imp.1 hi
    have := comp_lt hi1 (by simpa using hi2)
    exact decide_eq_false (by omega)
set_option maxRecDepth 20000 in
set_option maxHeartbeats 2000000 in
theorem isLine_fn (l : LinS) (v : Value) (M : Mem) (hv : Pts M v l.ps) (h64 : i64P l.ps) : V.Fn Tryz.prog 69 [.agg #[.int .i64 l.id, v]] M fun rs _ => rs = [.bool (pathOK l)] := by
  obtain ⟨ad, c, rfl⟩ := hv.shape
  refine Fn.of_vc cxIOK Tryz.func69 rfl rfl rfl ?_
  repeat (first | refine VIf.tt ?_ | refine VIf.ff ?_)
  refine VOwn.frz ?_
  repeat (first | refine VIf.tt ?_ | refine VIf.ff ?_)
  refine VFn.p (isID_fn _ _) ?_
  repeat (first | refine VIf.tt ?_ | refine VIf.ff ?_)
  refine VIf.mk (fun h1 => ?_) (fun h1 => ?_)
  · repeat (first | refine VIf.tt ?_ | refine VIf.ff ?_)
    exact VFact.mk (by rw [pathOK_id (by simpa using h1)]) trivial
  repeat (first | refine VIf.tt ?_ | refine VIf.ff ?_)
  refine VIf.mk (fun h2 => ?_) (fun h2 => ?_)
  · have h2 := of_decide_eq_true h2
    repeat (first | refine VIf.tt ?_ | refine VIf.ff ?_)
    exact VFact.mk (by rw [pathOK_len (by omega)]) trivial
  repeat (first | refine VIf.tt ?_ | refine VIf.ff ?_)
  refine VIf.mk (fun h3 => ?_) (fun h3 => ?_)
  · have h3 := of_decide_eq_true h3
    repeat (first | refine VIf.tt ?_ | refine VIf.ff ?_)
    exact VFact.mk (by rw [pathOK_len (by omega)]) trivial
  have h2 := of_decide_eq_false h2
  have h3 := of_decide_eq_false h3
  have hl : 2 ≤ l.ps.length ∧ l.ps.length ≤ 64 := by omega
  have h1 : idOK l.id = true := by simpa using h1
  repeat (first | refine VIf.tt ?_ | refine VIf.ff ?_)
  refine VDraw.code ?_
  repeat (first | refine VIf.tt ?_ | refine VIf.ff ?_)
  refine VCode.draws cxIOK [1] (by kernel_rfl) (Mem × Bool) (fun s => ⟨[(2, .v (.bool s.2))], [], 1, s.1, 34, ⟨fun _ => none, none, fun _ => none⟩⟩) (fun s => s.2 = pathOK l) ?_ ?_
  · repeat (first | refine VIf.tt ?_ | refine VIf.ff ?_)
    refine VFzB.mk fun z1 B1 M1 hM1 hB1 => ?_
    have hB1 : M1 B1 = some (.cells #[.int .i64 l.id, .slice ad l.ps.length c] 73 (0, 0)) := hB1
    repeat (first | refine VIf.tt ?_ | refine VIf.ff ?_)
    refine VRead.mk (.slice ad l.ps.length c) (cellAt hB1 1 rfl) ?_
    repeat (first | refine VIf.tt ?_ | refine VIf.ff ?_)
    repeat (first | refine VIf.tt ?_ | refine VIf.ff ?_)
    refine VOwn.frz ?_
    repeat (first | refine VIf.tt ?_ | refine VIf.ff ?_)
    refine VFn.mk _ (ContainsPm_fn _ l.ps _ (fun p => !placeB p) M1 (hv.le hM1) fun i hi M' => isLine1_fn _ M' (h64 i hi).1 (h64 i hi).2) ?_
    rintro rs M2 hM2 rfl
    repeat (first | refine VIf.tt ?_ | refine VIf.ff ?_)
    refine VFact.mk hM2 ?_
    have eall : (l.ps.any fun p => !placeB p) = !l.ps.all placeB := by rw [List.not_all_eq_any_not]
    repeat (first | refine VIf.tt ?_ | refine VIf.ff ?_)
    refine VIf.mk (fun hc => ?_) (fun hc => ?_)
    rotate_left
    · repeat (first | refine VIf.tt ?_ | refine VIf.ff ?_)
      exact ⟨(M2, false), (pathOK_pl (by rw [eall] at hc; simpa using hc)).symm, (Wk.mk' id (by repeat' constructor) (by repeat' constructor) (injOK_id _) rfl rfl rfl)⟩
    have hall : l.ps.all placeB = true := by rw [eall] at hc; simpa using hc
    repeat (first | refine VIf.tt ?_ | refine VIf.ff ?_)
    refine VRead.mk (.slice ad l.ps.length c) (cellAt hB1 1 rfl) ?_
    repeat (first | refine VIf.tt ?_ | refine VIf.ff ?_)
    refine VRead.mk (.slice ad l.ps.length c) (cellAt hB1 1 rfl) ?_
    repeat (first | refine VIf.tt ?_ | refine VIf.ff ?_)
    repeat (first | refine VIf.tt ?_ | refine VIf.ff ?_)
    refine VOwn.own ?_
    refine VCall.ofRowM (Clone_row _ l.ps M2 (hv.le (hM1.trans hM2)) (by omega) (by omega)) rfl ?_
    rintro n1 xs1 M3 hM3 ⟨rfl, rfl⟩
    repeat (first | refine VIf.tt ?_ | refine VIf.ff ?_)
    refine VFact.mk (hM2.trans hM3) ?_
    repeat (first | refine VIf.tt ?_ | refine VIf.ff ?_)
    repeat (first | refine VIf.tt ?_ | refine VIf.ff ?_)
    refine VOwn.own ?_
    refine VCall.pl [(23, .bool true), (31, .int .i64 l.ps.length)] (by repeat' constructor) ?_
    refine VCall.wk (st1 := ⟨[], [(0, some (.row 46 2 l.ps.length (cellsP l.ps)))], 1, M3, 34, ⟨fun _ => none, none, fun _ => none⟩⟩) (args1 := [.row 0]) (fun _ => 1) rfl rfl trivial (by repeat' constructor) (injOK_one _ _ _) rfl rfl rfl ?_
    refine VCall.frzR ?_
    refine Compact_call (ps := l.ps) rfl rfl (by omega) ?_
    refine ⟨0, _, _, _, _, rfl, rfl, rfl, fun x M4 hM4 hx => ?_⟩
    obtain ⟨xa, xc, rfl, _⟩ := hx
    repeat (first | refine VIf.tt ?_ | refine VIf.ff ?_)
    refine VFact.mk (hM2.trans (hM3.trans hM4)) ?_
    repeat (first | refine VIf.tt ?_ | refine VIf.ff ?_)
    refine ⟨(M4, decide (((compactP l.ps).length : Int) = l.ps.length)), ?_, (Wk.mk' id (by repeat' constructor) (by repeat' constructor) (injOK_id _) rfl rfl rfl)⟩
    show decide (((compactP l.ps).length : Int) = l.ps.length) = pathOK l
    rw [compact_len]
    unfold pathOK
    rw [h1, decide_eq_true hl, hall]
    simp
  · rintro ⟨M2, b⟩ m rfl
    repeat (first | refine VIf.tt ?_ | refine VIf.ff ?_)
    exact VFact.mk rfl trivial
end Go.Proofs.YtegmjmdkhbibjaaGreat

/- Contracts of chart: names. -/
namespace Go.Proofs.YtegmjmdkhbibjaaGreat
open Go Go.V Go.RowKit
set_option maxRecDepth 20000 in
set_option maxHeartbeats 2000000 in
theorem namedBea_fn (v : Value) (l : List BeaS) (M : Mem) (hv : BeasV M v l) :
    V.Fn Tryz.prog 66 [v, .int .i64 100, .func (.func 65) #[] #[], .func (.func 67) #[] #[]] M fun rs _ => rs = [.bool (beasOK l)] := by
  obtain ⟨ad, c, rfl, hm, hrd⟩ := hv.get
  have hml : l.length ≤ maxLen := by
    obtain ⟨_, _, _, ⟨_, _, _, h1, h2, _⟩, _⟩ := hv
    exact Nat.le_trans h1 h2
  refine Fn.of_vc cxOK Tryz.func66 rfl rfl rfl ?_
  refine VMapMk.mk 3 4 (by kernel_rfl) (by kernel_rfl) (by kernel_rfl) (by kernel_rfl) fun B => ?_
  repeat (first | refine VIf.tt ?_ | refine VIf.ff ?_)
  refine VCode.loop cxOK (Nat × List Int × Mem) (fun (⟨i, ks, M1⟩ : Nat × List Int × Mem) => ⟨[(0, .v (.slice ad l.length c)), (1, .v (.int .i64 100)), (2, .v (.func (.func 65) #[] #[])), (3, .v (.func (.func 67) #[] #[])), (9, .v (.map (some B))), (13, .v (.slice ad l.length c)), (14, .v (.int .i64 l.length)), (15, .v (.int .i64 i))], [(0, some (.mp Tryz.prog 63 3 4 B ks))], 1, M1, 39, ⟨fun _ => none, none, fun _ => none⟩⟩)
    (fun (⟨i, ks, M1⟩ : Nat × List Int × Mem) => (M.le M1 ∧ i ≤ l.length ∧ ks.length = i) ∧ (∀ x, x ∈ ks ↔ ∃ j, j < i ∧ (gbe l j).id = x) ∧ ∀ j, j < i → beaOK (gbe l j) = true ∧ ∀ k, k < j → (gbe l k).id ≠ (gbe l j).id) (fun (⟨i, _, _⟩ : Nat × List Int × Mem) => l.length - i) (0, [], M)
    ⟨⟨Mem.le_refl _, Nat.zero_le _, rfl⟩, fun x => ⟨fun h => by simp at h, fun ⟨j, hj, _⟩ => absurd hj (Nat.not_lt_zero _)⟩, fun j hj => absurd hj (Nat.not_lt_zero _)⟩ (Wk.mk' id (by repeat' constructor) (by repeat' constructor) (injOK_id _) rfl rfl rfl) ?_
  rintro ⟨i, ks, M1⟩ ⟨⟨hM1, hi, hks⟩, hmem, hok⟩ m
  repeat (first | refine VIf.tt ?_ | refine VIf.ff ?_)
  refine VIf.mk (fun hlt => ?_) (fun hge => ?_)
  · have hlt : i < l.length := lt_of_dec hlt
    obtain ⟨ad', rfl, h64, hp⟩ := hrd M1 hM1 i hlt
    repeat (first | refine VIf.tt ?_ | refine VIf.ff ?_)
    refine VIdx.mk ad' i rfl rfl hlt ?_
    repeat (first | refine VIf.tt ?_ | refine VIf.ff ?_)
    refine VReads.mk [.int .i64 (gbe l i).id, .int .i64 (gbe l i).x, .int .i64 (gbe l i).y] rfl hp ?_
    repeat (first | refine VIf.tt ?_ | refine VIf.ff ?_)
    refine VFn.mk _ (chValid2_fn (gbe l i) M1 h64) ?_
    rintro rs M2 hM2 rfl
    repeat (first | refine VIf.tt ?_ | refine VIf.ff ?_)
    refine VIf.mk (fun hr => ?_) (fun hr => ?_)
    · repeat (first | refine VIf.tt ?_ | refine VIf.ff ?_)
      refine VFact.mk ?_ trivial
      have : beasOK l = false := by unfold beasOK; rw [nmdB_bad hlt (.inl (by simpa using hr))]; rfl
      rw [this]
    have hr : beaOK (gbe l i) = true := by simpa using hr
    repeat (first | refine VIf.tt ?_ | refine VIf.ff ?_)
    refine VFn.p (beaconID_fn (gbe l i) M2) ?_
    repeat (first | refine VIf.tt ?_ | refine VIf.ff ?_)
    refine VFact.mk ⟨⟨rfl, rfl, rfl⟩, h64.1⟩ ?_
    repeat (first | refine VIf.tt ?_ | refine VIf.ff ?_)
    refine VIf.mk (fun hd => ?_) (fun hd => ?_)
    · repeat (first | refine VIf.tt ?_ | refine VIf.ff ?_)
      refine VFact.mk ?_ trivial
      have : beasOK l = false := by unfold beasOK; rw [nmdB_bad hlt (.inr ((hmem _).1 (of_decide_eq_true hd)))]; rfl
      rw [this]
    have hd := of_decide_eq_false hd
    repeat (first | refine VIf.tt ?_ | refine VIf.ff ?_)
    refine VFn.p (beaconID_fn (gbe l i) M2) ?_
    repeat (first | refine VIf.tt ?_ | refine VIf.ff ?_)
    refine VFact.mk ⟨⟨rfl, rfl, rfl⟩, h64.1, by omega⟩ ?_
    repeat (first | refine VIf.tt ?_ | refine VIf.ff ?_)
    refine VArith.ok (by first | omega | (simp only; omega)) (by first | omega | (simp only; omega)) ?_
    refine ⟨(i + 1, (gbe l i).id :: ks, M2), ⟨⟨hM1.trans hM2, hlt, by simp [hks]⟩, fun x => ?_, fun j hj => ?_⟩, (by first | omega | (simp only; omega)), (Wk.mk' id (by repeat' constructor) (by repeat' constructor) (injOK_id _) rfl rfl rfl)⟩
    · rw [List.mem_cons, hmem]
      constructor
      · rintro (rfl | ⟨j, hj, e⟩)
        · exact ⟨i, Nat.lt_succ_self _, rfl⟩
        · exact ⟨j, by omega, e⟩
      · rintro ⟨j, hj, e⟩
        by_cases ej : j = i
        · subst ej; exact .inl e.symm
        · exact .inr ⟨j, by omega, e⟩
    · by_cases ej : j = i
      · subst ej
        exact ⟨hr, fun k hk e => hd ((hmem _).2 ⟨k, hk, e⟩)⟩
      · exact hok j (by omega)
  · have : i = l.length := by have := ge_of_dec hge; omega
    subst this
    repeat (first | refine VIf.tt ?_ | refine VIf.ff ?_)
    refine VFact.mk ?_ trivial
    have : beasOK l = decide (l.length ≤ 100) := by unfold beasOK; rw [nmdB_iff.2 hok, Bool.true_and]
    rw [this]
    exact bool1 (by simp only [decide_eq_true_eq]; omega)
set_option maxRecDepth 20000 in
set_option maxHeartbeats 2000000 in
theorem namedLin_fn (v : Value) (l : List LinS) (M : Mem) (hv : LinsV M v l) :
    V.Fn Tryz.prog 68 [v, .int .i64 50, .func (.func 69) #[] #[], .func (.func 70) #[] #[]] M fun rs _ => rs = [.bool (linsOK l)] := by
  obtain ⟨ad, c, rfl, hm, hrd⟩ := hv.get
  have hml : l.length ≤ maxLen := by
    obtain ⟨_, _, _, ⟨_, _, _, h1, h2, _⟩, _⟩ := hv
    exact Nat.le_trans h1 h2
  refine Fn.of_vc cxOK Tryz.func68 rfl rfl rfl ?_
  refine VMapMk.mk 3 4 (by kernel_rfl) (by kernel_rfl) (by kernel_rfl) (by kernel_rfl) fun B => ?_
  repeat (first | refine VIf.tt ?_ | refine VIf.ff ?_)
  refine VCode.loop cxOK (Nat × List Int × Mem) (fun (⟨i, ks, M1⟩ : Nat × List Int × Mem) => ⟨[(0, .v (.slice ad l.length c)), (1, .v (.int .i64 50)), (2, .v (.func (.func 69) #[] #[])), (3, .v (.func (.func 70) #[] #[])), (9, .v (.map (some B))), (13, .v (.slice ad l.length c)), (14, .v (.int .i64 l.length)), (15, .v (.int .i64 i))], [(0, some (.mp Tryz.prog 63 3 4 B ks))], 1, M1, 39, ⟨fun _ => none, none, fun _ => none⟩⟩)
    (fun (⟨i, ks, M1⟩ : Nat × List Int × Mem) => (M.le M1 ∧ i ≤ l.length ∧ ks.length = i) ∧ (∀ x, x ∈ ks ↔ ∃ j, j < i ∧ (gli l j).id = x) ∧ ∀ j, j < i → pathOK (gli l j) = true ∧ ∀ k, k < j → (gli l k).id ≠ (gli l j).id) (fun (⟨i, _, _⟩ : Nat × List Int × Mem) => l.length - i) (0, [], M)
    ⟨⟨Mem.le_refl _, Nat.zero_le _, rfl⟩, fun x => ⟨fun h => by simp at h, fun ⟨j, hj, _⟩ => absurd hj (Nat.not_lt_zero _)⟩, fun j hj => absurd hj (Nat.not_lt_zero _)⟩ (Wk.mk' id (by repeat' constructor) (by repeat' constructor) (injOK_id _) rfl rfl rfl) ?_
  rintro ⟨i, ks, M1⟩ ⟨⟨hM1, hi, hks⟩, hmem, hok⟩ m
  repeat (first | refine VIf.tt ?_ | refine VIf.ff ?_)
  refine VIf.mk (fun hlt => ?_) (fun hge => ?_)
  · have hlt : i < l.length := lt_of_dec hlt
    obtain ⟨ad', w, rfl, h64, hpt, hp64, hp⟩ := hrd M1 hM1 i hlt
    obtain ⟨wa, wc, rfl⟩ := hpt.shape
    repeat (first | refine VIf.tt ?_ | refine VIf.ff ?_)
    refine VIdx.mk ad' i rfl rfl hlt ?_
    repeat (first | refine VIf.tt ?_ | refine VIf.ff ?_)
    refine VReads.mk [.int .i64 (gli l i).id, .slice wa (gli l i).ps.length wc] rfl hp ?_
    repeat (first | refine VIf.tt ?_ | refine VIf.ff ?_)
    refine VFn.mk _ (isLine_fn (gli l i) _ M1 hpt hp64) ?_
    rintro rs M2 hM2 rfl
    repeat (first | refine VIf.tt ?_ | refine VIf.ff ?_)
    refine VIf.mk (fun hr => ?_) (fun hr => ?_)
    · repeat (first | refine VIf.tt ?_ | refine VIf.ff ?_)
      refine VFact.mk ?_ trivial
      have : linsOK l = false := by unfold linsOK; rw [nmdB_bad hlt (.inl (by simpa using hr))]; rfl
      rw [this]
    have hr : pathOK (gli l i) = true := by simpa using hr
    repeat (first | refine VIf.tt ?_ | refine VIf.ff ?_)
    refine VFn.p (lineID_fn (gli l i).id _ M2) ?_
    repeat (first | refine VIf.tt ?_ | refine VIf.ff ?_)
    refine VFact.mk ⟨⟨rfl, rfl, rfl⟩, h64⟩ ?_
    repeat (first | refine VIf.tt ?_ | refine VIf.ff ?_)
    refine VIf.mk (fun hd => ?_) (fun hd => ?_)
    · repeat (first | refine VIf.tt ?_ | refine VIf.ff ?_)
      refine VFact.mk ?_ trivial
      have : linsOK l = false := by unfold linsOK; rw [nmdB_bad hlt (.inr ((hmem _).1 (of_decide_eq_true hd)))]; rfl
      rw [this]
    have hd := of_decide_eq_false hd
    repeat (first | refine VIf.tt ?_ | refine VIf.ff ?_)
    refine VFn.p (lineID_fn (gli l i).id _ M2) ?_
    repeat (first | refine VIf.tt ?_ | refine VIf.ff ?_)
    refine VFact.mk ⟨⟨rfl, rfl, rfl⟩, h64, by omega⟩ ?_
    repeat (first | refine VIf.tt ?_ | refine VIf.ff ?_)
    refine VArith.ok (by first | omega | (simp only; omega)) (by first | omega | (simp only; omega)) ?_
    refine ⟨(i + 1, (gli l i).id :: ks, M2), ⟨⟨hM1.trans hM2, hlt, by simp [hks]⟩, fun x => ?_, fun j hj => ?_⟩, (by first | omega | (simp only; omega)), (Wk.mk' id (by repeat' constructor) (by repeat' constructor) (injOK_id _) rfl rfl rfl)⟩
    · rw [List.mem_cons, hmem]
      constructor
      · rintro (rfl | ⟨j, hj, e⟩)
        · exact ⟨i, Nat.lt_succ_self _, rfl⟩
        · exact ⟨j, by omega, e⟩
      · rintro ⟨j, hj, e⟩
        by_cases ej : j = i
        · subst ej; exact .inl e.symm
        · exact .inr ⟨j, by omega, e⟩
    · by_cases ej : j = i
      · subst ej
        exact ⟨hr, fun k hk e => hd ((hmem _).2 ⟨k, hk, e⟩)⟩
      · exact hok j (by omega)
  · have : i = l.length := by have := ge_of_dec hge; omega
    subst this
    repeat (first | refine VIf.tt ?_ | refine VIf.ff ?_)
    refine VFact.mk ?_ trivial
    have : linsOK l = decide (l.length ≤ 50) := by unfold linsOK; rw [nmdB_iff.2 hok, Bool.true_and]
    rw [this]
    exact bool1 (by simp only [decide_eq_true_eq]; omega)
end Go.Proofs.YtegmjmdkhbibjaaGreat

/- Contracts of chart: Valid. -/
namespace Go.Proofs.YtegmjmdkhbibjaaGreat
open Go Go.V Go.RowKit
theorem idOK_iff {n : Int} : idOK n = true ↔ 1 ≤ n ∧ n ≤ 1000000 := by unfold idOK; exact decide_eq_true_iff
theorem mulb {a b : Int} (A B : Int) (ha : 0 ≤ a ∧ a ≤ A) (hb : 0 ≤ b ∧ b ≤ B) : 0 ≤ a * b ∧ a * b ≤ A * B :=
  ⟨Int.mul_nonneg ha.1 hb.1, Int.mul_le_mul ha.2 hb.2 hb.1 (by omega)⟩
set_option maxRecDepth 20000 in
set_option maxHeartbeats 2000000 in
theorem chValid_fn (c : ChartS) (a b d : Value) (M : Mem) (h : Cha M c a b d) : V.Fn Tryz.prog 49 [chV c a b d] M fun rs _ => rs = [.bool (validC c)] := by
  obtain ⟨⟨ad, ka, rfl⟩, ⟨bd, kb, rfl⟩, dd, kd, rfl⟩ := h.shape
  obtain ⟨r1, r2, r3, r4, r5, r6⟩ := h.r
  unfold i64r at r1 r2 r3 r4 r5 r6
  have hcl : c.cs.length ≤ 9223372036854775807 := by obtain ⟨_, _, _, q, _⟩ := h.cs.get; exact q
  refine Fn.of_vc cxOK Tryz.func49 rfl rfl rfl ?_
  repeat (first | refine VIf.tt ?_ | refine VIf.ff ?_)
  refine VFn.p (isID_fn _ _) ?_
  repeat (first | refine VIf.tt ?_ | refine VIf.ff ?_)
  refine VIf.mk (fun e => ?_) (fun e => ?_)
  · have e : ¬ (1 ≤ c.ver ∧ c.ver ≤ 1000000) := fun h => by rw [idOK_iff.2 h] at e; cases e
    repeat (first | refine VIf.tt ?_ | refine VIf.ff ?_)
    exact VFact.mk (by rw [validC_not (fun h => e h.1.1)]) trivial
  have e0 := idOK_iff.1 ((Bool.not_eq_false' _).mp e)
  clear e
  repeat (first | refine VIf.tt ?_ | refine VIf.ff ?_)
  refine VIf.mk (fun e1 => ?_) (fun e1 => ?_)
  · have e := of_decide_eq_true e1
    repeat (first | refine VIf.tt ?_ | refine VIf.ff ?_)
    exact VFact.mk (by rw [validC_not (fun h => by unfold frameC at h; omega)]) trivial
  have e1 := of_decide_eq_false e1
  repeat (first | refine VIf.tt ?_ | refine VIf.ff ?_)
  refine VIf.mk (fun e2 => ?_) (fun e2 => ?_)
  · have e := of_decide_eq_true e2
    repeat (first | refine VIf.tt ?_ | refine VIf.ff ?_)
    exact VFact.mk (by rw [validC_not (fun h => by unfold frameC at h; omega)]) trivial
  have e2 := of_decide_eq_false e2
  repeat (first | refine VIf.tt ?_ | refine VIf.ff ?_)
  refine VIf.mk (fun e3 => ?_) (fun e3 => ?_)
  · have e := of_decide_eq_true e3
    repeat (first | refine VIf.tt ?_ | refine VIf.ff ?_)
    exact VFact.mk (by rw [validC_not (fun h => by unfold frameC at h; omega)]) trivial
  have e3 := of_decide_eq_false e3
  repeat (first | refine VIf.tt ?_ | refine VIf.ff ?_)
  refine VIf.mk (fun e4 => ?_) (fun e4 => ?_)
  · have e := of_decide_eq_true e4
    repeat (first | refine VIf.tt ?_ | refine VIf.ff ?_)
    exact VFact.mk (by rw [validC_not (fun h => by unfold frameC at h; omega)]) trivial
  have e4 := of_decide_eq_false e4
  have hwh := mulb (a := c.w) (b := c.h) 4000 4000 (by omega) (by omega)
  repeat (first | refine VIf.tt ?_ | refine VIf.ff ?_)
  refine VArith.ok (by first | omega | (simp only; omega)) (by first | omega | (simp only; omega)) ?_
  repeat (first | refine VIf.tt ?_ | refine VIf.ff ?_)
  refine VIf.mk (fun e5 => ?_) (fun e5 => ?_)
  · have e : c.w * c.h ≠ c.cs.length := fun e => by simp [e] at e5
    repeat (first | refine VIf.tt ?_ | refine VIf.ff ?_)
    exact VFact.mk (by rw [validC_not (fun h => by unfold frameC at h; omega)]) trivial
  have e5 : c.w * c.h = c.cs.length := by simpa using e5
  repeat (first | refine VIf.tt ?_ | refine VIf.ff ?_)
  refine VIf.mk (fun e6 => ?_) (fun e6 => ?_)
  · have e := of_decide_eq_true e6
    repeat (first | refine VIf.tt ?_ | refine VIf.ff ?_)
    exact VFact.mk (by rw [validC_not (fun h => by unfold frameC at h; omega)]) trivial
  have e6 := of_decide_eq_false e6
  repeat (first | refine VIf.tt ?_ | refine VIf.ff ?_)
  refine VIf.mk (fun e7 => ?_) (fun e7 => ?_)
  · have e := of_decide_eq_true e7
    repeat (first | refine VIf.tt ?_ | refine VIf.ff ?_)
    exact VFact.mk (by rw [validC_not (fun h => by unfold frameC at h; omega)]) trivial
  have e7 := of_decide_eq_false e7
  repeat (first | refine VIf.tt ?_ | refine VIf.ff ?_)
  refine VIf.mk (fun e8 => ?_) (fun e8 => ?_)
  · have e := of_decide_eq_true e8
    repeat (first | refine VIf.tt ?_ | refine VIf.ff ?_)
    exact VFact.mk (by rw [validC_not (fun h => by unfold frameC at h; omega)]) trivial
  have e8 := of_decide_eq_false e8
  repeat (first | refine VIf.tt ?_ | refine VIf.ff ?_)
  refine VFn.mk _ (chartPlace_fn (c.x, c.y) _ h.r.2.1 h.r.2.2.1) ?_
  rintro rs M1 hM1 rfl
  repeat (first | refine VIf.tt ?_ | refine VIf.ff ?_)
  refine VIf.mk (fun e9 => ?_) (fun e9 => ?_)
  · repeat (first | refine VIf.tt ?_ | refine VIf.ff ?_)
    exact VFact.mk (by rw [validC_not (fun h => by rw [h.2.1] at e9; cases e9)]) trivial
  have e9 : placeB (c.x, c.y) = true := (Bool.not_eq_false' _).mp e9
  have hxy := e9
  simp only [placeB, Bool.and_eq_true] at hxy
  have b1 := isCb_bd hxy.1
  have b2 := isCb_bd hxy.2
  have hws := mulb (a := c.w) (b := c.sz) 4000 10000 (by omega) (by omega)
  have hhs := mulb (a := c.h) (b := c.sz) 4000 10000 (by omega) (by omega)
  repeat (first | refine VIf.tt ?_ | refine VIf.ff ?_)
  refine VArith.ok (by first | omega | (simp only; omega)) (by first | omega | (simp only; omega)) ?_
  repeat (first | refine VIf.tt ?_ | refine VIf.ff ?_)
  refine VArith.ok (by first | omega | (simp only; omega)) (by first | omega | (simp only; omega)) ?_
  repeat (first | refine VIf.tt ?_ | refine VIf.ff ?_)
  refine VArith.ok (by first | omega | (simp only; omega)) (by first | omega | (simp only; omega)) ?_
  repeat (first | refine VIf.tt ?_ | refine VIf.ff ?_)
  refine VArith.ok (by first | omega | (simp only; omega)) (by first | omega | (simp only; omega)) ?_
  repeat (first | refine VIf.tt ?_ | refine VIf.ff ?_)
  refine VArith.ok (by first | omega | (simp only; omega)) (by first | omega | (simp only; omega)) ?_
  repeat (first | refine VIf.tt ?_ | refine VIf.ff ?_)
  refine VArith.ok (by first | omega | (simp only; omega)) (by first | omega | (simp only; omega)) ?_
  repeat (first | refine VIf.tt ?_ | refine VIf.ff ?_)
  refine VFn.mk _ (chartPlace_fn (c.x + c.w * c.sz - 1, c.y + c.h * c.sz - 1) _ ⟨by simp only; omega, by simp only; omega⟩ ⟨by simp only; omega, by simp only; omega⟩) ?_
  rintro rs M2 hM2 rfl
  repeat (first | refine VIf.tt ?_ | refine VIf.ff ?_)
  refine VIf.mk (fun e10 => ?_) (fun e10 => ?_)
  · repeat (first | refine VIf.tt ?_ | refine VIf.ff ?_)
    exact VFact.mk (by rw [validC_not (fun h => by rw [h.2.2] at e10; cases e10)]) trivial
  have e10 : placeB (c.x + c.w * c.sz - 1, c.y + c.h * c.sz - 1) = true := (Bool.not_eq_false' _).mp e10
  have hF : frameC c := ⟨by omega, e9, e10⟩
  have hE : validC c = (c.cs.all cellOK && beasOK c.bs && linsOK c.ls) := by unfold validC; rw [decide_eq_true hF, Bool.true_and]
  rw [hE]
  have m2 := hM1.trans hM2
  repeat (first | refine VIf.tt ?_ | refine VIf.ff ?_)
  refine VFn.mk _ (ContainsCe_fn _ c.cs M2 (h.cs.le m2)) ?_
  rintro rs M3 hM3 rfl
  repeat (first | refine VIf.tt ?_ | refine VIf.ff ?_)
  refine VIf.mk (fun e11 => ?_) (fun e11 => ?_)
  · have e11 : c.cs.all cellOK = false := (Bool.not_eq_true' _).mp e11
    repeat (first | refine VIf.tt ?_ | refine VIf.ff ?_)
    exact VFact.mk (by rw [e11]; rfl) trivial
  have e11 : c.cs.all cellOK = true := (Bool.not_eq_false' _).mp e11
  rw [e11, Bool.true_and]
  repeat (first | refine VIf.tt ?_ | refine VIf.ff ?_)
  refine VFn.mk _ (namedBea_fn _ c.bs M3 (h.bs.le (m2.trans hM3))) ?_
  rintro rs M4 hM4 rfl
  repeat (first | refine VIf.tt ?_ | refine VIf.ff ?_)
  refine VIf.mk (fun e12 => ?_) (fun e12 => ?_)
  · rw [e12, Bool.true_and]
    repeat (first | refine VIf.tt ?_ | refine VIf.ff ?_)
    refine VFn.mk _ (namedLin_fn _ c.ls M4 (h.ls.le ((m2.trans hM3).trans hM4))) ?_
    rintro rs M5 hM5 rfl
    repeat (first | refine VIf.tt ?_ | refine VIf.ff ?_)
    exact VFact.mk rfl trivial
  · rw [e12]
    repeat (first | refine VIf.tt ?_ | refine VIf.ff ?_)
    exact VFact.mk rfl trivial
end Go.Proofs.YtegmjmdkhbibjaaGreat

/- The plain law of charts: the cells under a rectangle, row by row. -/
namespace Go.Proofs.YtegmjmdkhbibjaaGreat
open Go
def rgI (a b : Int) : List Int := (List.range (b + 1 - a).toNat).map fun k : Nat => a + (k : Int)
theorem rgI_mem {a b x : Int} : x ∈ rgI a b ↔ a ≤ x ∧ x ≤ b := by
  unfold rgI
  simp only [List.mem_map, List.mem_range]
  constructor
  · rintro ⟨k, hk, rfl⟩; omega
  · intro h; exact ⟨(x - a).toNat, by omega, by omega⟩
theorem rgI_nil {a b : Int} (h : b < a) : rgI a b = [] := by
  unfold rgI
  rw [show (b + 1 - a).toNat = 0 by omega]; rfl
theorem rgI_cons {a b : Int} (h : a ≤ b) : rgI a b = a :: rgI (a + 1) b := by
  unfold rgI
  rw [show (b + 1 - a).toNat = (b + 1 - (a + 1)).toNat + 1 by omega, List.range_succ_eq_map, List.map_cons, List.map_map]
  congr 1
  · omega
  · apply List.map_congr_left
    intro k _
    simp only [Function.comp]; omega
theorem rgI_lt (a b : Int) : (rgI a b).Pairwise (· < ·) := by
  unfold rgI
  refine List.pairwise_map.2 ((List.pairwise_lt_range).imp fun {i j} h => ?_)
  omega
theorem sorted_ext {l r : List Int} (hl : l.Pairwise (· < ·)) (hr : r.Pairwise (· < ·)) (h : ∀ x, x ∈ l ↔ x ∈ r) : l = r := by
  have nl : l.Nodup := hl.imp fun h => by omega
  have nr : r.Nodup := hr.imp fun h => by omega
  refine List.Perm.eq_of_pairwise (le := fun a b => a < b) (fun a b _ _ h1 h2 => by omega) hl hr ((List.perm_ext_iff_of_nodup nl nr).2 h)
/-- A row's cells; the rows from one to another. -/
def rowC (w x1 x2 y : Int) : List Int := (rgI x1 x2).map fun x => y * w + x
def rowsC (w x1 x2 y1 y2 : Int) : List Int := (rgI y1 y2).flatMap fun y => rowC w x1 x2 y
theorem rowC_cons {w x1 x2 y : Int} (h : x1 ≤ x2) : rowC w x1 x2 y = (y * w + x1) :: rowC w (x1 + 1) x2 y := by unfold rowC; rw [rgI_cons h]; rfl
theorem rowC_nil {w x1 x2 y : Int} (h : x2 < x1) : rowC w x1 x2 y = [] := by unfold rowC; rw [rgI_nil h]; rfl
theorem rowsC_cons {w x1 x2 y1 y2 : Int} (h : y1 ≤ y2) : rowsC w x1 x2 y1 y2 = rowC w x1 x2 y1 ++ rowsC w x1 x2 (y1 + 1) y2 := by unfold rowsC; rw [rgI_cons h]; rfl
theorem rowsC_nil {w x1 x2 y1 y2 : Int} (h : y2 < y1) : rowsC w x1 x2 y1 y2 = [] := by unfold rowsC; rw [rgI_nil h]; rfl
theorem rowsC_mem {w x1 x2 y1 y2 i : Int} : i ∈ rowsC w x1 x2 y1 y2 ↔ ∃ y x, (y1 ≤ y ∧ y ≤ y2) ∧ (x1 ≤ x ∧ x ≤ x2) ∧ i = y * w + x := by
  unfold rowsC rowC
  simp only [List.mem_flatMap, List.mem_map, rgI_mem]
  constructor
  · rintro ⟨y, hy, x, hx, rfl⟩; exact ⟨y, x, hy, hx, rfl⟩
  · rintro ⟨y, x, hy, hx, rfl⟩; exact ⟨y, hy, x, hx, rfl⟩
theorem rowsC_lt {w x1 x2 y1 y2 : Int} (h1 : 0 ≤ x1) (h2 : x2 ≤ w - 1) (hw : 0 ≤ w) : (rowsC w x1 x2 y1 y2).Pairwise (· < ·) := by
  unfold rowsC
  rw [List.pairwise_flatMap]
  refine ⟨fun y _ => ?_, (rgI_lt y1 y2).imp fun {y y'} hy i hi j hj => ?_⟩
  · unfold rowC
    exact List.pairwise_map.2 ((rgI_lt x1 x2).imp fun {i j} h => by omega)
  · unfold rowC at hi hj
    simp only [List.mem_map, rgI_mem] at hi hj
    obtain ⟨x, hx, rfl⟩ := hi
    obtain ⟨x', hx', rfl⟩ := hj
    have := Int.mul_le_mul_of_nonneg_right (show y + 1 ≤ y' by omega) hw
    rw [Int.add_mul] at this
    omega
theorem colC_le {fr sz p x : Int} (hs : 1 ≤ sz) (hx : 0 ≤ x) : (fr + x * sz ≤ p ↔ x ≤ colC fr sz p) ∧ (p ≤ fr + x * sz + sz - 1 ↔ colC fr sz p ≤ x) := by
  have h0 := Int.mul_nonneg hx (show 0 ≤ sz by omega)
  unfold colC
  split
  · omega
  · rename_i h
    rw [Int.tdiv_eq_ediv_of_nonneg (by omega)]
    have a1 := Int.ediv_mul_le (p - fr) (show sz ≠ 0 by omega)
    have a2 := Int.lt_ediv_add_one_mul_self (p - fr) (show 0 < sz by omega)
    generalize (p - fr) / sz = q at *
    rw [Int.add_mul] at a2
    by_cases hq : x ≤ q
    · have b1 := Int.mul_le_mul_of_nonneg_right hq (show 0 ≤ sz by omega)
      refine ⟨⟨fun _ => hq, fun _ => by omega⟩, ⟨fun hp => ?_, fun hp => ?_⟩⟩
      · refine Int.not_lt.1 fun hlt => ?_
        have b2 := Int.mul_le_mul_of_nonneg_right (show x + 1 ≤ q by omega) (show 0 ≤ sz by omega)
        rw [Int.add_mul] at b2
        omega
      · have : x = q := by omega
        subst this; omega
    · have b1 := Int.mul_le_mul_of_nonneg_right (show q + 1 ≤ x by omega) (show 0 ≤ sz by omega)
      rw [Int.add_mul] at b1
      omega
theorem decode {w y x : Int} (hy : 0 ≤ y) (hx : 0 ≤ x) (hw : x < w) : (y * w + x).tdiv w = y ∧ (y * w + x).tmod w = x := by
  have h0 := Int.mul_nonneg hy (show 0 ≤ w by omega)
  rw [Int.tdiv_eq_ediv_of_nonneg (by omega), Int.tmod_eq_emod_of_nonneg (by omega), Int.add_comm, Int.add_mul_ediv_right _ _ (by omega), Int.add_mul_emod_self_right, Int.ediv_eq_zero_of_lt hx hw, Int.emod_eq_of_lt hx hw]
  omega
theorem encode {w i : Int} (hi : 0 ≤ i) (hw : 0 < w) : 0 ≤ i.tdiv w ∧ 0 ≤ i.tmod w ∧ i.tmod w < w ∧ i = i.tdiv w * w + i.tmod w := by
  rw [Int.tdiv_eq_ediv_of_nonneg hi, Int.tmod_eq_emod_of_nonneg hi]
  have h1 := Int.emod_add_mul_ediv i w
  rw [Int.mul_comm] at h1
  exact ⟨Int.ediv_nonneg hi (by omega), Int.emod_nonneg _ (by omega), Int.emod_lt_of_pos _ hw, by omega⟩
/-- The rectangle's columns and rows. -/
def xLo (c : ChartS) (lo : Pt) : Int := max 0 (colC c.x c.sz lo.1)
def xHi (c : ChartS) (hi : Pt) : Int := min (c.w - 1) (colC c.x c.sz hi.1)
def yLo (c : ChartS) (lo : Pt) : Int := max 0 (colC c.y c.sz lo.2)
def yHi (c : ChartS) (hi : Pt) : Int := min (c.h - 1) (colC c.y c.sz hi.2)
theorem underC_mem {c : ChartS} {lo hi : Pt} {i : Int} : i ∈ underC c lo hi ↔ (0 ≤ i ∧ i < c.cs.length) ∧ meetsP lo hi (bLo c i) (bHi c i) = true := by
  unfold underC unC
  simp only [List.mem_map, List.mem_filter, List.mem_range]
  constructor
  · rintro ⟨k, ⟨hk, hm⟩, rfl⟩; exact ⟨by omega, hm⟩
  · rintro ⟨h, hm⟩
    exact ⟨i.toNat, ⟨by omega, by rw [Int.toNat_of_nonneg h.1]; exact hm⟩, by omega⟩
theorem unC_lt (c : ChartS) (lo hi : Pt) (k : Nat) : (unC c lo hi k).Pairwise (· < ·) := by
  unfold unC
  exact List.pairwise_map.2 ((List.pairwise_lt_range.filter _).imp fun {i j} h => by omega)
theorem bLo_in {c : ChartS} {y x : Int} (hy : 0 ≤ y) (hx : 0 ≤ x) (hw : x < c.w) : bLo c (y * c.w + x) = (c.x + x * c.sz, c.y + y * c.sz) := by
  obtain ⟨h1, h2⟩ := decode hy hx hw
  unfold bLo; rw [h1, h2]
theorem rows_under {c : ChartS} (h : frameC c) (lo hi : Pt) : rowsC c.w (xLo c lo) (xHi c hi) (yLo c lo) (yHi c hi) = underC c lo hi := by
  unfold frameC at h
  refine sorted_ext (rowsC_lt (by unfold xLo; omega) (by unfold xHi; omega) (by omega)) (unC_lt _ _ _ _) fun i => ?_
  rw [underC_mem, rowsC_mem]
  constructor
  · rintro ⟨y, x, ⟨a1, a2⟩, ⟨a3, a4⟩, rfl⟩
    unfold yLo at a1; unfold yHi at a2; unfold xLo at a3; unfold xHi at a4
    have hx : 0 ≤ x := by omega
    have hy : 0 ≤ y := by omega
    have m1 := Int.mul_nonneg hy (show 0 ≤ c.w by omega)
    have m2 := Int.mul_le_mul_of_nonneg_right (show y + 1 ≤ c.h by omega) (show 0 ≤ c.w by omega)
    rw [Int.add_mul, Int.mul_comm c.h] at m2
    have e := bLo_in hy hx (show x < c.w by omega)
    obtain ⟨b1, b2⟩ := colC_le (fr := c.x) (p := lo.1) (show 1 ≤ c.sz by omega) hx
    obtain ⟨b3, b4⟩ := colC_le (fr := c.x) (p := hi.1) (show 1 ≤ c.sz by omega) hx
    obtain ⟨b5, b6⟩ := colC_le (fr := c.y) (p := lo.2) (show 1 ≤ c.sz by omega) hy
    obtain ⟨b7, b8⟩ := colC_le (fr := c.y) (p := hi.2) (show 1 ≤ c.sz by omega) hy
    refine ⟨by omega, ?_⟩
    unfold meetsP bHi
    rw [e]
    simp only [Bool.and_eq_true, decide_eq_true_eq]
    exact ⟨⟨⟨b2.2 (by omega), b3.2 (by omega)⟩, b6.2 (by omega)⟩, b7.2 (by omega)⟩
  · rintro ⟨⟨i0, i1⟩, hm⟩
    obtain ⟨q1, q2, q3, q4⟩ := encode i0 (show 0 < c.w by omega)
    have e := bLo_in q1 q2 q3
    rw [← q4] at e
    unfold meetsP bHi at hm
    rw [e] at hm
    simp only [Bool.and_eq_true, decide_eq_true_eq] at hm
    generalize i.tdiv c.w = y at *
    generalize i.tmod c.w = x at *
    obtain ⟨b1, b2⟩ := colC_le (fr := c.x) (p := lo.1) (show 1 ≤ c.sz by omega) q2
    obtain ⟨b3, b4⟩ := colC_le (fr := c.x) (p := hi.1) (show 1 ≤ c.sz by omega) q2
    obtain ⟨b5, b6⟩ := colC_le (fr := c.y) (p := lo.2) (show 1 ≤ c.sz by omega) q1
    obtain ⟨b7, b8⟩ := colC_le (fr := c.y) (p := hi.2) (show 1 ≤ c.sz by omega) q1
    have c1 := b2.1 hm.1.1.1
    have c2 := b3.1 hm.1.1.2
    have c3 := b6.1 hm.1.2
    have c4 := b7.1 hm.2
    have hyh : y ≤ c.h - 1 := by
      refine Int.not_lt.1 fun hlt => ?_
      have := Int.mul_le_mul_of_nonneg_right (show c.h ≤ y by omega) (show 0 ≤ c.w by omega)
      rw [Int.mul_comm c.h] at this
      omega
    refine ⟨y, x, ⟨by unfold yLo; omega, by unfold yHi; omega⟩, ⟨by unfold xLo; omega, by unfold xHi; omega⟩, q4⟩
end Go.Proofs.YtegmjmdkhbibjaaGreat

/- Contracts of chart: the cells under a rectangle. -/
namespace Go.Proofs.YtegmjmdkhbibjaaGreat
open Go Go.V Go.RowKit
theorem column_fn (fr sz x : Int) (M : Mem) (h1 : -1000000 ≤ fr ∧ fr ≤ 1000000) (h2 : -1000000 ≤ x ∧ x ≤ 1000000) (h3 : 1 ≤ sz) : FnP Tryz.prog 73 [.int .i64 fr, .int .i64 sz, .int .i64 x] M [.int .i64 (colC fr sz x)] := by
  refine Fn.of_vc cxOK Tryz.func73 rfl rfl rfl ?_
  repeat (first | refine VIf.tt ?_ | refine VIf.ff ?_)
  refine VIf.mk (fun h => ?_) (fun h => ?_)
  · have h := of_decide_eq_true h
    repeat (first | refine VIf.tt ?_ | refine VIf.ff ?_)
    refine VFact.mk ⟨?_, rfl⟩ trivial
    unfold colC; rw [if_pos h]
  · have h := of_decide_eq_false h
    have hd : 0 ≤ (x - fr).tdiv sz ∧ (x - fr).tdiv sz ≤ x - fr := by
      rw [Int.tdiv_eq_ediv_of_nonneg (by omega)]
      exact ⟨Int.ediv_nonneg (by omega) (by omega), Int.ediv_le_self _ (by omega)⟩
    repeat (first | refine VIf.tt ?_ | refine VIf.ff ?_)
    refine VArith.ok (by first | omega | (simp only; omega)) (by first | omega | (simp only; omega)) ?_
    repeat (first | refine VIf.tt ?_ | refine VIf.ff ?_)
    refine VDiv.mk (by omega) ?_
    repeat (first | refine VIf.tt ?_ | refine VIf.ff ?_)
    refine VArith.ok (by first | omega | (simp only; omega)) (by first | omega | (simp only; omega)) ?_
    repeat (first | refine VIf.tt ?_ | refine VIf.ff ?_)
    refine VFact.mk ⟨?_, rfl⟩ trivial
    unfold colC; rw [if_neg h]
theorem col_bd {fr sz x : Int} (h1 : -1000000 ≤ fr ∧ fr ≤ 1000000) (h2 : -1000000 ≤ x ∧ x ≤ 1000000) (h3 : 1 ≤ sz) : -1 ≤ colC fr sz x ∧ colC fr sz x ≤ 2000000 := by
  unfold colC
  split
  · omega
  · have hd : 0 ≤ (x - fr).tdiv sz ∧ (x - fr).tdiv sz ≤ x - fr := by
      rw [Int.tdiv_eq_ediv_of_nonneg (by omega)]
      exact ⟨Int.ediv_nonneg (by omega) (by omega), Int.ediv_le_self _ (by omega)⟩
    omega
def chC (c : ChartS) (a b d : Value) : Array Value := #[.int .i64 c.ver, .int .i64 c.x, .int .i64 c.y, .int .i64 c.w, .int .i64 c.h, .int .i64 c.sz, a, b, d]
theorem under_fn (c : ChartS) (a b d : Value) (lo hi : Pt) (M : Mem) (h : Cha M c a b d) : V.Fn Tryz.prog 51 [chV c a b d, ptv lo, ptv hi] M fun rs M' => ∃ B1 B2 B3,
    rs = [.func (.func 72) #[] #[.pointer (some ⟨B1, 0, none⟩), .pointer (some ⟨B2, 0, none⟩), .pointer (some ⟨B3, 0, none⟩)]] ∧
    M' B1 = some (.cells (chC c a b d) 26 (0, 0)) ∧ M' B2 = some (.cells #[.int .i64 lo.1, .int .i64 lo.2] 46 (0, 0)) ∧ M' B3 = some (.cells #[.int .i64 hi.1, .int .i64 hi.2] 46 (0, 0)) := by
  obtain ⟨⟨ad, ka, rfl⟩, ⟨bd, kb, rfl⟩, dd, kd, rfl⟩ := h.shape
  refine Fn.of_vc cxOK Tryz.func51 rfl rfl rfl ?_
  repeat (first | refine VIf.tt ?_ | refine VIf.ff ?_)
  refine VFzB.mk fun z1 B1 M1 hM1 hB1 => ?_
  repeat (first | refine VIf.tt ?_ | refine VIf.ff ?_)
  refine VFzB.mk fun z2 B2 M2 hM2 hB2 => ?_
  repeat (first | refine VIf.tt ?_ | refine VIf.ff ?_)
  refine VFzB.mk fun z3 B3 M3 hM3 hB3 => ?_
  repeat (first | refine VIf.tt ?_ | refine VIf.ff ?_)
  exact VFact.mk ⟨B1, B2, B3, rfl, hM3 _ _ (hM2 _ _ hB1), hM3 _ _ hB2, hB3⟩ trivial
set_option maxRecDepth 20000 in
set_option maxHeartbeats 2000000 in
theorem under_iter (c : ChartS) (a b d : Value) (lo hi : Pt) (M : Mem) (hF : frameC c) (h1 : placeB lo = true) (h2 : placeB hi = true) (B1 B2 B3 : Nat)
    (hB1 : M B1 = some (.cells (chC c a b d) 26 (0, 0))) (hB2 : M B2 = some (.cells #[.int .i64 lo.1, .int .i64 lo.2] 46 (0, 0))) (hB3 : M B3 = some (.cells #[.int .i64 hi.1, .int .i64 hi.2] 46 (0, 0))) :
    Iter Tryz.prog 72 #[.pointer (some ⟨B1, 0, none⟩), .pointer (some ⟨B2, 0, none⟩), .pointer (some ⟨B3, 0, none⟩)] M ((underC c lo hi).map fun i => [.int .i64 i]) := by
  rw [← rows_under hF]
  simp only [placeB, Bool.and_eq_true] at h1 h2
  have a1 := isCb_bd h1.1
  have a2 := isCb_bd h1.2
  have a3 := isCb_bd h2.1
  have a4 := isCb_bd h2.2
  obtain ⟨f1, f2, f3⟩ := hF
  simp only [placeB, Bool.and_eq_true] at f2
  have a5 := isCb_bd f2.1
  have a6 := isCb_bd f2.2
  have k1 := col_bd (fr := c.y) (sz := c.sz) (x := lo.2) (by omega) (by omega) (by omega)
  have k2 := col_bd (fr := c.y) (sz := c.sz) (x := hi.2) (by omega) (by omega) (by omega)
  have k3 := col_bd (fr := c.x) (sz := c.sz) (x := lo.1) (by omega) (by omega) (by omega)
  have k4 := col_bd (fr := c.x) (sz := c.sz) (x := hi.1) (by omega) (by omega) (by omega)
  refine Iter.of_vc cxOK Tryz.func72 rfl rfl rfl rfl fun l => ?_
  repeat (first | refine VIf.tt ?_ | refine VIf.ff ?_)
  refine VRead.mk (.int .i64 c.y) (cellAt hB1 2 rfl) ?_
  repeat (first | refine VIf.tt ?_ | refine VIf.ff ?_)
  refine VRead.mk (.int .i64 c.sz) (cellAt hB1 5 rfl) ?_
  repeat (first | refine VIf.tt ?_ | refine VIf.ff ?_)
  refine VRead.mk (.int .i64 lo.2) (cellAt hB2 1 rfl) ?_
  repeat (first | refine VIf.tt ?_ | refine VIf.ff ?_)
  refine VFn.p (column_fn c.y c.sz lo.2 M (by omega) (by omega) (by omega)) ?_
  repeat (first | refine VIf.tt ?_ | refine VIf.ff ?_)
  refine VCode.loopG cxOK (fun m => m = fun _ => none) rfl Int
    (fun y => ⟨[(0, .v (.func (.yield l) #[] #[])), (1, .v (.pointer (some ⟨B1, 0, none⟩))), (2, .v (.pointer (some ⟨B2, 0, none⟩))), (3, .v (.pointer (some ⟨B3, 0, none⟩))), (5, .v (.int .i64 y))],
      [], 0, M, 62, ⟨fun _ => none, some (l, (rowsC c.w (xLo c lo) (xHi c hi) y (yHi c hi)).map fun i => [.int .i64 i]), fun _ => none⟩⟩)
    (fun y => 0 ≤ y ∧ y ≤ 3000000) (fun y => (yHi c hi + 1 - y).toNat) (yLo c lo) ⟨by unfold yLo; omega, by unfold yLo; omega⟩ (Wk.mk' id (by repeat' constructor) (by repeat' constructor) (injOK_id _) rfl rfl rfl) ?_
  rintro y ⟨hy1, hy2⟩ m rfl
  repeat (first | refine VIf.tt ?_ | refine VIf.ff ?_)
  refine VDraw.go (by kernel_rfl) ?_
  repeat (first | refine VIf.tt ?_ | refine VIf.ff ?_)
  refine VRead.mk (.int .i64 c.h) (cellAt hB1 4 rfl) ?_
  repeat (first | refine VIf.tt ?_ | refine VIf.ff ?_)
  refine VArith.ok (by first | omega | (simp only; omega)) (by first | omega | (simp only; omega)) ?_
  repeat (first | refine VIf.tt ?_ | refine VIf.ff ?_)
  refine VRead.mk (.int .i64 c.y) (cellAt hB1 2 rfl) ?_
  repeat (first | refine VIf.tt ?_ | refine VIf.ff ?_)
  refine VRead.mk (.int .i64 c.sz) (cellAt hB1 5 rfl) ?_
  repeat (first | refine VIf.tt ?_ | refine VIf.ff ?_)
  refine VRead.mk (.int .i64 hi.2) (cellAt hB3 1 rfl) ?_
  repeat (first | refine VIf.tt ?_ | refine VIf.ff ?_)
  refine VFn.p (column_fn c.y c.sz hi.2 M (by omega) (by omega) (by omega)) ?_
  repeat (first | refine VIf.tt ?_ | refine VIf.ff ?_)
  refine VIf.mk (fun hle => ?_) (fun hgt => ?_)
  · have hle : y ≤ yHi c hi := of_decide_eq_true hle
    have hyh : y ≤ c.h - 1 := by unfold yHi at hle; omega
    repeat (first | refine VIf.tt ?_ | refine VIf.ff ?_)
    refine VRead.mk (.int .i64 c.x) (cellAt hB1 1 rfl) ?_
    repeat (first | refine VIf.tt ?_ | refine VIf.ff ?_)
    refine VRead.mk (.int .i64 c.sz) (cellAt hB1 5 rfl) ?_
    repeat (first | refine VIf.tt ?_ | refine VIf.ff ?_)
    refine VRead.mk (.int .i64 lo.1) (cellAt hB2 0 rfl) ?_
    repeat (first | refine VIf.tt ?_ | refine VIf.ff ?_)
    refine VFn.p (column_fn c.x c.sz lo.1 M (by omega) (by omega) (by omega)) ?_
    repeat (first | refine VIf.tt ?_ | refine VIf.ff ?_)
    refine VCode.loopG cxOK (fun m => m = fun _ => none) rfl Int
      (fun x => ⟨[(0, .v (.func (.yield l) #[] #[])), (1, .v (.pointer (some ⟨B1, 0, none⟩))), (2, .v (.pointer (some ⟨B2, 0, none⟩))), (3, .v (.pointer (some ⟨B3, 0, none⟩))), (5, .v (.int .i64 y)), (6, .v (.int .i64 x))],
        [], 0, M, 62, ⟨fun _ => none, some (l, (rowC c.w x (xHi c hi) y ++ rowsC c.w (xLo c lo) (xHi c hi) (y + 1) (yHi c hi)).map fun i => [.int .i64 i]), fun _ => none⟩⟩)
      (fun x => 0 ≤ x ∧ x ≤ 3000000) (fun x => (xHi c hi + 1 - x).toNat) (xLo c lo) ⟨by unfold xLo; omega, by unfold xLo; omega⟩ ?_ ?_
    · refine Wk.mk' id (by repeat' constructor) (by repeat' constructor) (injOK_id _) rfl rfl ?_
      show some (l, _) = some (l, _)
      rw [rowsC_cons hle]
    rintro x ⟨hx1, hx2⟩ m rfl
    repeat (first | refine VIf.tt ?_ | refine VIf.ff ?_)
    refine VDraw.go (by kernel_rfl) ?_
    repeat (first | refine VIf.tt ?_ | refine VIf.ff ?_)
    refine VRead.mk (.int .i64 c.w) (cellAt hB1 3 rfl) ?_
    repeat (first | refine VIf.tt ?_ | refine VIf.ff ?_)
    refine VArith.ok (by first | omega | (simp only; omega)) (by first | omega | (simp only; omega)) ?_
    repeat (first | refine VIf.tt ?_ | refine VIf.ff ?_)
    refine VRead.mk (.int .i64 c.x) (cellAt hB1 1 rfl) ?_
    repeat (first | refine VIf.tt ?_ | refine VIf.ff ?_)
    refine VRead.mk (.int .i64 c.sz) (cellAt hB1 5 rfl) ?_
    repeat (first | refine VIf.tt ?_ | refine VIf.ff ?_)
    refine VRead.mk (.int .i64 hi.1) (cellAt hB3 0 rfl) ?_
    repeat (first | refine VIf.tt ?_ | refine VIf.ff ?_)
    refine VFn.p (column_fn c.x c.sz hi.1 M (by omega) (by omega) (by omega)) ?_
    repeat (first | refine VIf.tt ?_ | refine VIf.ff ?_)
    refine VIf.mk (fun hlx => ?_) (fun hgx => ?_)
    · have hlx : x ≤ xHi c hi := of_decide_eq_true hlx
      have hxw : x ≤ c.w - 1 := by unfold xHi at hlx; omega
      repeat (first | refine VIf.tt ?_ | refine VIf.ff ?_)
      refine VRead.mk (.int .i64 c.w) (cellAt hB1 3 rfl) ?_
      have hyw := mulb (a := y) (b := c.w) 4000 4000 (by omega) (by omega)
      repeat (first | refine VIf.tt ?_ | refine VIf.ff ?_)
      refine VArith.ok (by first | omega | (simp only; omega)) (by first | omega | (simp only; omega)) ?_
      repeat (first | refine VIf.tt ?_ | refine VIf.ff ?_)
      refine VArith.ok (by first | omega | (simp only; omega)) (by first | omega | (simp only; omega)) ?_
      repeat (first | refine VIf.tt ?_ | refine VIf.ff ?_)
      refine VYield.mk ((rowC c.w (x + 1) (xHi c hi) y ++ rowsC c.w (xLo c lo) (xHi c hi) (y + 1) (yHi c hi)).map fun i => [.int .i64 i]) ?_ ?_ ?_
      · simp only [Gh.mk.injEq, and_true, true_and, Option.some.injEq, Prod.mk.injEq]
        rw [rowC_cons hlx]; rfl
      · refine VIf.ff ?_
        repeat (first | refine VIf.tt ?_ | refine VIf.ff ?_)
        refine VArith.ok (by first | omega | (simp only; omega)) (by first | omega | (simp only; omega)) ?_
        exact ⟨rfl, x + 1, ⟨by omega, by omega⟩, by first | omega | (simp only; omega), (Wk.mk' id (by repeat' constructor) (by repeat' constructor) (injOK_id _) rfl rfl rfl)⟩
      · refine VIf.tt ?_
        exact VEnd.stop rfl
    · have hgx : ¬ x ≤ xHi c hi := of_decide_eq_false hgx
      repeat (first | refine VIf.tt ?_ | refine VIf.ff ?_)
      refine VArith.ok (by first | omega | (simp only; omega)) (by first | omega | (simp only; omega)) ?_
      refine ⟨rfl, y + 1, ⟨by omega, by omega⟩, by first | omega | (simp only; omega), ?_⟩
      refine Wk.mk' id (by repeat' constructor) (by repeat' constructor) (injOK_id _) rfl rfl ?_
      show some (l, _) = some (l, _)
      rw [rowC_nil (by omega)]; rfl
  · have hgt : ¬ y ≤ yHi c hi := of_decide_eq_false hgt
    exact VEnd.all (by rw [rowsC_nil (by omega)]; rfl)
end Go.Proofs.YtegmjmdkhbibjaaGreat

/- Contracts of chart: Square, Touched, At. -/
namespace Go.Proofs.YtegmjmdkhbibjaaGreat
open Go Go.V Go.RowKit
def sqOK (c : ChartS) (i : Int) : Bool := validC c && decide (0 ≤ i ∧ i < c.cs.length)
/-- Squares lie within the coordinates. -/
theorem sq_bd {c : ChartS} (h : frameC c) {i : Int} (hi : 0 ≤ i ∧ i < c.cs.length) : ((0 ≤ i.tmod c.w * c.sz ∧ i.tmod c.w * c.sz ≤ 40000000) ∧ 0 ≤ i.tdiv c.w * c.sz ∧ i.tdiv c.w * c.sz ≤ 40000000) ∧ placeB (bLo c i) = true ∧ placeB (bHi c i) = true := by
  obtain ⟨f1, f2, f3⟩ := h
  obtain ⟨e1, e2, e3, e4⟩ := encode hi.1 (show 0 < c.w by omega)
  have hyh : i.tdiv c.w ≤ c.h - 1 := by
    refine Int.not_lt.1 fun hlt => ?_
    have := Int.mul_le_mul_of_nonneg_right (show c.h ≤ i.tdiv c.w by omega) (show 0 ≤ c.w by omega)
    rw [Int.mul_comm c.h] at this
    omega
  have b2 := place_bd f2
  have b3 := place_bd f3
  simp only at b2 b3
  unfold bHi bLo
  generalize i.tdiv c.w = y at *
  generalize i.tmod c.w = x at *
  have m1 := mulb (a := x) (b := c.sz) 4000 10000 (by omega) (by omega)
  have m2 := mulb (a := y) (b := c.sz) 4000 10000 (by omega) (by omega)
  have m3 := Int.mul_le_mul_of_nonneg_right (show x + 1 ≤ c.w by omega) (show 0 ≤ c.sz by omega)
  have m4 := Int.mul_le_mul_of_nonneg_right (show y + 1 ≤ c.h by omega) (show 0 ≤ c.sz by omega)
  rw [Int.add_mul] at m3 m4
  have pl : ∀ p : Pt, (-500000 ≤ p.1 ∧ p.1 ≤ 500000) → (-500000 ≤ p.2 ∧ p.2 ≤ 500000) → placeB p = true := fun p h1 h2 => by
    simp only [placeB, isCb, Bool.and_eq_true, decide_eq_true_eq]; exact ⟨h1, h2⟩
  refine ⟨⟨by omega, by omega⟩, pl _ ?_ ?_, pl _ ?_ ?_⟩ <;> simp only <;> omega
set_option maxRecDepth 20000 in
set_option maxHeartbeats 2000000 in
theorem Square_fn (c : ChartS) (a b d : Value) (i : Int) (M : Mem) (h : Cha M c a b d) : V.Fn Tryz.prog 29 [chV c a b d, .int .i64 i] M fun rs _ => rs = if sqOK c i = true then [ptv (bLo c i), ptv (bHi c i), .int .i64 0] else [pt 0 0, pt 0 0, .int .i64 1] := by
  have hv := chValid_fn c a b d M h
  obtain ⟨⟨ad, ka, rfl⟩, ⟨bd, kb, rfl⟩, dd, kd, rfl⟩ := h.shape
  refine Fn.of_vc cxOK Tryz.func29 rfl rfl rfl ?_
  repeat (first | refine VIf.tt ?_ | refine VIf.ff ?_)
  refine VFn.mk _ hv ?_
  rintro rs M1 hM1 rfl
  repeat (first | refine VIf.tt ?_ | refine VIf.ff ?_)
  refine VIf.mk (fun e1 => ?_) (fun e1 => ?_)
  · have e1 := (Bool.not_eq_true' _).mp e1
    repeat (first | refine VIf.tt ?_ | refine VIf.ff ?_)
    refine VDraw.go (by kernel_rfl) ?_
    repeat (first | refine VIf.tt ?_ | refine VIf.ff ?_)
    refine VFact.mk rfl ?_
    repeat (first | refine VIf.tt ?_ | refine VIf.ff ?_)
    refine VFact.mk ?_ trivial
    unfold sqOK; rw [e1]; rfl
  have hV := (Bool.not_eq_false' _).mp e1
  have bad : ¬ (0 ≤ i ∧ i < c.cs.length) → sqOK c i = false := fun h => by unfold sqOK; rw [decide_eq_false h, Bool.and_false]
  repeat (first | refine VIf.tt ?_ | refine VIf.ff ?_)
  refine VIf.mk (fun e2 => ?_) (fun e2 => ?_)
  · have e2 := of_decide_eq_true e2
    repeat (first | refine VIf.tt ?_ | refine VIf.ff ?_)
    refine VDraw.go (by kernel_rfl) ?_
    repeat (first | refine VIf.tt ?_ | refine VIf.ff ?_)
    refine VFact.mk rfl ?_
    repeat (first | refine VIf.tt ?_ | refine VIf.ff ?_)
    refine VFact.mk ?_ trivial
    rw [bad (by omega)]; rfl
  have e2 := of_decide_eq_false e2
  repeat (first | refine VIf.tt ?_ | refine VIf.ff ?_)
  refine VIf.mk (fun e3 => ?_) (fun e3 => ?_)
  · have e3 := of_decide_eq_true e3
    repeat (first | refine VIf.tt ?_ | refine VIf.ff ?_)
    refine VDraw.go (by kernel_rfl) ?_
    repeat (first | refine VIf.tt ?_ | refine VIf.ff ?_)
    refine VFact.mk rfl ?_
    repeat (first | refine VIf.tt ?_ | refine VIf.ff ?_)
    refine VFact.mk ?_ trivial
    rw [bad (by omega)]; rfl
  have e3 := of_decide_eq_false e3
  have hF := validC_frame hV
  have hi : 0 ≤ i ∧ i < c.cs.length := by omega
  obtain ⟨⟨m1, m2⟩, p1, p2⟩ := sq_bd hF hi
  have q1 := place_bd p1
  have q2 := place_bd p2
  have b2 := place_bd hF.2.1
  simp only at b2
  have hw : 0 < c.w := by have := hF.1; omega
  have hsz : 1 ≤ c.sz ∧ c.sz ≤ 10000 := by have := hF.1; omega
  obtain ⟨t1, t2, t3, t4⟩ := encode hi.1 hw
  have hok : sqOK c i = true := by unfold sqOK; rw [hV, decide_eq_true hi]; rfl
  rw [hok, if_pos rfl]
  have cl := hF.1
  have q1' : -500000 ≤ c.x + i.tmod c.w * c.sz ∧ c.x + i.tmod c.w * c.sz ≤ 500000 ∧ -500000 ≤ c.y + i.tdiv c.w * c.sz ∧ c.y + i.tdiv c.w * c.sz ≤ 500000 := q1
  have hdv : i.tdiv c.w ≤ 4000 := by
    rw [Int.tdiv_eq_ediv_of_nonneg hi.1]
    exact Int.le_trans (Int.ediv_le_self _ hi.1) (by omega)
  repeat (first | refine VIf.tt ?_ | refine VIf.ff ?_)
  refine VDraw.go (by kernel_rfl) ?_
  repeat (first | refine VIf.tt ?_ | refine VIf.ff ?_)
  refine VDiv.mk (by omega) ?_
  repeat (first | refine VIf.tt ?_ | refine VIf.ff ?_)
  refine VArith.ok (by first | omega | (simp only; omega)) (by first | omega | (simp only; omega)) ?_
  repeat (first | refine VIf.tt ?_ | refine VIf.ff ?_)
  refine VArith.ok (by first | omega | (simp only; omega)) (by first | omega | (simp only; omega)) ?_
  repeat (first | refine VIf.tt ?_ | refine VIf.ff ?_)
  refine VDiv.mk (by omega) ?_
  repeat (first | refine VIf.tt ?_ | refine VIf.ff ?_)
  refine VArith.ok (by first | omega | (simp only; omega)) (by first | omega | (simp only; omega)) ?_
  repeat (first | refine VIf.tt ?_ | refine VIf.ff ?_)
  refine VArith.ok (by first | omega | (simp only; omega)) (by first | omega | (simp only; omega)) ?_
  repeat (first | refine VIf.tt ?_ | refine VIf.ff ?_)
  refine VArith.ok (by first | omega | (simp only; omega)) (by first | omega | (simp only; omega)) ?_
  repeat (first | refine VIf.tt ?_ | refine VIf.ff ?_)
  refine VDraw.go (by kernel_rfl) ?_
  repeat (first | refine VIf.tt ?_ | refine VIf.ff ?_)
  refine VArith.ok (by first | omega | (simp only; omega)) (by first | omega | (simp only; omega)) ?_
  repeat (first | refine VIf.tt ?_ | refine VIf.ff ?_)
  refine VArith.ok (by first | omega | (simp only; omega)) (by first | omega | (simp only; omega)) ?_
  repeat (first | refine VIf.tt ?_ | refine VIf.ff ?_)
  refine VArith.ok (by first | omega | (simp only; omega)) (by first | omega | (simp only; omega)) ?_
  repeat (first | refine VIf.tt ?_ | refine VIf.ff ?_)
  refine VArith.ok (by first | omega | (simp only; omega)) (by first | omega | (simp only; omega)) ?_
  repeat (first | refine VIf.tt ?_ | refine VIf.ff ?_)
  refine VFact.mk rfl ?_
  repeat (first | refine VIf.tt ?_ | refine VIf.ff ?_)
  exact VFact.mk rfl trivial
def tcOK (c : ChartS) (lo hi : Pt) : Bool := validC c && placeB lo && placeB hi && decide (lo.1 ≤ hi.1 ∧ lo.2 ≤ hi.2)
theorem underC_64 {c : ChartS} {lo hi : Pt} (hl : c.cs.length ≤ 4000) : ∀ i ∈ underC c lo hi, i64r i := fun i hi => by
  have := (underC_mem.1 hi).1
  unfold i64r; omega
theorem underC_len (c : ChartS) (lo hi : Pt) : (underC c lo hi).length ≤ c.cs.length := by
  unfold underC unC
  rw [List.length_map]
  exact Nat.le_trans (List.length_filter_le _ _) (by rw [List.length_range]; exact Nat.le_refl _)
theorem IntsV.of {M : Mem} {v : Value} {us : List Int} (h : SlAt M 1 v us.length (us.map (Value.int .i64))) (h64 : ∀ i ∈ us, i64r i) : IntsV M v us := by
  have e : (us.map fun i => [Value.int .i64 i]).flatten = us.map (Value.int .i64) := by
    clear h h64
    induction us with
    | nil => rfl
    | cons b bs ih => simp only [List.map_cons, List.flatten_cons, ih]; rfl
  refine Arr.of (us.map fun i => [.int .i64 i]) (fun r hr => by obtain ⟨_, _, rfl⟩ := List.mem_map.1 hr; rfl) (by rw [e]; exact h) ?_
  clear h e
  induction us with
  | nil => trivial
  | cons b bs ih => exact ⟨⟨rfl, h64 b List.mem_cons_self⟩, ih fun i hi => h64 i (List.mem_cons_of_mem _ hi)⟩
set_option maxRecDepth 20000 in
set_option maxHeartbeats 2000000 in
theorem Touched_fn (c : ChartS) (a b d : Value) (lo hi : Pt) (M : Mem) (h : Cha M c a b d) (hlo : i64r lo.1 ∧ i64r lo.2) (hhi : i64r hi.1 ∧ i64r hi.2) : V.Fn Tryz.prog 30 [chV c a b d, ptv lo, ptv hi] M fun rs M' => if tcOK c lo hi = true then ∃ u, rs = [u, .int .i64 0] ∧ IntsV M' u (underC c lo hi) else rs = [.slice none 0 0, .int .i64 1] := by
  have hv := chValid_fn c a b d M h
  have hsh := h.shape
  obtain ⟨⟨ad, ka, ea⟩, ⟨bd, kb, eb⟩, dd, kd, ed⟩ := hsh
  subst ea; subst eb; subst ed
  have bad : ∀ {q : Bool}, tcOK c lo hi = q → q = false → ∀ M' : Mem, (if tcOK c lo hi = true then ∃ u, ([.slice none 0 0, .int .i64 1] : List Value) = [u, .int .i64 0] ∧ IntsV M' u (underC c lo hi) else ([.slice none 0 0, .int .i64 1] : List Value) = [.slice none 0 0, .int .i64 1]) := fun e e' M' => by
    rw [e, e', if_neg (by decide)]
  refine Fn.of_vc cxOK Tryz.func30 rfl rfl rfl ?_
  repeat (first | refine VIf.tt ?_ | refine VIf.ff ?_)
  refine VFn.mk _ hv ?_
  rintro rs M1 hM1 rfl
  repeat (first | refine VIf.tt ?_ | refine VIf.ff ?_)
  refine VIf.mk (fun e1 => ?_) (fun e1 => ?_)
  · have e1 := (Bool.not_eq_true' _).mp e1
    repeat (first | refine VIf.tt ?_ | refine VIf.ff ?_)
    exact VFact.mk (bad rfl (by unfold tcOK; rw [e1]; rfl) _) trivial
  have hV := (Bool.not_eq_false' _).mp e1
  repeat (first | refine VIf.tt ?_ | refine VIf.ff ?_)
  refine VFn.mk _ (chartPlace_fn lo _ hlo.1 hlo.2) ?_
  rintro rs M2 hM2 rfl
  repeat (first | refine VIf.tt ?_ | refine VIf.ff ?_)
  refine VIf.mk (fun e2 => ?_) (fun e2 => ?_)
  · have e2 := (Bool.not_eq_true' _).mp e2
    repeat (first | refine VIf.tt ?_ | refine VIf.ff ?_)
    exact VFact.mk (bad rfl (by unfold tcOK; rw [e2, Bool.and_false]; rfl) _) trivial
  have hL := (Bool.not_eq_false' _).mp e2
  repeat (first | refine VIf.tt ?_ | refine VIf.ff ?_)
  refine VFn.mk _ (chartPlace_fn hi _ hhi.1 hhi.2) ?_
  rintro rs M3 hM3 rfl
  repeat (first | refine VIf.tt ?_ | refine VIf.ff ?_)
  refine VIf.mk (fun e3 => ?_) (fun e3 => ?_)
  · have e3 := (Bool.not_eq_true' _).mp e3
    repeat (first | refine VIf.tt ?_ | refine VIf.ff ?_)
    exact VFact.mk (bad rfl (by unfold tcOK; rw [e3, Bool.and_false]; rfl) _) trivial
  have hH := (Bool.not_eq_false' _).mp e3
  repeat (first | refine VIf.tt ?_ | refine VIf.ff ?_)
  refine VIf.mk (fun e4 => ?_) (fun e4 => ?_)
  · have e4 := of_decide_eq_true e4
    repeat (first | refine VIf.tt ?_ | refine VIf.ff ?_)
    exact VFact.mk (bad rfl (by unfold tcOK; rw [decide_eq_false (by omega), Bool.and_false]) _) trivial
  have e4 := of_decide_eq_false e4
  repeat (first | refine VIf.tt ?_ | refine VIf.ff ?_)
  refine VIf.mk (fun e5 => ?_) (fun e5 => ?_)
  · have e5 := of_decide_eq_true e5
    repeat (first | refine VIf.tt ?_ | refine VIf.ff ?_)
    exact VFact.mk (bad rfl (by unfold tcOK; rw [decide_eq_false (by omega), Bool.and_false]) _) trivial
  have e5 := of_decide_eq_false e5
  have hok : tcOK c lo hi = true := by unfold tcOK; rw [hV, hL, hH, decide_eq_true (by omega)]; rfl
  rw [hok]
  have m3 := hM1.trans (hM2.trans hM3)
  repeat (first | refine VIf.tt ?_ | refine VIf.ff ?_)
  refine VFn.mk _ (under_fn c _ _ _ lo hi M3 (h.le m3)) ?_
  rintro rs M4 hM4 ⟨B1, B2, B3, rfl, hB1, hB2, hB3⟩
  have hit := under_iter c _ _ _ lo hi M4 (validC_frame hV) hL hH B1 B2 B3 hB1 hB2 hB3
  have h64 := underC_64 (c := c) (lo := lo) (hi := hi) (validC_frame hV).1.2.2.2.2.1
  have hlen := underC_len c lo hi
  have hc4 := (validC_frame hV).1.2.2.2.2.1
  generalize underC c lo hi = us at *
  repeat (first | refine VIf.tt ?_ | refine VIf.ff ?_)
  refine VCode.rangeB cxOK rfl hit (fun x hx => ?_) [(8, .box 3 0)] rfl (by kernel_rfl) (by kernel_rfl) Unit
    (fun k _ => ⟨[(8, .box 3 0)], [(3, some (.box 27 [.row 4])), (4, some (.row 3 1 (us.take k).length ((us.take k).map (Value.int .i64))))], 5, M4, 47, ⟨fun _ => none, none, fun _ => none⟩⟩)
    (fun k _ => k ≤ us.length) () (Nat.zero_le _) ?_ (fun k s => ⟨rfl, rfl⟩) ?_ ?_
  · obtain ⟨i, _, rfl⟩ := List.mem_map.1 hx
    rfl
  · exact Wk.nilBox 3 27 [] [] 3 1 rfl (Wk.mk' id (by repeat' constructor) (by repeat' constructor) (injOK_id _) rfl rfl rfl)
  · rintro k _ args hk hxs m f
    rw [List.getElem?_map] at hxs
    obtain ⟨g, hg, rfl⟩ : ∃ g, us[k]? = some g ∧ [Value.int .i64 g] = args := by
      cases h : us[k]? with
      | none => rw [h] at hxs; cases hxs
      | some g => rw [h] at hxs; exact ⟨g, rfl, by simpa using hxs⟩
    obtain ⟨hk, eg⟩ := List.getElem?_eq_some_iff.1 hg
    have htk : us.take (k + 1) = us.take k ++ [g] := by rw [List.take_add_one, hg]; rfl
    intro m'
    have hb : ((us.take k).length + 1) * 8 ≤ 140737488355328 := by rw [List.length_take]; omega
    repeat (first | refine VIf.tt ?_ | refine VIf.ff ?_)
    refine VFact.mk hb ?_
    repeat (first | refine VIf.tt ?_ | refine VIf.ff ?_)
    refine ⟨(), hk, Wk.mk' (fun i => if i = 4 then 6 else i) (by repeat' constructor) ⟨⟨rfl, by repeat' constructor⟩, ⟨rfl, ⟨rfl, rfl, ?_, ?_⟩⟩, trivial⟩ (by simp [injOK]) rfl rfl rfl⟩
    · show (us.take (k + 1)).length = (us.take k).length + 1
      rw [htk, List.length_append]; rfl
    · show (us.take (k + 1)).map (Value.int .i64) = (us.take k).map (Value.int .i64) ++ ([Value.int .i64 g] ++ [])
      rw [htk, List.map_append]; rfl
  · rintro _ m _
    repeat (first | refine VIf.tt ?_ | refine VIf.ff ?_)
    refine VFz.mk fun x B M5 hM5 hx => ?_
    have hx : SlAt M5 1 x (us.take (us.map fun i => [Value.int .i64 i]).length).length ((us.take (us.map fun i => [Value.int .i64 i]).length).map (Value.int .i64)) := hx
    rw [List.length_map, List.take_length] at hx
    repeat (first | refine VIf.tt ?_ | refine VIf.ff ?_)
    exact VFact.mk (show ∃ u, ([x, .int .i64 0] : List Value) = [u, .int .i64 0] ∧ IntsV M5 u us from ⟨x, rfl, IntsV.of hx h64⟩) trivial
def atOK (c : ChartS) (x : Pt) : Bool := validC c && placeB x
def atR (c : ChartS) (x : Pt) : List Value := match underC c x x with
  | [] => [.int .i64 0, .bool false, .int .i64 0]
  | i :: _ => [.int .i64 i, .bool true, .int .i64 0]
set_option maxRecDepth 20000 in
set_option maxHeartbeats 2000000 in
theorem At_fn (c : ChartS) (a b d : Value) (x : Pt) (M : Mem) (h : Cha M c a b d) (hx : i64r x.1 ∧ i64r x.2) : V.Fn Tryz.prog 27 [chV c a b d, ptv x] M fun rs _ => rs = if atOK c x = true then atR c x else [.int .i64 0, .bool false, .int .i64 1] := by
  have hv := chValid_fn c a b d M h
  have hsh := h.shape
  obtain ⟨⟨ad, ka, ea⟩, ⟨bd, kb, eb⟩, dd, kd, ed⟩ := hsh
  subst ea; subst eb; subst ed
  refine Fn.of_vc cxOK Tryz.func27 rfl rfl rfl ?_
  repeat (first | refine VIf.tt ?_ | refine VIf.ff ?_)
  refine VFn.mk _ hv ?_
  rintro rs M1 hM1 rfl
  repeat (first | refine VIf.tt ?_ | refine VIf.ff ?_)
  refine VIf.mk (fun e1 => ?_) (fun e1 => ?_)
  · have e1 := (Bool.not_eq_true' _).mp e1
    repeat (first | refine VIf.tt ?_ | refine VIf.ff ?_)
    refine VFact.mk ?_ trivial
    unfold atOK; rw [e1]; rfl
  have hV := (Bool.not_eq_false' _).mp e1
  repeat (first | refine VIf.tt ?_ | refine VIf.ff ?_)
  refine VFn.mk _ (chartPlace_fn x _ hx.1 hx.2) ?_
  rintro rs M2 hM2 rfl
  repeat (first | refine VIf.tt ?_ | refine VIf.ff ?_)
  refine VIf.mk (fun e2 => ?_) (fun e2 => ?_)
  · have e2 := (Bool.not_eq_true' _).mp e2
    repeat (first | refine VIf.tt ?_ | refine VIf.ff ?_)
    refine VFact.mk ?_ trivial
    unfold atOK; rw [e2, Bool.and_false]; rfl
  have hP := (Bool.not_eq_false' _).mp e2
  have hok : atOK c x = true := by unfold atOK; rw [hV, hP]; rfl
  have m2 := hM1.trans hM2
  repeat (first | refine VIf.tt ?_ | refine VIf.ff ?_)
  refine VFn.mk _ (under_fn c _ _ _ x x M2 (h.le m2)) ?_
  rintro rs M3 hM3 ⟨B1, B2, B3, rfl, hB1, hB2, hB3⟩
  have hit := under_iter c _ _ _ x x M3 (validC_frame hV) hP hP B1 B2 B3 hB1 hB2 hB3
  rw [hok]
  have hR : atR c x = match underC c x x with
    | [] => [.int .i64 0, .bool false, .int .i64 0]
    | i :: _ => [.int .i64 i, .bool true, .int .i64 0] := rfl
  generalize underC c x x = us at *
  repeat (first | refine VIf.tt ?_ | refine VIf.ff ?_)
  refine VCode.rangeB cxOK rfl hit (fun x hx => ?_) [(4, .box 2 0), (5, .box 3 0), (6, .box 4 0)] rfl (by kernel_rfl) (by kernel_rfl) Unit
    (fun k _ => ⟨[(4, .box 2 0), (5, .box 3 0), (6, .box 4 0)], [(2, some (.box 3 [.v (.int .i64 0)])), (3, some (.box 4 [.v (.bool false)])), (4, some (.box 30 [.v (.int .i64 0)]))], 5, M3, 22, ⟨fun _ => none, none, fun _ => none⟩⟩)
    (fun k _ => k = 0) () rfl (Wk.mk' id (by repeat' constructor) (by repeat' constructor) (injOK_id _) rfl rfl rfl) (fun k s => ⟨rfl, rfl⟩) ?_ ?_
  · obtain ⟨i, _, rfl⟩ := List.mem_map.1 hx
    rfl
  · rintro k _ args hk hxs m f
    have hk : k = 0 := hk
    subst hk
    rw [List.getElem?_map] at hxs
    obtain ⟨g, hg, rfl⟩ : ∃ g, us[0]? = some g ∧ [Value.int .i64 g] = args := by
      cases h : us[0]? with
      | none => rw [h] at hxs; cases hxs
      | some g => rw [h] at hxs; exact ⟨g, rfl, by simpa using hxs⟩
    intro m'
    have hR2 : atR c x = [.int .i64 g, .bool true, .int .i64 0] := by
      cases us with
      | nil => simp at hg
      | cons i r => simp at hg; subst hg; exact hR
    repeat (first | refine VIf.tt ?_ | refine VIf.ff ?_)
    refine ⟨⟨[(4, .box 2 0), (5, .box 3 0), (6, .box 4 0)], [(2, some (.box 3 [.v (.int .i64 g)])), (3, some (.box 4 [.v (.bool true)])), (4, some (.box 30 [.v (.int .i64 0)]))], 5, M3, 22, ⟨m', none, f⟩⟩, (Wk.mk' id (by repeat' constructor) (by repeat' constructor) (injOK_id _) rfl rfl rfl), rfl, rfl, fun m2 => ?_⟩
    repeat (first | refine VIf.tt ?_ | refine VIf.ff ?_)
    exact VFact.mk (by rw [hR2]; rfl) trivial
  · rintro _ m hk
    have hk : (us.map fun i => [Value.int .i64 i]).length = 0 := hk
    have hR2 : atR c x = [.int .i64 0, .bool false, .int .i64 0] := by
      cases us with
      | nil => exact hR
      | cons i r => simp at hk
    repeat (first | refine VIf.tt ?_ | refine VIf.ff ?_)
    exact VFact.mk (by rw [hR2]; rfl) trivial
end Go.Proofs.YtegmjmdkhbibjaaGreat
