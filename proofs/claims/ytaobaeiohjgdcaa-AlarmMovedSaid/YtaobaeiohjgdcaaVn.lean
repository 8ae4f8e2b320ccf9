/- The verification-condition framework, part N: loops; a function's contract from its body. -/
import Derived.Test.YtaobaeiohjgdcaaVm
import Derived.Shelf.Abstract
namespace Go.V
open Go Go.RowKit
variable {P : Program}

/-! ### A state that knows less -/
def At.ren (r : Nat → Nat) : At → At
  | .v x => .v x
  | .box id off => .box (r id) off
  | .row id => .row (r id)
def SV.ren (r : Nat → Nat) : SV → SV
  | .v x => .v x
  | .box id off => .box (r id) off
  | .row id => .row (r id)
  | .clo f a b => .clo f (a.map (At.ren r)) (b.map (At.ren r))
  | .tup l => .tup (l.map (At.ren r))
def OE.ren (r : Nat → Nat) : OE → OE
  | .box t cs => .box t (cs.map (SV.ren r))
  | e => e
theorem At.ren_den (ρ : Env) (r : Nat → Nat) (a : At) : (a.ren r).den ρ = a.den (fun i => ρ (r i)) := by cases a <;> rfl
theorem SV.ren_den (ρ : Env) (r : Nat → Nat) (s : SV) : (s.ren r).den ρ = s.den (fun i => ρ (r i)) := by
  have : At.den ρ ∘ At.ren r = At.den (fun i => ρ (r i)) := funext (At.ren_den ρ r)
  cases s <;> simp [SV.ren, SV.den, this]

/-- st knows what st' says, the ids renamed by r. -/
structure Wk (st st' : St) : Prop where
  imp : ∀ G n₀ w M₀ ρ a W, Sat n₀ w M₀ ρ { st with G := G } a W → ∃ ρ', Sat n₀ w M₀ ρ' { st' with G := G } a W
  y : st.G.Y = st'.G.Y
  m : st.M = st'.M

def AtB (nx : Nat) : At → Bool
  | .v _ => true
  | .box id _ => Nat.blt id nx
  | .row id => Nat.blt id nx
def AtsB (nx : Nat) : List At → Bool
  | [] => true
  | a :: r => match AtB nx a with | true => AtsB nx r | false => false
def SVB (nx : Nat) : SV → Bool
  | .v _ => true
  | .box id _ => Nat.blt id nx
  | .row id => Nat.blt id nx
  | .clo _ a b => match AtsB nx a with | true => AtsB nx b | false => false
  | .tup l => AtsB nx l
theorem AtB_spec {nx : Nat} {a : At} (h : AtB nx a = true) : a.sc nx := by
  cases a with
  | v => trivial
  | box id off => exact Nat.le_of_ble_eq_true h
  | row id => exact Nat.le_of_ble_eq_true h
theorem AtsB_spec {nx : Nat} : ∀ {l : List At}, AtsB nx l = true → ∀ a ∈ l, a.sc nx
  | [], _, a, ha => by cases ha
  | x :: r, h, a, ha => by
    simp only [AtsB] at h
    split at h
    · rename_i hx
      rcases List.mem_cons.1 ha with rfl | ha
      · exact AtB_spec hx
      · exact AtsB_spec h a ha
    · cases h
theorem SVB_spec {nx : Nat} {s : SV} (h : SVB nx s = true) : s.sc nx := by
  cases s with
  | v => trivial
  | box id off => exact Nat.le_of_ble_eq_true h
  | row id => exact Nat.le_of_ble_eq_true h
  | clo f a b =>
    simp only [SVB] at h
    split at h
    · rename_i hx; exact ⟨AtsB_spec hx, AtsB_spec h⟩
    · cases h
  | tup l => exact AtsB_spec h

/-- Every slot of the one is known in the other. -/
def slOK (st : St) (r : Nat → Nat) (nx : Nat) : List (Nat × SV) → Prop
  | [] => True
  | (d, s) :: l => (look st.sl d = some (s.ren r) ∧ SVB nx s = true) ∧ slOK st r nx l
/-- Every entry of the one is known in the other. -/
def cellsOK (r : Nat → Nat) (nx : Nat) : List SV → List SV → Prop
  | [], [] => True
  | s :: l, s' :: l' => (s' = s.ren r ∧ SVB nx s = true) ∧ cellsOK r nx l l'
  | _, _ => False
def entOK (st : St) (r : Nat → Nat) (nx : Nat) (id : Nat) : OE → Prop
  | .box t cs => match st.own (r id) with
    | some (.box t' cs') => t = t' ∧ cellsOK r nx cs cs'
    | _ => False
  | .row E sz n xs => match st.own (r id) with
    | some (.row E' sz' n' xs') => E = E' ∧ sz = sz' ∧ n = n' ∧ xs = xs'
    | _ => False
def owOK (st : St) (r : Nat → Nat) (nx : Nat) : List (Nat × Option OE) → Prop
  | [] => True
  | (_, none) :: l => owOK st r nx l
  | (id, some e) :: l => (Nat.blt id nx = true ∧ entOK st r nx id e) ∧ owOK st r nx l
theorem cellsOK_spec {r : Nat → Nat} {nx : Nat} : ∀ {cs cs' : List SV}, cellsOK r nx cs cs' → cs' = cs.map (SV.ren r) ∧ ∀ s ∈ cs, s.sc nx
  | [], [], _ => ⟨rfl, by simp⟩
  | s :: l, s' :: l', ⟨⟨h1, h2⟩, h3⟩ => by
    obtain ⟨i1, i2⟩ := cellsOK_spec h3
    refine ⟨by simp [h1, i1], ?_⟩
    intro x hx
    rcases List.mem_cons.1 hx with rfl | hx
    · exact SVB_spec h2
    · exact i2 x hx
theorem look_mem {α : Type} : ∀ {l : List (Nat × α)} {d : Nat} {x : α}, look l d = some x → (d, x) ∈ l
  | [], _, _, h => by cases h
  | (k, y) :: r, d, x, h => by
    rw [look_cons] at h
    split at h
    · rename_i hk; subst hk; cases h; exact List.mem_cons_self
    · exact List.mem_cons_of_mem _ (look_mem h)
theorem slOK_mem {st : St} {r : Nat → Nat} {nx : Nat} : ∀ {l : List (Nat × SV)}, slOK st r nx l → ∀ {d s}, (d, s) ∈ l → look st.sl d = some (s.ren r) ∧ s.sc nx
  | [], _, d, s, h => by cases h
  | (d', s') :: l, ⟨⟨h1, h2⟩, h3⟩, d, s, h => by
    rcases List.mem_cons.1 h with h | h
    · cases h; exact ⟨h1, SVB_spec h2⟩
    · exact slOK_mem h3 h
theorem owOK_mem {st : St} {r : Nat → Nat} {nx : Nat} : ∀ {l : List (Nat × Option OE)}, owOK st r nx l → ∀ {id e}, (id, some e) ∈ l → id < nx ∧ entOK st r nx id e
  | [], _, _, _, h => by cases h
  | (_, none) :: l, h, id, e, hm => by
    rcases List.mem_cons.1 hm with hm | hm
    · cases hm
    · exact owOK_mem (l := l) h hm
  | (id', some e') :: l, ⟨⟨h1, h2⟩, h3⟩, id, e, hm => by
    rcases List.mem_cons.1 hm with hm | hm
    · cases hm; exact ⟨Nat.le_of_ble_eq_true h1, h2⟩
    · exact owOK_mem h3 hm

/-- The renaming does not join two ids. -/
def injOK (r : Nat → Nat) : List (Nat × Option OE) → Prop
  | [] => True
  | (i, _) :: l => (∀ j ∈ l.map (·.1), i = j ∨ r i ≠ r j) ∧ injOK r l
theorem injOK_spec {r : Nat → Nat} : ∀ {l : List (Nat × Option OE)}, injOK r l → ∀ i j, i ∈ l.map (·.1) → j ∈ l.map (·.1) → i ≠ j → r i ≠ r j
  | [], _, i, j, hi, _, _ => by cases hi
  | (k, o) :: l, ⟨h1, h2⟩, i, j, hi, hj, hij => by
    simp only [List.map_cons, List.mem_cons] at hi hj
    rcases hi with rfl | hi
    · rcases hj with rfl | hj
      · exact absurd rfl hij
      · exact (h1 j hj).resolve_left hij
    · rcases hj with rfl | hj
      · exact fun e => ((h1 i hi).resolve_left (fun e => hij e.symm)) e.symm
      · exact injOK_spec h2 i j hi hj hij

theorem Wk.mk' {st st' : St} (r : Nat → Nat) (hsl : slOK st r st'.nx st'.sl) (how : owOK st r st'.nx st'.ow) (hinj : injOK r st'.ow) (hM : st.M = st'.M) (hnt : st.nt = st'.nt) (hy : st.G.Y = st'.G.Y) : Wk st st' := by
  refine ⟨fun G n₀ w M₀ ρ a W h => ⟨fun i => ρ (r i), ?_⟩, hy, hM⟩
  have hent : ∀ id e, st'.own id = some e → (id, some e) ∈ st'.ow := fun id e he => by
    unfold St.own at he
    split at he
    · rename_i e' hl; cases he; exact look_mem hl
    · cases he
  have hst : ∀ id e, st'.own id = some e → id < st'.nx ∧ e.sc st'.nx ∧ ∃ e0, st.own (r id) = some e0 ∧ (∀ W, OwnOK n₀ ρ W (r id) e0 → OwnOK n₀ (fun i => ρ (r i)) W id e) := fun id e he => by
    obtain ⟨h1, h2⟩ := owOK_mem how (hent id e he)
    cases e with
    | box t cs =>
      simp only [entOK] at h2
      split at h2
      · rename_i t' cs' ho
        obtain ⟨rfl, hc⟩ := h2
        obtain ⟨i1, i2⟩ := cellsOK_spec hc
        refine ⟨h1, i2, _, ho, ?_⟩
        rintro W ⟨B, b1, b2, b3⟩
        refine ⟨B, b1, b2, ?_⟩
        rw [b3, i1, List.map_map]
        have : SV.den ρ ∘ SV.ren r = SV.den (fun i => ρ (r i)) := funext (SV.ren_den ρ r)
        rw [this]
      · exact h2.elim
    | row E sz n xs =>
      simp only [entOK] at h2
      split at h2
      · rename_i E' sz' n' xs' ho
        obtain ⟨rfl, rfl, rfl, rfl⟩ := h2
        exact ⟨h1, trivial, _, ho, fun W hW => hW⟩
      · exact h2.elim
  have hin : ∀ id e, st'.own id = some e → id ∈ st'.ow.map (·.1) := fun id e he => List.mem_map.2 ⟨_, hent id e he, rfl⟩
  refine ⟨⟨h.h.below, h.h.size, fun b o hb => h.h.mem b o (by rw [hM]; exact hb), ?_, ?_, ?_, ?_, fun b hb => by rw [← hM]; exact h.h.mlow b hb, ?_⟩, by rw [h.nt, hnt], ?_, h.marks⟩
  · intro id e he
    obtain ⟨h1, h2, e0, h3, h4⟩ := hst id e he
    exact ⟨h1, h2, h4 W (h.h.own _ _ h3).2.2⟩
  · intro i j ei ej hi hj hij b
    obtain ⟨_, _, e1, h3, _⟩ := hst i ei hi
    obtain ⟨_, _, e2, h4, _⟩ := hst j ej hj
    exact h.h.sep (r i) (r j) e1 e2 h3 h4 (injOK_spec hinj i j (hin i ei hi) (hin j ej hj) hij) b
  · intro i e b hi hb
    obtain ⟨_, _, e1, h3, _⟩ := hst i e hi
    have := h.h.msep (r i) e1 b h3 hb
    show st'.M b = none
    rw [← hM]; exact this
  · intro b o hb
    obtain ⟨h1, h2, h3⟩ := h.h.pin b o hb
    refine ⟨h1, h2, ?_⟩
    show st'.M b = none
    rw [← hM]; exact h3
  · intro b o hb
    obtain ⟨h1, h2⟩ := h.h.fpin b o hb
    refine ⟨h1, fun i e hi => ?_⟩
    obtain ⟨_, _, e0, h3, _⟩ := hst i e hi
    exact h2 (r i) e0 h3
  · intro d s hd
    obtain ⟨h1, h2⟩ := slOK_mem hsl (look_mem hd)
    obtain ⟨k1, _, k3⟩ := h.sl d _ h1
    exact ⟨by rw [← hnt]; exact k1, h2, by rw [k3, SV.ren_den]⟩

/-! ### Loops -/
theorem least_of {p : Nat → Prop} : ∀ (n : Nat), p n → ∃ m, p m ∧ ∀ k, p k → m ≤ k := by
  intro n
  induction n using Nat.strongRecOn with
  | _ n ih =>
    intro hn
    by_cases h : ∃ k, k < n ∧ p k
    · obtain ⟨k, hk, hp⟩ := h
      exact ih k hk hp
    · refine ⟨n, hn, fun k hk => ?_⟩
      rcases Nat.lt_or_ge k n with hlt | hge
      · exact absurd ⟨k, hlt, hk⟩ h
      · exact hge
open Classical in
/-- A loop whose measure is that of a state that is only known to be there. -/
theorem wpIn_loop_ghost {F : Fence} {n : Nat} {c : Code} {a : Act} {w : World} {Q : Exit → Act → World → Prop} {S : Type} (I : S → Act → World → Prop) (μ : S → Nat) (s0 : S) (h0 : I s0 a w)
    (round : ∀ s a w, I s a w → c.wpIn F n P (Exit.then (fun a' w' => ∃ s', I s' a' w' ∧ μ s' < μ s) Q) a w) : (Code.loop c).wpIn F n P Q a w := by
  have ex : ∀ a w, (∃ s, I s a w) → ∃ m, (∃ s, I s a w ∧ μ s = m) ∧ ∀ k, (∃ s, I s a w ∧ μ s = k) → m ≤ k := fun a w ⟨s, hs⟩ => least_of (μ s) ⟨s, hs, rfl⟩
  refine wpIn_loop (fun a w => ∃ s, I s a w) (fun a w => if h : ∃ s, I s a w then Classical.choose (ex a w h) else 0) ⟨s0, h0⟩ ?_
  intro a w hI
  have hm := Classical.choose_spec (ex a w hI)
  obtain ⟨⟨s, hs, hμ⟩, _⟩ := hm
  refine wpIn_mono (round s a w hs) ?_
  intro e a' w' hq
  cases e with
  | normal =>
    obtain ⟨s', hs', hlt⟩ := hq
    have hI' : ∃ s, I s a' w' := ⟨s', hs'⟩
    refine ⟨hI', ?_⟩
    have h2 := (Classical.choose_spec (ex a' w' hI')).2 (μ s') ⟨s', hs', rfl⟩
    simp only [hI, hI', dif_pos]
    omega
  | _ => exact hq
theorem VCode.loopG0 {C : VX} (hC : VXOK P C) {c : Code} {st : St} {Q : Ex → St → Prop} (PG : Mem → Prop) (hPG : PG st.G.m) (S : Type) (inv : S → St) (pf : S → Prop) (μ : S → Nat) (s0 : S) (h0 : pf s0) (hw : Wk st (inv s0))
    (round : ∀ s, pf s → ∀ m, PG m → vc C P c { inv s with G := ⟨m, (inv s).G.Y, st.G.f⟩ } fun e st' => match e with
      | .normal => PG st'.G.m ∧ ∃ s', pf s' ∧ μ s' < μ s ∧ Wk st' (inv s')
      | .ret => Q .ret st'
      | .exit i => Q (.exit i) st') : VCode P (.loop c) st Q := by
  refine ⟨fun r n κ B ρ a W fx tm hY hr hκ h hwr hkp => ?_⟩
  obtain ⟨ρ0, hs0⟩ := hw.imp st.G _ _ _ ρ a W h
  refine wpIn_loop_ghost (fun s a W => pf s ∧ Keep fx tm a ∧ ∃ B ρ m, PG m ∧ κ (inv s).G.Y B ∧ st.G.m.le m ∧ Sat B.n₀ B.w B.M₀ ρ { inv s with G := ⟨m, (inv s).G.Y, st.G.f⟩ } a W) μ s0
    ⟨h0, hkp, B, ρ0, st.G.m, hPG, by rw [← hw.y]; exact hκ, Mem.le_refl _, by rw [← hw.y]; exact hs0⟩ ?_
  rintro s a W ⟨hp, hkp, B, ρ, m, hm, hκ, hG, hs⟩
  refine wpIn_mono (vc_sound hC hY c (round s hp m hm) (hr.le hG) hκ hs hwr hkp) ?_
  rintro e a' W' ⟨⟨ex, he, B', ρ', st', hκ', h1, h2, h3⟩, hkp'⟩
  cases e with
  | normal =>
    cases he
    obtain ⟨hm', s', p1, p2, p3⟩ := h3
    obtain ⟨ρ1, hs1⟩ := p3.imp st'.G _ _ _ ρ' a' W' h1
    exact ⟨s', ⟨p1, hkp', B', ρ1, st'.G.m, hm', by rw [← p3.y]; exact hκ', hG.trans h2.1, by rw [← p3.y, ← h2.2]; exact hs1⟩, p2⟩
  | ret => cases he; exact ⟨⟨.ret, rfl, B', ρ', st', hκ', h1, ⟨hG.trans h2.1, h2.2⟩, h3⟩, hkp'⟩
  | exit i => cases he; exact ⟨⟨.exit i, rfl, B', ρ', st', hκ', h1, ⟨hG.trans h2.1, h2.2⟩, h3⟩, hkp'⟩
  | goto => cases he
  | panic => cases he
  | outgrown => cases he
theorem VCode.loop0 {C : VX} (hC : VXOK P C) {c : Code} {st : St} {Q : Ex → St → Prop} (S : Type) (inv : S → St) (pf : S → Prop) (μ : S → Nat) (s0 : S) (h0 : pf s0) (hw : Wk st (inv s0))
    (round : ∀ s, pf s → ∀ m, vc C P c { inv s with G := ⟨m, (inv s).G.Y, st.G.f⟩ } fun e st' => match e with
      | .normal => ∃ s', pf s' ∧ μ s' < μ s ∧ Wk st' (inv s')
      | .ret => Q .ret st'
      | .exit i => Q (.exit i) st') : VCode P (.loop c) st Q := by
  refine ⟨fun r n κ B ρ a W fx tm hY hr hκ h hwr hkp => ?_⟩
  obtain ⟨ρ0, hs0⟩ := hw.imp st.G _ _ _ ρ a W h
  refine wpIn_loop_ghost (fun s a W => pf s ∧ Keep fx tm a ∧ ∃ B ρ m, κ (inv s).G.Y B ∧ st.G.m.le m ∧ Sat B.n₀ B.w B.M₀ ρ { inv s with G := ⟨m, (inv s).G.Y, st.G.f⟩ } a W) μ s0
    ⟨h0, hkp, B, ρ0, st.G.m, by rw [← hw.y]; exact hκ, Mem.le_refl _, by rw [← hw.y]; exact hs0⟩ ?_
  rintro s a W ⟨hp, hkp, B, ρ, m, hκ, hG, hs⟩
  refine wpIn_mono (vc_sound hC hY c (round s hp m) (hr.le hG) hκ hs hwr hkp) ?_
  rintro e a' W' ⟨⟨ex, he, B', ρ', st', hκ', h1, h2, h3⟩, hkp'⟩
  cases e with
  | normal =>
    cases he
    obtain ⟨s', p1, p2, p3⟩ := h3
    obtain ⟨ρ1, hs1⟩ := p3.imp st'.G _ _ _ ρ' a' W' h1
    exact ⟨s', ⟨p1, hkp', B', ρ1, st'.G.m, by rw [← p3.y]; exact hκ', hG.trans h2.1, by rw [← p3.y, ← h2.2]; exact hs1⟩, p2⟩
  | ret => cases he; exact ⟨⟨.ret, rfl, B', ρ', st', hκ', h1, ⟨hG.trans h2.1, h2.2⟩, h3⟩, hkp'⟩
  | exit i => cases he; exact ⟨⟨.exit i, rfl, B', ρ', st', hκ', h1, ⟨hG.trans h2.1, h2.2⟩, h3⟩, hkp'⟩
  | goto => cases he
  | panic => cases he
  | outgrown => cases he
/-! ### Loops; their states written out -/
/-- The state with these ghosts, written out. -/
def St.flatG (st : St) (m f : Mem) (k : St → Prop) : Prop :=
  match st with
  | ⟨sl, ow, nx, M, nt, ⟨_, Y, _⟩⟩ => k ⟨sl, ow, nx, M, nt, ⟨m, Y, f⟩⟩
theorem flatG_iff {st : St} {m f : Mem} {k : St → Prop} (h : st.flatG m f k) : k { st with G := ⟨m, st.G.Y, f⟩ } := by cases st; exact h
/-- The ghosts of a state, handed on. -/
def St.withYf (st : St) (k : Option (Nat × List (List Value)) → Mem → Prop) : Prop :=
  match st with
  | ⟨_, _, _, _, _, ⟨_, Y, f⟩⟩ => k Y f
theorem withYf_iff {st : St} {k : Option (Nat × List (List Value)) → Mem → Prop} (h : st.withYf k) : k st.G.Y st.G.f := by cases st; exact h
def St.flatY (st : St) (m : Mem) (Y : Option (Nat × List (List Value))) (f : Mem) (k : St → Prop) : Prop :=
  match st with
  | ⟨sl, ow, nx, M, nt, _⟩ => k ⟨sl, ow, nx, M, nt, ⟨m, Y, f⟩⟩
theorem flatY_iff {st : St} {m : Mem} {Y : Option (Nat × List (List Value))} {f : Mem} {k : St → Prop} (h : st.flatY m Y f k) : k { st with G := ⟨m, Y, f⟩ } := by cases st; exact h
def St.flatS (st : St) (sl : List (Nat × SV)) (m f : Mem) (k : St → Prop) : Prop :=
  match st with
  | ⟨_, ow, nx, M, nt, _⟩ => k ⟨sl, ow, nx, M, nt, ⟨m, none, f⟩⟩
theorem flatS_iff {st : St} {sl : List (Nat × SV)} {m f : Mem} {k : St → Prop} (h : st.flatS sl m f k) : k { st with sl := sl, G := ⟨m, none, f⟩ } := by cases st; exact h
theorem VCode.loop {C : VX} (hC : VXOK P C) {c : Code} {st : St} {Q : Ex → St → Prop} (S : Type) (inv : S → St) (pf : S → Prop) (μ : S → Nat) (s0 : S) (h0 : pf s0) (hw : Wk st (inv s0))
    (round : st.withYf fun _ f => ∀ s, pf s → ∀ m, (inv s).flatG m f fun st0 => vc C P c st0 fun e st' => match e with
      | .normal => ∃ s', pf s' ∧ μ s' < μ s ∧ Wk st' (inv s')
      | .ret => Q .ret st'
      | .exit i => Q (.exit i) st') : VCode P (.loop c) st Q :=
  VCode.loop0 hC S inv pf μ s0 h0 hw fun s hs m => flatG_iff (withYf_iff round s hs m)
theorem VCode.loopG {C : VX} (hC : VXOK P C) {c : Code} {st : St} {Q : Ex → St → Prop} (PG : Mem → Prop) (hPG : PG st.G.m) (S : Type) (inv : S → St) (pf : S → Prop) (μ : S → Nat) (s0 : S) (h0 : pf s0) (hw : Wk st (inv s0))
    (round : st.withYf fun _ f => ∀ s, pf s → ∀ m, PG m → (inv s).flatG m f fun st0 => vc C P c st0 fun e st' => match e with
      | .normal => PG st'.G.m ∧ ∃ s', pf s' ∧ μ s' < μ s ∧ Wk st' (inv s')
      | .ret => Q .ret st'
      | .exit i => Q (.exit i) st') : VCode P (.loop c) st Q :=
  VCode.loopG0 hC PG hPG S inv pf μ s0 h0 hw fun s hs m hm => flatG_iff (withYf_iff round s hs m hm)
/-! ### A function -/
/-- The arguments in their slots. -/
def argSlots : Nat → List Value → List (Nat × SV)
  | _, [] => []
  | n, v :: r => (n, .v v) :: argSlots (n + 1) r
theorem argSlots_look : ∀ (l : List Value) (n d : Nat) (s : SV), look (argSlots n l) d = some s → n ≤ d ∧ d < n + l.length ∧ ∃ v, l[d - n]? = some v ∧ s = .v v
  | [], n, d, s, h => by cases h
  | v :: r, n, d, s, h => by
    simp only [argSlots, look_cons] at h
    split at h
    · rename_i hd
      subst hd
      cases h
      exact ⟨Nat.le_refl _, by simp, v, by simp, rfl⟩
    · rename_i hd
      obtain ⟨h1, h2, v', h3, h4⟩ := argSlots_look r (n + 1) d s h
      refine ⟨by omega, by simp; omega, v', ?_, h4⟩
      have : d - n = (d - (n + 1)) + 1 := by omega
      rw [this, List.getElem?_cons_succ]
      exact h3
def st0 (args : List Value) (M : Mem) (nt : Nat) (Y : Yt) : St := { sl := argSlots 0 args, ow := [], nx := 0, M := M, nt := nt, G := ⟨fun _ => none, Y, fun _ => none⟩ }

/-- The results' symbolic values. -/
def resSV (C : VX) (st : St) : List ResultVar → Option (List SV)
  | [] => some []
  | .tmp t :: r => match look st.sl t, resSV C st r with
    | some s, some l => some (s :: l)
    | _, _ => none
  | .cell t ty :: r => match look st.sl t, look C.te ty, resSV C st r with
    | some (.box id 0), some i, some l => match st.own id with
      | some (.box _ cs) => match i.k.agg with
        | true => match vals (cs.take i.zero.length) with
          | some vs => match Nat.beq vs.length i.zero.length with
            | true => some (.v (.agg vs.toArray) :: l)
            | false => none
          | none => none
        | false => match cs with
          | s :: _ => some (s :: l)
          | [] => none
      | _ => none
    | _, _, _ => none
def resOne (tmps : Array Value) (v : ResultVar) : Sem Value :=
  match v with
  | .tmp t => pure (tmps.getD t undef)
  | .cell a t => do loadVar t (← asAddr (tmps.getD a undef))
theorem results_run {C : VX} (hC : VXOK P C) {n₀ : Nat} {w : World} {M₀ : Mem} {ρ : Env} {st : St} {tmps : Array Value} {W : World} (h : SatH n₀ w M₀ ρ st W) (hsl : ∀ d s, look st.sl d = some s → s.sc st.nx ∧ tmps[d]? = some (s.den ρ)) : ∀ (l : List ResultVar) {r : List SV}, resSV C st l = some r →
    (l.mapM (resOne tmps)).run P W = .ok (r.map (SV.den ρ)) W ∧ ∀ s ∈ r, s.sc st.nx
  | [], r, hr => by simp only [resSV, Option.some.injEq] at hr; subst hr; exact ⟨rfl, by simp⟩
  | .tmp t :: l, r, hr => by
    simp only [resSV] at hr
    split at hr
    · rename_i s l' hs hl
      simp only [Option.some.injEq] at hr
      subst hr
      obtain ⟨i1, i2⟩ := results_run hC h hsl l hl
      obtain ⟨j1, j2⟩ := hsl t s hs
      refine ⟨?_, ?_⟩
      · simp only [List.mapM_cons, resOne, Sem.run_bind, Sem.run_pure, Result.andThen_ok, i1]
        simp [j2]
      · intro x hx
        rcases List.mem_cons.1 hx with rfl | hx
        · exact j1
        · exact i2 x hx
    · cases hr
  | .cell t ty :: l, r, hr => by
    simp only [resSV] at hr
    split at hr
    · rename_i id i l' hs hi hl
      obtain ⟨i1, i2⟩ := results_run hC h hsl l hl
      obtain ⟨j1, j2⟩ := hsl t _ hs
      have hT := hC.te _ _ hi
      split at hr
      · rename_i t' cs hid
        have hcell : ∀ s, s.sc st.nx → (Instr.loadAt ty ((SV.box id 0).den ρ)).run P W = .ok (s.den ρ) W →
            ((ResultVar.cell t ty :: l).mapM (resOne tmps)).run P W = .ok ((s :: l').map (SV.den ρ)) W ∧ ∀ x ∈ s :: l', x.sc st.nx := by
          intro s hsc hrun
          refine ⟨?_, ?_⟩
          · have hd : tmps.getD t undef = (SV.box id 0).den ρ := by simp [j2]
            simp only [Instr.loadAt, SV.den, Instr.sureAddr, Sem.run_bind, Sem.run_pure, Result.andThen_ok] at hrun
            simp only [List.mapM_cons, resOne, Sem.run_bind, hd, SV.den, asAddr, Sem.run_pure, Result.andThen_ok, hrun, i1]
            rfl
          · intro x hx
            rcases List.mem_cons.1 hx with rfl | hx
            · exact hsc
            · exact i2 x hx
        split at hr
        · rename_i hag
          split at hr
          · rename_i vs hv
            split at hr
            · rename_i hb
              simp only [Option.some.injEq] at hr
              subst hr
              have hd := vals_den (ρ := ρ) hv
              refine hcell _ trivial (ld_agg hT hag (Nat.eq_of_beq_eq_true hb) (fun j v hj => ?_))
              rw [Addr.add_none, box_cell h hid]
              rw [← hd] at hj
              simp only [List.getElem?_map, List.getElem?_take] at hj
              split at hj
              · simpa using hj
              · cases hj
            · cases hr
          · cases hr
        · rename_i hag
          split at hr
          · rename_i s cs'
            simp only [Option.some.injEq] at hr
            subst hr
            exact hcell s ((h.own id _ hid).2.1 s (by simp)) (ld_sc hT hag (by rw [box_cell h hid]; rfl))
          · cases hr
      · cases hr
    · cases hr

/-- What a function hands back: its results, plain; its own slices among them made immutable. -/
def fin (C : VX) (fn : Func) (R : List Value → Mem → Prop) (e : Ex) (st : St) : Prop :=
  match e with
  | .exit _ => VStuck 170
  | _ => match resSV C st fn.results.toList with
    | some rs => frzAll true (fun st rs => match vals rs with
        | some vs => st.withM fun M => VFact (R vs M) True
        | none => VStuck 171) 12 st rs
    | none => VStuck 172

theorem tuple_ret (rs : List Value) : (if h : rs.toArray.size = 1 then rs.toArray[0] else .tuple rs.toArray) = ret rs := by
  match rs with
  | [] => rfl
  | [x] => rfl
  | x :: y :: r => simp [ret]
theorem results_ret (fn : Func) (tmps : Array Value) (P : Program) (r : List Value) (W : World) (h : (fn.results.toList.mapM (resOne tmps)).run P W = .ok r W) : (results fn tmps).run P W = .ok (ret r) W := by
  unfold results
  rw [Array.mapM_eq_mapM_toList]
  show (do let vs ← List.toArray <$> List.mapM (resOne tmps) fn.results.toList; pure (if h : vs.size = 1 then vs[0] else Value.tuple vs) : Sem Value).run P W = _
  simp only [Sem.run_bind, Sem.run_map, h, Result.andThen_ok, Sem.run_pure]
  show Result.ok (if h : r.toArray.size = 1 then r.toArray[0] else .tuple r.toArray) W = _
  rw [tuple_ret]
/-- A mark's block is shut. -/
theorem SatH.unmark {n₀ : Nat} {w : World} {M₀ : Mem} {ρ : Env} {st : St} {W : World} (h : SatH n₀ w M₀ ρ st W) {D : Nat} {o : Obj} (hD : st.G.m D = some o) (hn : n₀ ≤ D) (hf : st.G.f D = none) (o' : Obj) :
    SatH n₀ w M₀ ρ { st with G := ⟨fun b => if b = D then none else st.G.m b, st.G.Y, st.G.f⟩ } (W.putObj D o') := by
  obtain ⟨hc, hh, hm⟩ := h.pin D o hD
  have hg := grownBy_putObj' W D o'
  have hne : ∀ i e b, st.own i = some e → ob (ρ i) = some b → b ≠ D := fun i e b hi hb he => by
    subst he
    obtain ⟨_, _, c, t, fr, h2⟩ := (h.own i e hi).2.2.lt b hb
    rw [h2] at hh; cases hh; cases hc
  refine ⟨h.below.grown hg h.size (fun k hk => by cases hk; exact hn), Nat.le_trans h.size hg.size, ?_, ?_, h.sep, h.msep, ?_, h.mlow, ?_⟩
  · intro b x hb
    have hb' := h.mem b x hb
    rw [hg.block b (Array.getElem?_eq_some_iff.1 hb').1 (fun e => by cases e; rw [hm] at hb; cases hb)]
    exact hb'
  · intro i e hi
    obtain ⟨g1, g2, g3⟩ := h.own i e hi
    refine ⟨g1, g2, g3.keep (Agree.refl _ _) g1 g2 fun b hb => hg.block b (g3.lt b hb).2.1 (fun e' => ?_)⟩
    exact hne i e b hi hb (by cases e'; rfl)
  · intro b x hb
    simp only at hb
    split at hb
    · cases hb
    · rename_i hbD
      obtain ⟨h1, h2, h3⟩ := h.pin b x hb
      exact ⟨h1, by rw [hg.block b (Array.getElem?_eq_some_iff.1 h2).1 (fun e => hbD (by cases e; rfl))]; exact h2, h3⟩
  · intro b x hb
    obtain ⟨h2, h3⟩ := h.fpin b x hb
    have hne' : ¬ (some b = some D) := fun e => by
      cases e
      have hb' : st.G.f D = some x := hb
      rw [hf] at hb'; cases hb'
    exact ⟨by rw [hg.block b (Array.getElem?_eq_some_iff.1 h2).1 hne']; exact h2, h3⟩
theorem Marks.del {n₀ : Nat} {G : Mem} {D : Nat} : ∀ {ds : List Deferred}, Marks n₀ G ds → (∀ d' ∈ ds, d'.target = .collected D → False) → Marks n₀ (fun b => if b = D then none else G b) ds
  | [], _, _ => trivial
  | d :: ds, ⟨⟨E, h1, h2, h3, h4⟩, h5⟩, hne => by
    refine ⟨⟨E, h1, ?_, h3, h4⟩, Marks.del h5 (fun d' hd' => hne d' (List.mem_cons_of_mem _ hd'))⟩
    have : E ≠ D := fun e => hne d (List.mem_cons_self) (by rw [h1, e])
    simp [this, h2]
/-- The way out: the marks are taken, the results read. -/
theorem leaves_of {n : Nat} {n₀ : Nat} {w : World} {M₀ : Mem} {fn : Func} {ρ : Env} {tmps : Array Value} {R : Ending → World → Prop} :
    ∀ (ds : List Deferred) {st st' : St} {W : World}, SatH n₀ w M₀ ρ st W → SatH n₀ w M₀ ρ st' W → st'.G = st.G → (∀ b, st.G.f b = none) → Marks n₀ st.G.m ds →
      (∀ G W', SatH n₀ w M₀ ρ { st with G := G } W' → SatH n₀ w M₀ ρ { st' with G := G } W' → ∃ v, (results fn tmps).run P W' = .ok v W' ∧ R (.returned v) W') →
      LeavesInM (Fw none) n P fn tmps R ds .returning W
  | [], st, st', W, h, h', hG, _, _, hend => hend st.G W h (by rw [← hG]; exact h')
  | d :: ds, st, st', W, h, h', hG, hf, ⟨⟨D, h1, h2, h3, h4⟩, h5⟩, hend => by
    refine ⟨by simp, .inl ⟨D, W.putObj D (.deferred none), by rw [h1], run_takeDeferred (h.pin D _ h2).2.1, ?_⟩⟩
    refine leaves_of ds (h.unmark h2 h3 (hf _) _) (h'.unmark (by rw [hG]; exact h2) h3 (by rw [hG]; exact hf _) _) (by simp [hG]) hf (h5.del h4) ?_
    intro G W' g1 g2
    exact hend G W' g1 g2

theorem resSV_G (C : VX) (st : St) (G : Gh) : ∀ (l : List ResultVar), resSV C { st with G := G } l = resSV C st l
  | [] => rfl
  | .tmp t :: r => by simp only [resSV, resSV_G C st G r]
  | .cell t ty :: r => by
    simp only [resSV, resSV_G C st G r]
    rfl

theorem wr_false : ∀ c : Code, wr (fun _ => False) c
  | .region .. => fun _ _ _ _ h => h
  | .seq a b => ⟨wr_false a, wr_false b⟩
  | .cond _ a b => ⟨wr_false a, wr_false b⟩
  | .block _ c => wr_false c
  | .loop c => wr_false c
  | .scope c => wr_false c
  | .skip => trivial
  | .rangeFunc .. => trivial
  | .exit _ => trivial
  | .ret => trivial
  | .label _ => trivial
  | .goto _ => trivial
  | .refuse _ => trivial
/-- A contract, from the body's verification condition. -/
theorem Fn.of_vc {C : VX} (hC : VXOK P C) {f : Nat} {fn : Func} {c : Code} (hf : P.funcs[f]? = some fn) (hb : fn.body = some c) (hname : (fn.name == "runtime.NumGoroutine") = false)
    {args : List Value} (hnt : Nat.ble args.length fn.ntmps = true) {M : Mem} {R : List Value → Mem → Prop} (h : vc C P c (st0 args M fn.ntmps none) (fin C fn R)) : Fn P f args M R := by
  refine ⟨Go.Proofs.enters_of hf hname hb, fun W hW => ?_⟩
  refine (callsIn_wide (n := 100)).1 (callsIn_of_wp_marks hf hb trivial ?_ rfl)
  have hle := Nat.le_of_ble_eq_true hnt
  have hs0 : Sat W.heap.size W M (fun _ => undef) (st0 args M fn.ntmps none) { tmps := args.toArray ++ Array.replicate (fn.ntmps - args.toArray.size) undef, defers := [] } W := by
    refine ⟨⟨Below.refl _ _, Nat.le_refl _, hW, ?_, ?_, ?_, ?_, fun _ _ => rfl, fun b o hb => by cases hb⟩, by simp [st0]; omega, ?_, trivial⟩
    · intro id e he; simp [St.own, st0, look] at he
    · intro i j ei ej hi; simp [St.own, st0, look] at hi
    · intro i e b hi; simp [St.own, st0, look] at hi
    · intro b o hb; cases hb
    · intro d s hd
      obtain ⟨h1, h2, v, h3, rfl⟩ := argSlots_look args 0 d s hd
      refine ⟨by simp [st0]; omega, trivial, ?_⟩
      simp only [Nat.sub_zero] at h3
      rw [Array.getElem?_append_left (by simp; omega)]
      simp only [SV.den, List.getElem?_toArray]
      exact h3
  have := vc_sound (r := none) (n := 100) hC (κ := fun Y B => Y = none ∧ B = ⟨W.heap.size, W, M⟩) (fun l args rest B M W hκ => by cases hκ.1) (fx := fun _ => False) (tm := #[]) (B := ⟨W.heap.size, W, M⟩) c h (fun l hl => by cases hl) ⟨rfl, rfl⟩ hs0 (wr_false c) (fun d hd => hd.elim)
  refine wpIn_mono this ?_
  rintro e a' W' ⟨⟨ex, he, B, ρ, st, ⟨_, rfl⟩, h1, h2, h3⟩, _⟩
  have main : (e = .normal ∨ e = .ret) → ex ≠ .exit 0 ∧ True → LeavesInM (Fw none) 100 P fn a'.tmps (fun e W'' => ∃ rs M', e = .returned (ret rs) ∧ Below W.heap.size W W'' ∧ M.le M' ∧ M'.ok W'' ∧ (∀ b, b < W.heap.size → M' b = M b) ∧ R rs M') a'.defers .returning W' := by
    intro hcase _
    have h3' : (match resSV C st fn.results.toList with
      | some rs => frzAll true (fun st rs => match vals rs with
          | some vs => st.withM fun M => VFact (R vs M) True
          | none => VStuck 171) 12 st rs
      | none => VStuck 172) := by
      rcases hcase with rfl | rfl <;> cases he <;> exact h3
    split at h3'
    · rename_i rs hrs
      have hsl : ∀ d s, look st.sl d = some s → s.sc st.nx ∧ a'.tmps[d]? = some (s.den ρ) := fun d s hd => ⟨(h1.sl d s hd).2.1, (h1.sl d s hd).2.2⟩
      have hres := fun (G : Gh) (W'' : World) (hS : SatH W.heap.size W M ρ { st with G := G } W'') => results_run (tmps := a'.tmps) (st := { st with G := G }) hC hS hsl fn.results.toList (r := rs) (by rw [resSV_G]; exact hrs)
      obtain ⟨st', rs', g1, g2, g3, g4, g5⟩ := frzAll_sound 12 h1 (hres st.G W' h1.h).2 h3'
      split at g5
      · rename_i vs hvs
        obtain ⟨hR, _⟩ := withM_iff g5
        refine leaves_of a'.defers h1.h g1.h g4 (fun b => by rw [h2.2]; rfl) h1.marks ?_
        intro G W'' s1 s2
        refine ⟨ret vs, ?_, vs, st'.M, rfl, s2.below, ?_, s2.mem, s2.mlow, hR⟩
        · have hr := (hres G W'' s1).1
          rw [← g2, vals_den hvs] at hr
          exact results_ret fn a'.tmps P vs W'' hr
        · intro b o hb
          have hlt := (Array.getElem?_eq_some_iff.1 (hW b o hb)).1
          rw [s2.mlow b hlt]; exact hb
      · cases g5
    · cases h3'
  cases e with
  | normal => exact main (.inl rfl) ⟨by cases he; simp, trivial⟩
  | ret => exact main (.inr rfl) ⟨by cases he; simp, trivial⟩
  | exit i => cases he; cases h3
  | goto => cases he
  | panic => cases he
  | outgrown => cases he
end Go.V
