/- The verification-condition framework, part N: loops; a function's contract from its body. -/
import Derived.Test.YtdfhnemhkpplbaaGreatDoorHa3
import Derived.Shelf.Abstract
import Derived.Test.YtdfhnemhkpplbaaGreatDoorProg
import Derived.WalkKit
set_option linter.unusedVariables false
set_option linter.unusedSimpArgs false
namespace Go.V
open Go Go.RowKit
variable {P : Program}
def At.ren (r : Nat → Nat) : At → At
 | .v x => .v x
 | .box id off => .box (r id) off
 | .row id => .row (r id)
def SV.ren (r : Nat → Nat) : SV → SV
 | .v x => .v x
 | .box id off => .box (r id) off
 | .row id => .row (r id)
 | .clo f a b => .clo f (a.map (At.ren r)) (b.map (At.ren r))
 | .tup l => .tup (l.map (At.ren r))
theorem At.ren_den (ρ : Env) (r : Nat → Nat) (a : At) : (a.ren r).den ρ = a.den (fun i => ρ (r i)) := by cases a <;> rfl
theorem SV.ren_den (ρ : Env) (r : Nat → Nat) (s : SV) : (s.ren r).den ρ = s.den (fun i => ρ (r i)) := by
 have : At.den ρ ∘ At.ren r = At.den (fun i => ρ (r i)) := funext (At.ren_den ρ r)
 cases s <;> simp [SV.ren, SV.den, this]
structure Wk (st st' : St) : Prop where
 imp : ∀ G n₀ w M₀ ρ a W, Sat n₀ w M₀ ρ { st with G := G } a W → ∃ ρ', Sat n₀ w M₀ ρ' { st' with G := G } a W
 y : st.G.Y = st'.G.Y
 m : st.M = st'.M
def AtB (nx : Nat) : At → Bool
 | .v _ => true
 | .box id _ => Nat.blt id nx
 | .row id => Nat.blt id nx
def AtsB (nx : Nat) : List At → Bool
 | [] => true
 | a :: r => match AtB nx a with | true => AtsB nx r | false => false
def SVB (nx : Nat) : SV → Bool
 | .v _ => true
 | .box id _ => Nat.blt id nx
 | .row id => Nat.blt id nx
 | .clo _ a b => match AtsB nx a with | true => AtsB nx b | false => false
 | .tup l => AtsB nx l
theorem AtB_spec {nx : Nat} {a : At} (h : AtB nx a = true) : a.sc nx := by
 cases a with
 | v => trivial
 | box id off => exact Nat.le_of_ble_eq_true h
 | row id => exact Nat.le_of_ble_eq_true h
theorem AtsB_spec {nx : Nat} : ∀ {l : List At}, AtsB nx l = true → ∀ a ∈ l, a.sc nx
 | [], _, a, ha => by cases ha
 | x :: r, h, a, ha => by
  simp only [AtsB] at h
  split at h
  ·rename_i hx
   rcases List.mem_cons.1 ha with rfl | ha
   ·exact AtB_spec hx
   ·exact AtsB_spec h a ha
  ·cases h
theorem SVB_spec {nx : Nat} {s : SV} (h : SVB nx s = true) : s.sc nx := by
 cases s with
 | v => trivial
 | box id off => exact Nat.le_of_ble_eq_true h
 | row id => exact Nat.le_of_ble_eq_true h
 | clo f a b =>
  simp only [SVB] at h
  split at h
  ·rename_i hx; exact ⟨AtsB_spec hx, AtsB_spec h⟩
  ·cases h
 | tup l => exact AtsB_spec h
def slOK (st : St) (r : Nat → Nat) (nx : Nat) : List (Nat × SV) → Prop
 | [] => True
 | (d, s) :: l => (look st.sl d = some (s.ren r) ∧ SVB nx s = true) ∧ slOK st r nx l
def cellsOK (r : Nat → Nat) (nx : Nat) : List SV → List SV → Prop
 | [], [] => True
 | s :: l, s' :: l' => (s' = s.ren r ∧ SVB nx s = true) ∧ cellsOK r nx l l'
 | _, _ => False
def entOK (st : St) (r : Nat → Nat) (nx : Nat) (id : Nat) : OE → Prop
 | .box t cs => match st.own (r id) with
  | some (.box t' cs') => t = t' ∧ cellsOK r nx cs cs'
  | _ => False
 | .row E sz n xs => match st.own (r id) with
  | some (.row E' sz' n' xs') => E = E' ∧ sz = sz' ∧ n = n' ∧ xs = xs'
  | _ => False
 | .gh t v s => match st.own (r id) with
  | some (.gh t' v' s') => (t = t' ∧ v = v') ∧ s' = s.ren r ∧ SVB nx s = true
  | _ => False
 | .vw sz b k n => match st.own (r id) with
  | some (.vw sz' b' k' n') => (sz = sz' ∧ b' = r b) ∧ (k = k' ∧ n = n') ∧ Nat.blt b nx = true
  | _ => False
 | .mp P t k e B ks => match st.own (r id) with
  | some (.mp P' t' k' e' B' ks') => (P = P' ∧ t = t' ∧ k = k') ∧ e = e' ∧ B = B' ∧ ks = ks'
  | _ => False
 | .nw B => match st.own (r id) with
  | some (.nw B') => B = B'
  | _ => False
def owOK (st : St) (r : Nat → Nat) (nx : Nat) : List (Nat × Option OE) → Prop
 | [] => True
 | (_, none) :: l => owOK st r nx l
 | (id, some e) :: l => (Nat.blt id nx = true ∧ entOK st r nx id e) ∧ owOK st r nx l
theorem cellsOK_spec {r : Nat → Nat} {nx : Nat} : ∀ {cs cs' : List SV}, cellsOK r nx cs cs' → cs' = cs.map (SV.ren r) ∧ ∀ s ∈ cs, s.sc nx
 | [], [], _ => ⟨rfl, by simp⟩
 | s :: l, s' :: l', ⟨⟨h1, h2⟩, h3⟩ => by
  obtain ⟨i1, i2⟩ := cellsOK_spec h3
  refine ⟨by simp [h1, i1], ?_⟩
  intro x hx
  rcases List.mem_cons.1 hx with rfl | hx
  ·exact SVB_spec h2
  ·exact i2 x hx
theorem look_mem {α : Type} : ∀ {l : List (Nat × α)} {d : Nat} {x : α}, look l d = some x → (d, x) ∈ l
 | [], _, _, h => by cases h
 | (k, y) :: r, d, x, h => by
  rw [look_cons] at h
  split at h
  ·rename_i hk; subst hk; cases h; exact List.mem_cons_self
  ·exact List.mem_cons_of_mem _ (look_mem h)
theorem slOK_mem {st : St} {r : Nat → Nat} {nx : Nat} : ∀ {l : List (Nat × SV)}, slOK st r nx l → ∀ {d s}, (d, s) ∈ l → look st.sl d = some (s.ren r) ∧ s.sc nx
 | [], _, d, s, h => by cases h
 | (d', s') :: l, ⟨⟨h1, h2⟩, h3⟩, d, s, h => by
  rcases List.mem_cons.1 h with h | h
  ·cases h; exact ⟨h1, SVB_spec h2⟩
  ·exact slOK_mem h3 h
theorem owOK_mem {st : St} {r : Nat → Nat} {nx : Nat} : ∀ {l : List (Nat × Option OE)}, owOK st r nx l → ∀ {id e}, (id, some e) ∈ l → id < nx ∧ entOK st r nx id e
 | [], _, _, _, h => by cases h
 | (_, none) :: l, h, id, e, hm => by
  rcases List.mem_cons.1 hm with hm | hm
  ·cases hm
  ·exact owOK_mem (l := l) h hm
 | (id', some e') :: l, ⟨⟨h1, h2⟩, h3⟩, id, e, hm => by
  rcases List.mem_cons.1 hm with hm | hm
  ·cases hm; exact ⟨Nat.le_of_ble_eq_true h1, h2⟩
  ·exact owOK_mem h3 hm
def injOK (r : Nat → Nat) : List (Nat × Option OE) → Prop
 | [] => True
 | (i, _) :: l => (∀ j ∈ l.map (·.1), i = j ∨ r i ≠ r j) ∧ injOK r l
theorem injOK_spec {r : Nat → Nat} : ∀ {l : List (Nat × Option OE)}, injOK r l → ∀ i j, i ∈ l.map (·.1) → j ∈ l.map (·.1) → i ≠ j → r i ≠ r j
 | [], _, i, j, hi, _, _ => by cases hi
 | (k, o) :: l, ⟨h1, h2⟩, i, j, hi, hj, hij => by
  simp only [List.map_cons, List.mem_cons] at hi hj
  rcases hi with rfl | hi
  ·rcases hj with rfl | hj
   ·exact absurd rfl hij
   ·exact (h1 j hj).resolve_left hij
  ·rcases hj with rfl | hj
   ·exact fun e => ((h1 i hi).resolve_left (fun e => hij e.symm)) e.symm
   ·exact injOK_spec h2 i j hi hj hij
theorem Wk.mk' {st st' : St} (r : Nat → Nat) (hsl : slOK st r st'.nx st'.sl) (how : owOK st r st'.nx st'.ow) (hinj : injOK r st'.ow) (hM : st.M = st'.M) (hnt : st.nt = st'.nt) (hy : st.G.Y = st'.G.Y) : Wk st st' := by
 refine ⟨fun G n₀ w M₀ ρ a W h => ⟨fun i => ρ (r i), ?_⟩, hy, hM⟩
 have hent : ∀ id e, st'.own id = some e → (id, some e) ∈ st'.ow := fun id e he => by
  unfold St.own at he
  split at he
  ·rename_i e' hl; cases he; exact look_mem hl
  ·cases he
 have hst : ∀ id e, st'.own id = some e → id < st'.nx ∧ e.sc st'.nx ∧ ∃ e0, st.own (r id) = some e0 ∧ (∀ W, OwnOK n₀ ρ W (r id) e0 → OwnOK n₀ (fun i => ρ (r i)) W id e) := fun id e he => by
  obtain ⟨h1, h2⟩ := owOK_mem how (hent id e he)
  cases e with
  | box t cs =>
   simp only [entOK] at h2
   split at h2
   ·rename_i t' cs' ho
    obtain ⟨rfl, hc⟩ := h2
    obtain ⟨i1, i2⟩ := cellsOK_spec hc
    refine ⟨h1, i2, _, ho, ?_⟩
    rintro W ⟨B, b1, b2, b3⟩
    refine ⟨B, b1, b2, ?_⟩
    rw [b3, i1, List.map_map]
    have : SV.den ρ ∘ SV.ren r = SV.den (fun i => ρ (r i)) := funext (SV.ren_den ρ r)
    rw [this]
   ·exact h2.elim
  | row E sz n xs =>
   simp only [entOK] at h2
   split at h2
   ·rename_i E' sz' n' xs' ho
    obtain ⟨rfl, rfl, rfl, rfl⟩ := h2
    exact ⟨h1, trivial, _, ho, fun W hW => hW⟩
   ·exact h2.elim
  | gh t v s =>
   simp only [entOK] at h2
   split at h2
   ·rename_i t' v' s' ho
    obtain ⟨⟨rfl, rfl⟩, rfl, hs⟩ := h2
    exact ⟨h1, SVB_spec hs, _, ho, fun W hW => ⟨hW.1, by rw [← SV.ren_den]; exact hW.2⟩⟩
   ·exact h2.elim
  | vw sz b k n =>
   simp only [entOK] at h2
   split at h2
   ·rename_i sz' b' k' n' ho
    obtain ⟨⟨rfl, rfl⟩, ⟨rfl, rfl⟩, hb⟩ := h2
    exact ⟨h1, Nat.le_of_ble_eq_true hb, _, ho, fun W hW => hW⟩
   ·exact h2.elim
  | mp P t k e B ks =>
   simp only [entOK] at h2
   split at h2
   ·rename_i P' t' k' e' B' ks' ho
    obtain ⟨⟨rfl, rfl, rfl⟩, rfl, rfl, rfl⟩ := h2
    exact ⟨h1, trivial, _, ho, fun W hW => hW⟩
   ·exact h2.elim
  | nw B =>
   simp only [entOK] at h2
   split at h2
   ·rename_i B' ho
    subst h2
    exact ⟨h1, trivial, _, ho, fun W hW => hW⟩
   ·exact h2.elim
 have hin : ∀ id e, st'.own id = some e → id ∈ st'.ow.map (·.1) := fun id e he => List.mem_map.2 ⟨_, hent id e he, rfl⟩
 refine ⟨⟨h.h.below, h.h.size, fun b o hb => h.h.mem b o (by rw [hM]; exact hb), ?_, ?_, ?_, ?_, fun b hb => by rw [← hM]; exact h.h.mlow b hb, ?_⟩, by rw [h.nt, hnt], ?_, h.marks⟩
 ·intro id e he
  obtain ⟨h1, h2, e0, h3, h4⟩ := hst id e he
  exact ⟨h1, h2, h4 W (h.h.own _ _ h3).2.2⟩
 ·intro i j ei ej hi hj hij b
  obtain ⟨_, _, e1, h3, _⟩ := hst i ei hi
  obtain ⟨_, _, e2, h4, _⟩ := hst j ej hj
  exact h.h.sep (r i) (r j) e1 e2 h3 h4 (injOK_spec hinj i j (hin i ei hi) (hin j ej hj) hij) b
 ·intro i e b hi hb
  obtain ⟨_, _, e1, h3, _⟩ := hst i e hi
  have := h.h.msep (r i) e1 b h3 hb
  show st'.M b = none
  rw [← hM]; exact this
 ·intro b o hb
  obtain ⟨h1, h2, h3⟩ := h.h.pin b o hb
  refine ⟨h1, h2, ?_⟩
  show st'.M b = none
  rw [← hM]; exact h3
 ·intro b o hb
  obtain ⟨h1, h2⟩ := h.h.fpin b o hb
  refine ⟨h1, fun i e hi => ?_⟩
  obtain ⟨_, _, e0, h3, _⟩ := hst i e hi
  exact h2 (r i) e0 h3
 ·intro d s hd
  obtain ⟨h1, h2⟩ := slOK_mem hsl (look_mem hd)
  obtain ⟨k1, _, k3⟩ := h.sl d _ h1
  exact ⟨by rw [← hnt]; exact k1, h2, by rw [k3, SV.ren_den]⟩
theorem least_of {p : Nat → Prop} : ∀ (n : Nat), p n → ∃ m, p m ∧ ∀ k, p k → m ≤ k := by
 intro n
 induction n using Nat.strongRecOn with
 | _ n ih =>
  intro hn
  by_cases h : ∃ k, k < n ∧ p k
  ·obtain ⟨k, hk, hp⟩ := h
   exact ih k hk hp
  ·refine ⟨n, hn, fun k hk => ?_⟩
   rcases Nat.lt_or_ge k n with hlt | hge
   ·exact absurd ⟨k, hlt, hk⟩ h
   ·exact hge
open Classical in
theorem wpIn_loop_ghost {F : Fence} {n : Nat} {c : Code} {a : Act} {w : World} {Q : Exit → Act → World → Prop} {S : Type} (I : S → Act → World → Prop) (μ : S → Nat) (s0 : S) (h0 : I s0 a w)
  (round : ∀ s a w, I s a w → c.wpIn F n P (Exit.then (fun a' w' => ∃ s', I s' a' w' ∧ μ s' < μ s) Q) a w) : (Code.loop c).wpIn F n P Q a w := by
 have ex : ∀ a w, (∃ s, I s a w) → ∃ m, (∃ s, I s a w ∧ μ s = m) ∧ ∀ k, (∃ s, I s a w ∧ μ s = k) → m ≤ k := fun a w ⟨s, hs⟩ => least_of (μ s) ⟨s, hs, rfl⟩
 refine wpIn_loop (fun a w => ∃ s, I s a w) (fun a w => if h : ∃ s, I s a w then Classical.choose (ex a w h) else 0) ⟨s0, h0⟩ ?_
 intro a w hI
 have hm := Classical.choose_spec (ex a w hI)
 obtain ⟨⟨s, hs, hμ⟩, _⟩ := hm
 refine wpIn_mono (round s a w hs) ?_
 intro e a' w' hq
 cases e with
 | normal =>
  obtain ⟨s', hs', hlt⟩ := hq
  have hI' : ∃ s, I s a' w' := ⟨s', hs'⟩
  refine ⟨hI', ?_⟩
  have h2 := (Classical.choose_spec (ex a' w' hI')).2 (μ s') ⟨s', hs', rfl⟩
  simp only [hI, hI', dif_pos]
  omega
 | _ => exact hq
theorem VCode.loopG0 {C : VX} (hC : VXOK P C) {c : Code} {st : St} {Q : Ex → St → Prop} (PG : Mem → Prop) (hPG : PG st.G.m) (S : Type) (inv : S → St) (pf : S → Prop) (μ : S → Nat) (s0 : S) (h0 : pf s0) (hw : Wk st (inv s0))
  (round : ∀ s, pf s → ∀ m, PG m → vc C P c { inv s with G := ⟨m, (inv s).G.Y, st.G.f⟩ } fun e st' => match e with
   | .normal => PG st'.G.m ∧ ∃ s', pf s' ∧ μ s' < μ s ∧ Wk st' (inv s')
   | .ret => Q .ret st'
   | .exit i => Q (.exit i) st') : VCode P (.loop c) st Q := by
 refine ⟨fun r n κ B ρ a W fx tm hY hr hκ h hwr hkp => ?_⟩
 obtain ⟨ρ0, hs0⟩ := hw.imp st.G _ _ _ ρ a W h
 refine wpIn_loop_ghost (fun s a W => pf s ∧ Keep fx tm a ∧ ∃ B ρ m, PG m ∧ κ (inv s).G.Y B ∧ st.G.m.le m ∧ Sat B.n₀ B.w B.M₀ ρ { inv s with G := ⟨m, (inv s).G.Y, st.G.f⟩ } a W) μ s0
  ⟨h0, hkp, B, ρ0, st.G.m, hPG, by rw [← hw.y]; exact hκ, Mem.le_refl _, by rw [← hw.y]; exact hs0⟩ ?_
 rintro s a W ⟨hp, hkp, B, ρ, m, hm, hκ, hG, hs⟩
 refine wpIn_mono (vc_sound hC hY c (round s hp m hm) (hr.le hG) hκ hs hwr hkp) ?_
 rintro e a' W' ⟨⟨ex, he, B', ρ', st', hκ', h1, h2, h3⟩, hkp'⟩
 cases e with
 | normal =>
  cases he
  obtain ⟨hm', s', p1, p2, p3⟩ := h3
  obtain ⟨ρ1, hs1⟩ := p3.imp st'.G _ _ _ ρ' a' W' h1
  exact ⟨s', ⟨p1, hkp', B', ρ1, st'.G.m, hm', by rw [← p3.y]; exact hκ', hG.trans h2.1, by rw [← p3.y, ← h2.2]; exact hs1⟩, p2⟩
 | ret => cases he; exact ⟨⟨.ret, rfl, B', ρ', st', hκ', h1, ⟨hG.trans h2.1, h2.2⟩, h3⟩, hkp'⟩
 | exit i => cases he; exact ⟨⟨.exit i, rfl, B', ρ', st', hκ', h1, ⟨hG.trans h2.1, h2.2⟩, h3⟩, hkp'⟩
 | goto => cases he
 | panic => cases he
 | outgrown => cases he
theorem VCode.loop0 {C : VX} (hC : VXOK P C) {c : Code} {st : St} {Q : Ex → St → Prop} (S : Type) (inv : S → St) (pf : S → Prop) (μ : S → Nat) (s0 : S) (h0 : pf s0) (hw : Wk st (inv s0))
  (round : ∀ s, pf s → ∀ m, vc C P c { inv s with G := ⟨m, (inv s).G.Y, st.G.f⟩ } fun e st' => match e with
   | .normal => ∃ s', pf s' ∧ μ s' < μ s ∧ Wk st' (inv s')
   | .ret => Q .ret st'
   | .exit i => Q (.exit i) st') : VCode P (.loop c) st Q := by
 refine ⟨fun r n κ B ρ a W fx tm hY hr hκ h hwr hkp => ?_⟩
 obtain ⟨ρ0, hs0⟩ := hw.imp st.G _ _ _ ρ a W h
 refine wpIn_loop_ghost (fun s a W => pf s ∧ Keep fx tm a ∧ ∃ B ρ m, κ (inv s).G.Y B ∧ st.G.m.le m ∧ Sat B.n₀ B.w B.M₀ ρ { inv s with G := ⟨m, (inv s).G.Y, st.G.f⟩ } a W) μ s0
  ⟨h0, hkp, B, ρ0, st.G.m, by rw [← hw.y]; exact hκ, Mem.le_refl _, by rw [← hw.y]; exact hs0⟩ ?_
 rintro s a W ⟨hp, hkp, B, ρ, m, hκ, hG, hs⟩
 refine wpIn_mono (vc_sound hC hY c (round s hp m) (hr.le hG) hκ hs hwr hkp) ?_
 rintro e a' W' ⟨⟨ex, he, B', ρ', st', hκ', h1, h2, h3⟩, hkp'⟩
 cases e with
 | normal =>
  cases he
  obtain ⟨s', p1, p2, p3⟩ := h3
  obtain ⟨ρ1, hs1⟩ := p3.imp st'.G _ _ _ ρ' a' W' h1
  exact ⟨s', ⟨p1, hkp', B', ρ1, st'.G.m, by rw [← p3.y]; exact hκ', hG.trans h2.1, by rw [← p3.y, ← h2.2]; exact hs1⟩, p2⟩
 | ret => cases he; exact ⟨⟨.ret, rfl, B', ρ', st', hκ', h1, ⟨hG.trans h2.1, h2.2⟩, h3⟩, hkp'⟩
 | exit i => cases he; exact ⟨⟨.exit i, rfl, B', ρ', st', hκ', h1, ⟨hG.trans h2.1, h2.2⟩, h3⟩, hkp'⟩
 | goto => cases he
 | panic => cases he
 | outgrown => cases he
def St.flatG (st : St) (m f : Mem) (k : St → Prop) : Prop :=
 match st with
 | ⟨sl, ow, nx, M, nt, ⟨_, Y, _⟩⟩ => k ⟨sl, ow, nx, M, nt, ⟨m, Y, f⟩⟩
theorem flatG_iff {st : St} {m f : Mem} {k : St → Prop} (h : st.flatG m f k) : k { st with G := ⟨m, st.G.Y, f⟩ } := by cases st; exact h
def St.withYf (st : St) (k : Option (Lp × List (List Value)) → Mem → Prop) : Prop :=
 match st with
 | ⟨_, _, _, _, _, ⟨_, Y, f⟩⟩ => k Y f
theorem withYf_iff {st : St} {k : Option (Lp × List (List Value)) → Mem → Prop} (h : st.withYf k) : k st.G.Y st.G.f := by cases st; exact h
def St.flatY (st : St) (m : Mem) (Y : Option (Lp × List (List Value))) (f : Mem) (k : St → Prop) : Prop :=
 match st with
 | ⟨sl, ow, nx, M, nt, _⟩ => k ⟨sl, ow, nx, M, nt, ⟨m, Y, f⟩⟩
theorem flatY_iff {st : St} {m : Mem} {Y : Option (Lp × List (List Value))} {f : Mem} {k : St → Prop} (h : st.flatY m Y f k) : k { st with G := ⟨m, Y, f⟩ } := by cases st; exact h
def St.flatS (st : St) (sl : List (Nat × SV)) (m f : Mem) (k : St → Prop) : Prop :=
 match st with
 | ⟨_, ow, nx, M, nt, _⟩ => k ⟨sl, ow, nx, M, nt, ⟨m, none, f⟩⟩
theorem flatS_iff {st : St} {sl : List (Nat × SV)} {m f : Mem} {k : St → Prop} (h : st.flatS sl m f k) : k { st with sl := sl, G := ⟨m, none, f⟩ } := by cases st; exact h
theorem VCode.loop {C : VX} (hC : VXOK P C) {c : Code} {st : St} {Q : Ex → St → Prop} (S : Type) (inv : S → St) (pf : S → Prop) (μ : S → Nat) (s0 : S) (h0 : pf s0) (hw : Wk st (inv s0))
  (round : st.withYf fun _ f => ∀ s, pf s → ∀ m, (inv s).flatG m f fun st0 => vc C P c st0 fun e st' => match e with
   | .normal => ∃ s', pf s' ∧ μ s' < μ s ∧ Wk st' (inv s')
   | .ret => Q .ret st'
   | .exit i => Q (.exit i) st') : VCode P (.loop c) st Q :=
 VCode.loop0 hC S inv pf μ s0 h0 hw fun s hs m => flatG_iff (withYf_iff round s hs m)
theorem VCode.loopG {C : VX} (hC : VXOK P C) {c : Code} {st : St} {Q : Ex → St → Prop} (PG : Mem → Prop) (hPG : PG st.G.m) (S : Type) (inv : S → St) (pf : S → Prop) (μ : S → Nat) (s0 : S) (h0 : pf s0) (hw : Wk st (inv s0))
  (round : st.withYf fun _ f => ∀ s, pf s → ∀ m, PG m → (inv s).flatG m f fun st0 => vc C P c st0 fun e st' => match e with
   | .normal => PG st'.G.m ∧ ∃ s', pf s' ∧ μ s' < μ s ∧ Wk st' (inv s')
   | .ret => Q .ret st'
   | .exit i => Q (.exit i) st') : VCode P (.loop c) st Q :=
 VCode.loopG0 hC PG hPG S inv pf μ s0 h0 hw fun s hs m hm => flatG_iff (withYf_iff round s hs m hm)
def argSlots : Nat → List Value → List (Nat × SV)
 | _, [] => []
 | n, v :: r => (n, .v v) :: argSlots (n + 1) r
theorem argSlots_look : ∀ (l : List Value) (n d : Nat) (s : SV), look (argSlots n l) d = some s → n ≤ d ∧ d < n + l.length ∧ ∃ v, l[d - n]? = some v ∧ s = .v v
 | [], n, d, s, h => by cases h
 | v :: r, n, d, s, h => by
  simp only [argSlots, look_cons] at h
  split at h
  ·rename_i hd
   subst hd
   cases h
   exact ⟨Nat.le_refl _, by simp, v, by simp, rfl⟩
  ·rename_i hd
   obtain ⟨h1, h2, v', h3, h4⟩ := argSlots_look r (n + 1) d s h
   refine ⟨by omega, by simp; omega, v', ?_, h4⟩
   have : d - n = (d - (n + 1)) + 1 := by omega
   rw [this, List.getElem?_cons_succ]
   exact h3
def st0 (args : List Value) (M : Mem) (nt : Nat) (Y : Yt) : St := { sl := argSlots 0 args, ow := [], nx := 0, M := M, nt := nt, G := ⟨fun _ => none, Y, fun _ => none⟩ }
def resSV (C : VX) (st : St) : List ResultVar → Option (List SV)
 | [] => some []
 | .tmp t :: r => match look st.sl t, resSV C st r with
  | some s, some l => some (s :: l)
  | _, _ => none
 | .cell t ty :: r => match look st.sl t, look C.te ty, resSV C st r with
  | some (.box id 0), some i, some l => match st.own id with
   | some (.box _ cs) => match i.k.agg with
    | true => match vals (cs.take i.zero.length) with
     | some vs => match Nat.beq vs.length i.zero.length with
      | true => some (.v (.agg vs.toArray) :: l)
      | false => none
     | none => none
    | false => match cs with
     | s :: _ => some (s :: l)
     | [] => none
   | _ => none
  | _, _, _ => none
def resOne (tmps : Array Value) (v : ResultVar) : Sem Value :=
 match v with
 | .tmp t => pure (tmps.getD t undef)
 | .cell a t => do loadVar t (← asAddr (tmps.getD a undef))
theorem results_run {C : VX} (hC : VXOK P C) {n₀ : Nat} {w : World} {M₀ : Mem} {ρ : Env} {st : St} {tmps : Array Value} {W : World} (h : SatH n₀ w M₀ ρ st W) (hsl : ∀ d s, look st.sl d = some s → s.sc st.nx ∧ tmps[d]? = some (s.den ρ)) : ∀ (l : List ResultVar) {r : List SV}, resSV C st l = some r →
  (l.mapM (resOne tmps)).run P W = .ok (r.map (SV.den ρ)) W ∧ ∀ s ∈ r, s.sc st.nx
 | [], r, hr => by simp only [resSV, Option.some.injEq] at hr; subst hr; exact ⟨rfl, by simp⟩
 | .tmp t :: l, r, hr => by
  simp only [resSV] at hr
  split at hr
  ·rename_i s l' hs hl
   simp only [Option.some.injEq] at hr
   subst hr
   obtain ⟨i1, i2⟩ := results_run hC h hsl l hl
   obtain ⟨j1, j2⟩ := hsl t s hs
   refine ⟨?_, ?_⟩
   ·simp only [List.mapM_cons, resOne, Sem.run_bind, Sem.run_pure, Result.andThen_ok, i1]
    simp [j2]
   ·intro x hx
    rcases List.mem_cons.1 hx with rfl | hx
    ·exact j1
    ·exact i2 x hx
  ·cases hr
 | .cell t ty :: l, r, hr => by
  simp only [resSV] at hr
  split at hr
  ·rename_i id i l' hs hi hl
   obtain ⟨i1, i2⟩ := results_run hC h hsl l hl
   obtain ⟨j1, j2⟩ := hsl t _ hs
   have hT := hC.te _ _ hi
   split at hr
   ·rename_i t' cs hid
    have hcell : ∀ s, s.sc st.nx → (Instr.loadAt ty ((SV.box id 0).den ρ)).run P W = .ok (s.den ρ) W →
      ((ResultVar.cell t ty :: l).mapM (resOne tmps)).run P W = .ok ((s :: l').map (SV.den ρ)) W ∧ ∀ x ∈ s :: l', x.sc st.nx := by
     intro s hsc hrun
     refine ⟨?_, ?_⟩
     ·have hd : tmps.getD t undef = (SV.box id 0).den ρ := by simp [j2]
      simp only [Instr.loadAt, SV.den, Instr.sureAddr, Sem.run_bind, Sem.run_pure, Result.andThen_ok] at hrun
      simp only [List.mapM_cons, resOne, Sem.run_bind, hd, SV.den, asAddr, Sem.run_pure, Result.andThen_ok, hrun, i1]
      rfl
     ·intro x hx
      rcases List.mem_cons.1 hx with rfl | hx
      ·exact hsc
      ·exact i2 x hx
    split at hr
    ·rename_i hag
     split at hr
     ·rename_i vs hv
      split at hr
      ·rename_i hb
       simp only [Option.some.injEq] at hr
       subst hr
       have hd := vals_den (ρ := ρ) hv
       refine hcell _ trivial (ld_agg hT hag (Nat.eq_of_beq_eq_true hb) (fun j v hj => ?_))
       rw [Addr.add_none, box_cell h hid]
       rw [← hd] at hj
       simp only [List.getElem?_map, List.getElem?_take] at hj
       split at hj
       ·simpa using hj
       ·cases hj
      ·cases hr
     ·cases hr
    ·rename_i hag
     split at hr
     ·rename_i s cs'
      simp only [Option.some.injEq] at hr
      subst hr
      exact hcell s ((h.own id _ hid).2.1 s (by simp)) (ld_sc hT hag (by rw [box_cell h hid]; rfl))
     ·cases hr
   ·cases hr
  ·cases hr
def fin (C : VX) (fn : Func) (R : List Value → Mem → Prop) (e : Ex) (st : St) : Prop :=
 match e with
 | .exit _ => VStuck 170
 | _ => match resSV C st fn.results.toList with
  | some rs => frzAll true (fun st rs => match vals rs with
    | some vs => st.withM fun M => VFact (R vs M) True
    | none => VStuck 171) 12 st rs
  | none => VStuck 172
theorem tuple_ret (rs : List Value) : (if h : rs.toArray.size = 1 then rs.toArray[0] else .tuple rs.toArray) = ret rs := by
 match rs with
 | [] => rfl
 | [x] => rfl
 | x :: y :: r => simp [ret]
theorem results_ret (fn : Func) (tmps : Array Value) (P : Program) (r : List Value) (W : World) (h : (fn.results.toList.mapM (resOne tmps)).run P W = .ok r W) : (results fn tmps).run P W = .ok (ret r) W := by
 unfold results
 rw [Array.mapM_eq_mapM_toList]
 show (do let vs ← List.toArray <$> List.mapM (resOne tmps) fn.results.toList; pure (if h : vs.size = 1 then vs[0] else Value.tuple vs) : Sem Value).run P W = _
 simp only [Sem.run_bind, Sem.run_map, h, Result.andThen_ok, Sem.run_pure]
 show Result.ok (if h : r.toArray.size = 1 then r.toArray[0] else .tuple r.toArray) W = _
 rw [tuple_ret]
theorem SatH.unmark {n₀ : Nat} {w : World} {M₀ : Mem} {ρ : Env} {st : St} {W : World} (h : SatH n₀ w M₀ ρ st W) {D : Nat} {o : Obj} (hD : st.G.m D = some o) (hn : n₀ ≤ D) (hf : st.G.f D = none) (o' : Obj) :
  SatH n₀ w M₀ ρ { st with G := ⟨fun b => if b = D then none else st.G.m b, st.G.Y, st.G.f⟩ } (W.putObj D o') := by
 obtain ⟨hc, hh, hm⟩ := h.pin D o hD
 have hg := grownBy_putObj' W D o'
 have hne : ∀ i e b, st.own i = some e → ob (ρ i) = some b → b ≠ D := fun i e b hi hb he => by
  subst he
  obtain ⟨_, _, o2, h2, ho⟩ := (h.own i e hi).2.2.lt b hb
  rw [h2] at hh; cases hh; rw [ho] at hc; cases hc
 refine ⟨h.below.grown hg h.size (fun k hk => by cases hk; exact hn), Nat.le_trans h.size hg.size, ?_, ?_, h.sep, h.msep, ?_, h.mlow, ?_⟩
 ·intro b x hb
  have hb' := h.mem b x hb
  rw [hg.block b (Array.getElem?_eq_some_iff.1 hb').1 (fun e => by cases e; rw [hm] at hb; cases hb)]
  exact hb'
 ·intro i e hi
  obtain ⟨g1, g2, g3⟩ := h.own i e hi
  refine ⟨g1, g2, g3.keep (Agree.refl _ _) g1 g2 fun b hb => hg.block b (g3.lt b hb).2.1 (fun e' => ?_)⟩
  exact hne i e b hi hb (by cases e'; rfl)
 ·intro b x hb
  simp only at hb
  split at hb
  ·cases hb
  ·rename_i hbD
   obtain ⟨h1, h2, h3⟩ := h.pin b x hb
   exact ⟨h1, by rw [hg.block b (Array.getElem?_eq_some_iff.1 h2).1 (fun e => hbD (by cases e; rfl))]; exact h2, h3⟩
 ·intro b x hb
  obtain ⟨h2, h3⟩ := h.fpin b x hb
  have hne' : ¬ (some b = some D) := fun e => by
   cases e
   have hb' : st.G.f D = some x := hb
   rw [hf] at hb'; cases hb'
  exact ⟨by rw [hg.block b (Array.getElem?_eq_some_iff.1 h2).1 hne']; exact h2, h3⟩
theorem Marks.del {n₀ : Nat} {G : Mem} {D : Nat} : ∀ {ds : List Deferred}, Marks n₀ G ds → (∀ d' ∈ ds, d'.target = .collected D → False) → Marks n₀ (fun b => if b = D then none else G b) ds
 | [], _, _ => trivial
 | d :: ds, ⟨⟨E, h1, h2, h3, h4⟩, h5⟩, hne => by
  refine ⟨⟨E, h1, ?_, h3, h4⟩, Marks.del h5 (fun d' hd' => hne d' (List.mem_cons_of_mem _ hd'))⟩
  have : E ≠ D := fun e => hne d (List.mem_cons_self) (by rw [h1, e])
  simp [this, h2]
theorem leaves_of {n : Nat} {n₀ : Nat} {w : World} {M₀ : Mem} {fn : Func} {ρ : Env} {tmps : Array Value} {R : Ending → World → Prop} :
  ∀ (ds : List Deferred) {st st' : St} {W : World}, SatH n₀ w M₀ ρ st W → SatH n₀ w M₀ ρ st' W → st'.G = st.G → (∀ b, st.G.f b = none) → Marks n₀ st.G.m ds →
   (∀ G W', SatH n₀ w M₀ ρ { st with G := G } W' → SatH n₀ w M₀ ρ { st' with G := G } W' → ∃ v, (results fn tmps).run P W' = .ok v W' ∧ R (.returned v) W') →
   LeavesInM (Fw none) n P fn tmps R ds .returning W
 | [], st, st', W, h, h', hG, _, _, hend => hend st.G W h (by rw [← hG]; exact h')
 | d :: ds, st, st', W, h, h', hG, hf, ⟨⟨D, h1, h2, h3, h4⟩, h5⟩, hend => by
  refine ⟨by simp, .inl ⟨D, W.putObj D (.deferred none), by rw [h1], run_takeDeferred (h.pin D _ h2).2.1, ?_⟩⟩
  refine leaves_of ds (h.unmark h2 h3 (hf _) _) (h'.unmark (by rw [hG]; exact h2) h3 (by rw [hG]; exact hf _) _) (by simp [hG]) hf (h5.del h4) ?_
  intro G W' g1 g2
  exact hend G W' g1 g2
theorem resSV_G (C : VX) (st : St) (G : Gh) : ∀ (l : List ResultVar), resSV C { st with G := G } l = resSV C st l
 | [] => rfl
 | .tmp t :: r => by simp only [resSV, resSV_G C st G r]
 | .cell t ty :: r => by
  simp only [resSV, resSV_G C st G r]
  rfl
theorem wr_false : ∀ c : Code, wr (fun _ => False) c
 | .region .. => fun _ _ _ _ h => h
 | .seq a b => ⟨wr_false a, wr_false b⟩
 | .cond _ a b => ⟨wr_false a, wr_false b⟩
 | .block _ c => wr_false c
 | .loop c => wr_false c
 | .scope c => wr_false c
 | .skip => trivial
 | .rangeFunc .. => trivial
 | .exit _ => trivial
 | .ret => trivial
 | .label _ => trivial
 | .goto _ => trivial
 | .refuse _ => trivial
theorem Fn.of_vc {C : VX} (hC : VXOK P C) {f : Nat} {fn : Func} {c : Code} (hf : P.funcs[f]? = some fn) (hb : fn.body = some c) (hname : (fn.name == "runtime.NumGoroutine") = false)
  {args : List Value} (hnt : Nat.ble args.length fn.ntmps = true) {M : Mem} {R : List Value → Mem → Prop} (h : vc C P c (st0 args M fn.ntmps none) (fin C fn R)) : Fn P f args M R := by
 refine ⟨Go.Proofs.enters_of hf hname hb, fun W hW => ?_⟩
 refine (callsIn_wide (n := 100)).1 (callsIn_of_wp_marks hf hb trivial ?_ rfl)
 have hle := Nat.le_of_ble_eq_true hnt
 have hs0 : Sat W.heap.size W M (fun _ => undef) (st0 args M fn.ntmps none) { tmps := args.toArray ++ Array.replicate (fn.ntmps - args.toArray.size) undef, defers := [] } W := by
  refine ⟨⟨Below.refl _ _, Nat.le_refl _, hW, ?_, ?_, ?_, ?_, fun _ _ => rfl, fun b o hb => by cases hb⟩, by simp [st0]; omega, ?_, trivial⟩
  ·intro id e he; simp [St.own, st0, look] at he
  ·intro i j ei ej hi; simp [St.own, st0, look] at hi
  ·intro i e b hi; simp [St.own, st0, look] at hi
  ·intro b o hb; cases hb
  ·intro d s hd
   obtain ⟨h1, h2, v, h3, rfl⟩ := argSlots_look args 0 d s hd
   refine ⟨by simp [st0]; omega, trivial, ?_⟩
   simp only [Nat.sub_zero] at h3
   rw [Array.getElem?_append_left (by simp; omega)]
   simp only [SV.den, List.getElem?_toArray]
   exact h3
 have := vc_sound (r := none) (n := 100) hC (κ := fun Y B => Y = none ∧ B = ⟨W.heap.size, W, M⟩) (fun l tag args rest B M W hκ => by cases hκ.1) (fx := fun _ => False) (tm := #[]) (B := ⟨W.heap.size, W, M⟩) c h (fun l hl => by cases hl) ⟨rfl, rfl⟩ hs0 (wr_false c) (fun d hd => hd.elim)
 refine wpIn_mono this ?_
 rintro e a' W' ⟨⟨ex, he, B, ρ, st, ⟨_, rfl⟩, h1, h2, h3⟩, _⟩
 have main : (e = .normal ∨ e = .ret) → ex ≠ .exit 0 ∧ True → LeavesInM (Fw none) 100 P fn a'.tmps (fun e W'' => ∃ rs M', e = .returned (ret rs) ∧ Below W.heap.size W W'' ∧ M.le M' ∧ M'.ok W'' ∧ (∀ b, b < W.heap.size → M' b = M b) ∧ R rs M') a'.defers .returning W' := by
  intro hcase _
  have h3' : (match resSV C st fn.results.toList with
   | some rs => frzAll true (fun st rs => match vals rs with
     | some vs => st.withM fun M => VFact (R vs M) True
     | none => VStuck 171) 12 st rs
   | none => VStuck 172) := by
   rcases hcase with rfl | rfl <;> cases he <;> exact h3
  split at h3'
  ·rename_i rs hrs
   have hsl : ∀ d s, look st.sl d = some s → s.sc st.nx ∧ a'.tmps[d]? = some (s.den ρ) := fun d s hd => ⟨(h1.sl d s hd).2.1, (h1.sl d s hd).2.2⟩
   have hres := fun (G : Gh) (W'' : World) (hS : SatH W.heap.size W M ρ { st with G := G } W'') => results_run (tmps := a'.tmps) (st := { st with G := G }) hC hS hsl fn.results.toList (r := rs) (by rw [resSV_G]; exact hrs)
   obtain ⟨st', rs', g1, g2, g3, g4, g5⟩ := frzAll_sound 12 h1 (hres st.G W' h1.h).2 h3'
   split at g5
   ·rename_i vs hvs
    obtain ⟨hR, _⟩ := withM_iff g5
    refine leaves_of a'.defers h1.h g1.h g4 (fun b => by rw [h2.2]; rfl) h1.marks ?_
    intro G W'' s1 s2
    refine ⟨ret vs, ?_, vs, st'.M, rfl, s2.below, ?_, s2.mem, s2.mlow, hR⟩
    ·have hr := (hres G W'' s1).1
     rw [← g2, vals_den hvs] at hr
     exact results_ret fn a'.tmps P vs W'' hr
    ·intro b o hb
     have hlt := (Array.getElem?_eq_some_iff.1 (hW b o hb)).1
     rw [s2.mlow b hlt]; exact hb
   ·cases g5
  ·cases h3'
 cases e with
 | normal => exact main (.inl rfl) ⟨by cases he; simp, trivial⟩
 | ret => exact main (.inr rfl) ⟨by cases he; simp, trivial⟩
 | exit i => cases he; cases h3
 | goto => cases he
 | panic => cases he
 | outgrown => cases he
end Go.V
namespace Go.V
open Go Go.RowKit
variable {P : Program}
theorem TyOK.mk' {t : TypeId} {i : TI} {z : Value} {d : TypeDesc} (h1 : (P.info? t).map (fun i => (i.zero, i.size, i.bytes)) = some (some z, i.zero.length, i.bytes)) (hz : z.cells = i.zero.toArray) (h2 : P.underlying t = some d) (hf : i.k.fits d) : TyOK P t i := by
 refine ⟨?_, d, h2, hf⟩
 cases hi : P.info? t with
 | none => rw [hi] at h1; cases h1
 | some inf =>
  rw [hi] at h1
  simp only [Option.map_some, Option.some.injEq, Prod.mk.injEq] at h1
  exact ⟨inf, z, rfl, h1.2.1, h1.1, hz, h1.2.2⟩
theorem teOK_nil : TEOK P [] := fun t i h => by cases h
theorem teOK_cons {t : TypeId} {i : TI} {l : List (Nat × TI)} (h : TyOK P t i) (hl : TEOK P l) : TEOK P ((t, i) :: l) := fun t' i' h' => by
 rw [look_cons] at h'
 split at h'
 ·rename_i e; subst e; cases h'; exact h
 ·exact hl _ _ h'
theorem equalIn_int {t : TypeId} {k : IntKind} (hd : P.underlying t = some (.int k)) (d : Nat) (a b : Int) (W : World) : (Op.equalIn (d + 1) t (.int .i64 a) (.int .i64 b)).run P W = .ok (a == b) W := by
 simp [Op.equalIn, run_underlying hd]
theorem isAgg_int {t : TypeId} {k : IntKind} (hd : P.underlying t = some (.int k)) (W : World) : (isAgg t).run P W = .ok false W := by
 unfold isAgg
 simp [run_underlying hd]
theorem eq2_of {t : TypeId} {f1 f2 : Field} {k1 k2 : IntKind} (hu : P.underlying t = some (.struct #[f1, f2])) (n1 : (f1.name == "_") = false) (n2 : (f2.name == "_") = false) (o1 : f1.offset = 0) (o2 : f2.offset = 1)
  (u1 : P.underlying f1.type = some (.int k1)) (u2 : P.underlying f2.type = some (.int k2)) (hg : P.eqGuardType P.depth t = false) (hs : P.stoodInHeld t = false)
  (op : BinOp) (x y x' y' : Int) (W : World) (hop : op = .eql ∨ op = .neq) (u v : Operand) :
  (do eqGuard op t u v (.agg #[.int .i64 x, .int .i64 y]) (.agg #[.int .i64 x', .int .i64 y']); binOp op t (.agg #[.int .i64 x, .int .i64 y]) (.agg #[.int .i64 x', .int .i64 y']) : Sem Value).run P W
   = .ok (.bool (eqRes op (x == x' && y == y'))) W := by
 have hguard : (eqGuard op t u v (.agg #[.int .i64 x, .int .i64 y]) (.agg #[.int .i64 x', .int .i64 y'])).run P W = .ok () W := by
  rcases hop with rfl | rfl <;> simp [eqGuard, run_program, hg]
 have hp : ∀ (f : Field) (k : IntKind) (hk : P.underlying f.type = some (.int k)) (a b : Value) (W : World), (part f.type #[a, b] 0).run P W = .ok a W ∧ (part f.type #[a, b] 1).run P W = .ok b W := fun f k hk a b W => by
  simp [part, isAgg_int hk]
 have hm1 : ¬ f1.name = "_" := by simpa using n1
 have hm2 : ¬ f2.name = "_" := by simpa using n2
 have heq : (Op.equalIn 10000 t (.agg #[.int .i64 x, .int .i64 y]) (.agg #[.int .i64 x', .int .i64 y'])).run P W = .ok (x == x' && y == y') W := by
  show (Op.equalIn (9999 + 1) t _ _).run P W = _
  unfold Op.equalIn
  have e1 := equalIn_int u1 9998 x x' W
  have e2 := equalIn_int u2 9998 y y' W
  simp only [Nat.reduceAdd] at e1 e2
  simp [run_underlying hu, run_program, hs, hm1, hm2, o1, o2, (hp f1 k1 u1 _ _ W).1, (hp f2 k2 u2 _ _ W).2, e1, e2]
  by_cases hx : x = x' <;> by_cases hy : y = y' <;> simp [hx, hy]
 rcases hop with rfl | rfl
 ·simp only [Sem.run_bind, hguard, Result.andThen_ok, binOp, Op.equal, Op.maxDepth, heq, Sem.run_pure, eqRes]
 ·simp only [Sem.run_bind, hguard, Result.andThen_ok, binOp, Op.equal, Op.maxDepth, heq, Sem.run_pure, eqRes]
theorem eqI_cons (x y : Int) (r s : List Int) (h : r.length = s.length) : eqI (x :: r) (y :: s) = (x == y && eqI r s) := by
 cases r with
 | nil => cases s with
  | nil => simp [eqI]
  | cons _ _ => simp at h
 | cons a r => rfl
theorem eqI_append : ∀ {a b c d : List Int}, a.length = c.length → b.length = d.length → eqI (a ++ b) (c ++ d) = (eqI a c && eqI b d)
 | [], b, [], d, _, _ => by simp [eqI]
 | [], _, _ :: _, _, h, _ => by simp at h
 | _ :: _, _, [], _, h, _ => by simp at h
 | x :: a, b, y :: c, d, h, h' => by
  have h1 : a.length = c.length := by simpa using h
  rw [List.cons_append, List.cons_append, eqI_cons _ _ _ _ (by simp [h1, h']), eqI_append h1 h', eqI_cons _ _ _ _ h1, Bool.and_assoc]
def valI (ag : Bool) (xs : List Int) : Value := match ag with
 | true => .agg (xs.map (Value.int .i64)).toArray
 | false => .int .i64 (xs.headD 0)
structure EqT (P : Program) (t n d0 : Nat) (ag : Bool) : Prop where
 agg : ∀ W, (isAgg t).run P W = .ok ag W
 size : ag = true → ∀ W, (sizeOf t).run P W = .ok n W
 one : ag = false → n = 1
 eq : ∀ d, d0 ≤ d → ∀ xs ys : List Int, xs.length = n → ys.length = n → ∀ W, (Op.equalIn d t (valI ag xs) (valI ag ys)).run P W = .ok (eqI xs ys) W
theorem EqT.part {t n d0 : Nat} {ag : Bool} (h : EqT P t n d0 ag) {xs : List Int} {o : Nat} (ho : o + n ≤ xs.length) (W : World) : (part t (xs.map (Value.int .i64)).toArray o).run P W = .ok (valI ag ((xs.drop o).take n)) W := by
 unfold Go.part
 simp only [Sem.run_bind, h.agg W, Result.andThen_ok]
 cases ag with
 | true =>
  simp only [if_true, Sem.run_bind, h.size rfl W, Result.andThen_ok, Sem.run_pure, valI]
  congr 3
  simp [List.drop_take, List.map_take, List.map_drop]
 | false =>
  have hn := h.one rfl
  subst hn
  have hlt : o < xs.length := by omega
  simp [valI, hlt]
  cases hd : xs.drop o with
  | nil => have := congrArg List.length hd; simp at this; omega
  | cons a r =>
   have : xs[o] = a := by
    have := List.drop_eq_getElem_cons hlt
    rw [hd] at this
    exact (List.cons.inj this).1.symm
   simp [this]
theorem EqT.int {t : TypeId} (hu : P.underlying t = some (.int .i64)) : EqT P t 1 1 false := by
 refine ⟨isAgg_int hu, (fun h => by cases h), fun _ => rfl, fun d hd xs ys hx hy W => ?_⟩
 obtain ⟨d, rfl⟩ : ∃ d', d = d' + 1 := ⟨d - 1, by omega⟩
 match xs, ys, hx, hy with
 | [x], [y], _, _ => simpa [valI, eqI] using equalIn_int hu d x y W
inductive Fits (P : Program) (d : Nat) : List Field → Nat → Nat → Prop
 | nil (o : Nat) : Fits P d [] o o
 | cons {f : Field} {fs : List Field} {o n e : Nat} {ag : Bool} (hn : (f.name == "_") = false) (ho : f.offset = o) (h : EqT P f.type n d ag) (r : Fits P d fs (o + n) e) : Fits P d (f :: fs) o e
theorem Fits.le {d : Nat} {fs : List Field} {o e : Nat} (h : Fits P d fs o e) : o ≤ e := by
 induction h with
 | nil => exact Nat.le_refl _
 | cons _ _ _ _ ih => omega
theorem EqT.st {t : TypeId} {fs : Array Field} {i : TI} {n d0 : Nat} (hu : P.underlying t = some (.struct fs)) (hT : TyOK P t i) (hi : i.zero.length = n) (hs : P.stoodInHeld t = false) (hf : Fits P d0 fs.toList 0 n) : EqT P t n (d0 + 1) true := by
 refine ⟨fun W => ?_, fun _ W => by rw [hT.sizeOf, hi], (fun h => by cases h), fun d hd xs ys hx hy W => ?_⟩
 ·unfold isAgg; simp [run_underlying hu]
 obtain ⟨d, rfl⟩ : ∃ d', d = d' + 1 := ⟨d - 1, by omega⟩
 have hd : d0 ≤ d := by omega
 unfold Op.equalIn
 simp only [valI, Sem.run_bind, run_underlying hu, Result.andThen_ok, run_program, hs]
 have loop : ∀ (l : List Field) (o e : Nat), Fits P d0 l o e → e ≤ n → Sem.run P (forIn (m := Sem) l ((none : Option Bool), ()) (fun (f : Field) (__s : Option Bool × Unit) =>
   if f.name ≠ "_" then do
    let __do_lift ← Go.part f.type (List.map (Value.int IntKind.i64) xs).toArray f.offset
    let __do_lift_1 ← Go.part f.type (List.map (Value.int IntKind.i64) ys).toArray f.offset
    let __do_lift ← Op.equalIn d f.type __do_lift __do_lift_1
    if (!__do_lift) = true then pure (ForInStep.done (some false, ()))
     else pure (ForInStep.yield (none, ()))
   else pure (ForInStep.yield (none, ())))) W = Result.ok (if eqI ((xs.drop o).take (e - o)) ((ys.drop o).take (e - o)) = true then (none, ()) else (some false, ())) W := by
  intro l o e hf
  induction hf with
  | nil o => intro _; simp [eqI]
  | @cons f fs o n' e ag hn ho h r ih =>
   intro he
   have hle := r.le
   have hne : f.name ≠ "_" := by simpa using hn
   rw [List.forIn_cons]
   have p1 := h.part (xs := xs) (o := o) (by omega) W
   have p2 := h.part (xs := ys) (o := o) (by omega) W
   have q := h.eq d hd ((xs.drop o).take n') ((ys.drop o).take n') (by simp; omega) (by simp; omega) W
   rw [if_pos hne]
   simp only [Sem.run_bind, ho, p1, p2, q, Result.andThen_ok]
   have split : ∀ zs : List Int, (zs.drop o).take (e - o) = (zs.drop o).take n' ++ (zs.drop (o + n')).take (e - (o + n')) := fun zs => by
    rw [show e - o = n' + (e - (o + n')) by omega, List.take_add, List.drop_drop]
   rw [split xs, split ys, eqI_append (by simp; omega) (by simp; omega)]
   cases hb : eqI ((xs.drop o).take n') ((ys.drop o).take n') with
   | true =>
    simp only [Bool.not_true, Bool.false_eq_true, if_false, Sem.run_pure, Result.andThen_ok, Bool.true_and]
    exact ih he
   | false => simp
 have h := loop fs.toList 0 n hf (Nat.le_refl _)
 rw [Array.forIn_toList] at h
 rw [if_neg (by decide)]
 simp only [Sem.run_bind, h, Result.andThen_ok]
 simp only [List.drop_zero, Nat.sub_zero]
 rw [List.take_of_length_le (by omega), List.take_of_length_le (by omega)]
 cases eqI xs ys <;> simp
theorem EqN.of {t n d : Nat} (h : EqT P t n d true) (hd : d ≤ 10000) (hg : P.eqGuardType P.depth t = false) : EqN P t n := by
 intro op xs ys W hx hy hop u v
 have hguard : (eqGuard op t u v (.agg (xs.map (Value.int .i64)).toArray) (.agg (ys.map (Value.int .i64)).toArray)).run P W = .ok () W := by
  rcases hop with rfl | rfl <;> simp [eqGuard, run_program, hg]
 have heq : (Op.equalIn 10000 t (.agg (xs.map (Value.int .i64)).toArray) (.agg (ys.map (Value.int .i64)).toArray)).run P W = .ok (eqI xs ys) W := h.eq 10000 hd xs ys hx hy W
 rcases hop with rfl | rfl
 ·simp only [Sem.run_bind, hguard, Result.andThen_ok, binOp, Op.equal, Op.maxDepth, heq, Sem.run_pure, eqRes]
 ·simp only [Sem.run_bind, hguard, Result.andThen_ok, binOp, Op.equal, Op.maxDepth, heq, Sem.run_pure, eqRes]
end Go.V
namespace Go.V
open Go Go.RowKit
variable {P : Program}
def Off (X : Nat → Prop) (W W' : World) : Prop := (∀ b, b < W.heap.size → ¬ X b → W'.heap[b]? = W.heap[b]?) ∧ W.heap.size ≤ W'.heap.size
structure Iter (P : Program) (gf : Nat) (lb : Array Value) (M : Mem) (xs : List (List Value)) : Prop where
 ent : Enters P gf
 run : ∀ (n l : Nat) (J : Nat → (Nat → Prop) → World → Prop) (Jx : World → Prop) (X : Nat → Prop) (W : World),
  (∀ k X W W', J k X W → Below W.heap.size W W' → J k X W') → (∀ W W', Jx W → Below W.heap.size W W' → Jx W') →
  (∀ k X W, J k X W → ∀ b, X b → b < W.heap.size) →
  (∀ k X W1 args, J k X W1 → xs[k]? = some args → ∀ n, YieldAt (Fw none) n P l args.toArray W1 fun e W' =>
   Off X W1 W' ∧ ((e = .returned (.bool true) ∧ ∃ X', (∀ b, X' b → X b ∨ W1.heap.size ≤ b) ∧ J (k + 1) X' W') ∨ (e = .returned (.bool false) ∧ Jx W'))) →
  J 0 X W → M.ok W → (∀ b, X b → M b = none) →
  CallsIn (Fw none) n P gf (#[.func (.yield l) #[] #[]] ++ lb) W fun e W' => (∃ v, e = .returned v) ∧ ((∃ X, J xs.length X W') ∨ Jx W')
inductive VEnd (l : Nat) (G : Gh) : Prop
 | all (h : G.Y = some ((l : Lp), []))
 | stop (h : G.Y = none)
def finI (l : Nat) (e : Ex) (st : St) : Prop :=
 match e with
 | .exit _ => VStuck 173
 | _ => match st with | ⟨_, _, _, _, _, G⟩ => VEnd l G
theorem Iter.of_vc {C : VX} (hC : VXOK P C) {f : Nat} {fn : Func} {c : Code} (hf : P.funcs[f]? = some fn) (hb : fn.body = some c) (hname : (fn.name == "runtime.NumGoroutine") = false) (hres : fn.results = #[])
  {lb : Array Value} (hnt : Nat.ble (lb.toList.length + 1) fn.ntmps = true) {M : Mem} {xs : List (List Value)} (h : ∀ l, vc C P c (st0 (.func (.yield l) #[] #[] :: lb.toList) M fn.ntmps (some (l, xs))) (finI l)) : Iter P f lb M xs := by
 refine ⟨Go.Proofs.enters_of hf hname hb, ?_⟩
 intro n l J Jx X W hJ hJx hXlt hround h0 hM hX
 have hargs : (#[Value.func (.yield l) #[] #[]] ++ lb) = (Value.func (.yield l) #[] #[] :: lb.toList).toArray := by apply Array.ext'; simp
 rw [hargs]
 have h := h l
 generalize hal : (Value.func (.yield l) #[] #[] :: lb.toList) = args at h
 have hlen : args.length = lb.toList.length + 1 := by rw [← hal]; rfl
 have hle := Nat.le_of_ble_eq_true hnt
 refine callsIn_of_wp_marks hf hb trivial ?_ rfl
 have hs0 : Sat W.heap.size W M (fun _ => undef) (st0 args M fn.ntmps (some (l, xs))) { tmps := args.toArray ++ Array.replicate (fn.ntmps - args.toArray.size) undef, defers := [] } W := by
  refine ⟨⟨Below.refl _ _, Nat.le_refl _, hM, ?_, ?_, ?_, ?_, fun _ _ => rfl, fun b o hb => by cases hb⟩, by simp [st0]; omega, ?_, trivial⟩
  ·intro id e he; simp [St.own, st0, look] at he
  ·intro i j ei ej hi; simp [St.own, st0, look] at hi
  ·intro i e b hi; simp [St.own, st0, look] at hi
  ·intro b o hb; cases hb
  ·intro d s hd
   obtain ⟨h1, h2, v, h3, rfl⟩ := argSlots_look args 0 d s hd
   refine ⟨by simp [st0]; omega, trivial, ?_⟩
   simp only [Nat.sub_zero] at h3
   rw [Array.getElem?_append_left (by simp; omega)]
   simp only [SV.den, List.getElem?_toArray]
   exact h3
 let κ : Yt → Bs → Prop := fun Y B => B.n₀ = B.w.heap.size ∧ match Y with
  | some (l', rest) => l' = (l : Lp) ∧ ∃ k X, rest = xs.drop k ∧ k ≤ xs.length ∧ J k X B.w ∧ ∀ b, X b → B.M₀ b = none
  | none => Jx B.w
 have hYOK : YOK none P κ := by
  rintro l' tag args rest B M' W1 ⟨hn, rfl, k, X, hr, hk, hj, hx⟩ hbl hsz hok hlow htag n
  obtain rfl : args = tag := htag
  have hj1 : J k X W1 := hJ _ _ _ _ hj (by rw [← hn]; exact hbl)
  have hlt := hXlt _ _ _ hj
  have hdisj : ∀ b, X b → M' b = none := fun b hb => by
   have := hlt b hb
   rw [hlow b (by omega)]
   exact hx b hb
  have hk' : k < xs.length := by
   rcases Nat.lt_or_ge k xs.length with h | h
   ·exact h
   ·rw [List.drop_eq_nil_of_le h] at hr; cases hr
  have hd := List.drop_eq_getElem_cons hk'
  rw [hd] at hr
  obtain ⟨ha, hr'⟩ := List.cons.inj hr
  obtain ⟨fn', tmps, assign, body, hy, hro⟩ := hround k X W1 args hj1 (by rw [ha]; exact List.getElem?_eq_getElem hk') n
  refine ⟨fn', tmps, assign, body, hy, hro.mono ?_⟩
  rintro e W' ⟨⟨hoff, hsz'⟩, hcase⟩
  have hok' : M'.ok W' := fun b o hb => by
   have h1 := hok b o hb
   rw [hoff b (Array.getElem?_eq_some_iff.1 h1).1 (fun hxb => by rw [hdisj b hxb] at hb; cases hb)]
   exact h1
  refine ⟨M', hok', ?_⟩
  rcases hcase with ⟨rfl, X', hx', hj'⟩ | ⟨rfl, hj'⟩
  ·refine .inl ⟨rfl, rfl, rfl, rfl, k + 1, X', hr', hk', hj', ?_⟩
   intro b hb
   rcases hx' b hb with h | h
   ·exact hdisj b h
   ·cases hm : M' b with
    | none => exact hm
    | some o =>
     have := (Array.getElem?_eq_some_iff.1 (hok b o hm)).1
     omega
  ·exact .inr ⟨rfl, rfl, rfl, hj'⟩
 have := vc_sound (r := none) (n := n) hC (κ := κ) hYOK (fx := fun _ => False) (tm := #[]) (B := ⟨W.heap.size, W, M⟩) c h (fun l hl => by cases hl)
  ⟨rfl, rfl, 0, X, rfl, Nat.zero_le _, h0, hX⟩ hs0 (wr_false c) (fun d hd => hd.elim)
 refine wpIn_mono this ?_
 rintro e a' W' ⟨⟨ex, he, B, ρ, st, hκ, h1, h2, h3⟩, _⟩
 have main : finI l .ret st → LeavesInM (Fw none) n P fn a'.tmps (fun e W' => (∃ v, e = .returned v) ∧ ((∃ X, J xs.length X W') ∨ Jx W')) a'.defers .returning W' := by
  intro h3
  refine leaves_of a'.defers h1.h h1.h rfl (fun b => by rw [h2.2]; rfl) h1.marks ?_
  intro G W'' s1 _
  refine ⟨ret [], results_ret fn a'.tmps P [] W'' (by rw [hres]; rfl), ⟨_, rfl⟩, ?_⟩
  have hbl := s1.below
  rw [hκ.1] at hbl
  obtain ⟨sl, ow, nx, M', nt, G'⟩ := st
  simp only [finI] at h3
  cases h3 with
  | all h =>
   have hκ2 := hκ.2
   rw [h] at hκ2
   obtain ⟨_, k, X, hr, hk, hj, _⟩ := hκ2
   have : k = xs.length := by
    have := congrArg List.length hr
    simp at this
    omega
   subst this
   exact .inl ⟨X, hJ _ _ _ _ hj hbl⟩
  | stop h =>
   have hκ2 := hκ.2
   rw [h] at hκ2
   exact .inr (hJx _ _ hκ2 hbl)
 cases e with
 | normal => cases he; exact main h3
 | ret => cases he; exact main h3
 | exit i => cases he; cases h3
 | goto => cases he
 | panic => cases he
 | outgrown => cases he
end Go.V
namespace Go.V
open Go Go.RowKit
variable {P : Program}
theorem Marks.but {n₀ : Nat} {G : Mem} {l : Nat} {r : Loop} (hl : G l = some (.loop r)) (o : Option Obj) : ∀ {ds : List Deferred}, Marks n₀ G ds → Marks n₀ (fun b => if b = l then o else G b) ds
 | [], _ => trivial
 | _ :: _, ⟨⟨D, h1, h2, h3, h4⟩, h5⟩ => ⟨⟨D, h1, by
   have : D ≠ l := fun e => by subst e; rw [hl] at h2; cases h2
   simp only [this, if_false]; exact h2, h3, h4⟩, Marks.but hl o h5⟩
theorem Marks.mono {n₀ : Nat} {G G' : Mem} (hG : G.le G') : ∀ {ds : List Deferred}, Marks n₀ G ds → Marks n₀ G' ds
 | [], _ => trivial
 | _ :: _, ⟨⟨D, h1, h2, h3, h4⟩, h5⟩ => ⟨⟨D, h1, hG _ _ h2, h3, h4⟩, Marks.mono hG h5⟩
theorem SatH.putAt {n₀ : Nat} {w : World} {M₀ : Mem} {ρ : Env} {st : St} {W : World} (h : SatH n₀ w M₀ ρ st W) {D : Nat} {o : Obj} (hh : W.heap[D]? = some o) (hc : isHeld o = false) (hm : st.M D = none) (hD : st.G.m D = none)
  (hf : st.G.f D = none) (hn : n₀ ≤ D) (o' : Obj) : SatH n₀ w M₀ ρ st (W.putObj D o') := by
 have hg := grownBy_putObj' W D o'
 have hne : ∀ i e b, st.own i = some e → ob (ρ i) = some b → b ≠ D := fun i e b hi hb he => by
  subst he
  obtain ⟨_, _, o2, h2, ho⟩ := (h.own i e hi).2.2.lt b hb
  rw [h2] at hh; cases hh; rw [ho] at hc; cases hc
 refine ⟨h.below.grown hg h.size (fun k hk => by cases hk; exact hn), Nat.le_trans h.size hg.size, ?_, ?_, h.sep, h.msep, ?_, h.mlow, ?_⟩
 ·intro b x hb
  have hb' := h.mem b x hb
  rw [hg.block b (Array.getElem?_eq_some_iff.1 hb').1 (fun e => by cases e; rw [hm] at hb; cases hb)]
  exact hb'
 ·intro i e hi
  obtain ⟨g1, g2, g3⟩ := h.own i e hi
  refine ⟨g1, g2, g3.keep (Agree.refl _ _) g1 g2 fun b hb => hg.block b (g3.lt b hb).2.1 (fun e' => ?_)⟩
  exact hne i e b hi hb (by cases e'; rfl)
 ·intro b x hb
  obtain ⟨h1, h2, h3⟩ := h.pin b x hb
  have hne' : ¬ (some b = some D) := fun e => by cases e; rw [hD] at hb; cases hb
  exact ⟨h1, by rw [hg.block b (Array.getElem?_eq_some_iff.1 h2).1 hne']; exact h2, h3⟩
 ·intro b x hb
  obtain ⟨h2, h3⟩ := h.fpin b x hb
  have hne' : ¬ (some b = some D) := fun e => by cases e; rw [hf] at hb; cases hb
  exact ⟨by rw [hg.block b (Array.getElem?_eq_some_iff.1 h2).1 hne']; exact h2, h3⟩
theorem SatH.pins {n₀ : Nat} {w : World} {M₀ : Mem} {ρ : Env} {st : St} {W : World} (h : SatH n₀ w M₀ ρ st W) (G : Gh) (hm : ∀ b o, G.m b = some o → isHeld o = false ∧ W.heap[b]? = some o ∧ st.M b = none)
  (hf : ∀ b o, G.f b = some o → W.heap[b]? = some o ∧ ∀ i e, st.own i = some e → ob (ρ i) ≠ some b) : SatH n₀ w M₀ ρ { st with G := G } W :=
 ⟨h.below, h.size, h.mem, h.own, h.sep, h.msep, hm, h.mlow, hf⟩
theorem SatH.rebase {n₀ : Nat} {w w' : World} {M₀ : Mem} {ρ : Env} {st : St} {W : World} (h : SatH n₀ w M₀ ρ st W) (hb : Below n₀ w' W) : SatH n₀ w' M₀ ρ st W :=
 ⟨hb, h.size, h.mem, h.own, h.sep, h.msep, h.pin, h.mlow, h.fpin⟩
def parSl : List Nat → List Value → List (Nat × SV) → List (Nat × SV)
 | p :: ps, v :: vs, sl => parSl ps vs ((p, .v v) :: sl)
 | _, _, sl => sl
theorem par_sat {n₀ : Nat} {w : World} {M₀ : Mem} {ρ : Env} {W : World} {fx : Nat → Prop} {tm : Array Value} : ∀ (ps : List Nat) (vs : List Value) {st : St} {a : Act}, Sat n₀ w M₀ ρ st a W → (∀ p ∈ ps, p < st.nt ∧ ¬ fx p) → Keep fx tm a →
  Sat n₀ w M₀ ρ { st with sl := parSl ps vs st.sl } { a with tmps := (ps.zip vs).foldl (fun t p => t.setIfInBounds p.1 p.2) a.tmps } W ∧ Keep fx tm { a with tmps := (ps.zip vs).foldl (fun t p => t.setIfInBounds p.1 p.2) a.tmps }
 | [], vs, st, a, h, _, hk => by simp only [parSl, List.zip_nil_left, List.foldl_nil]; exact ⟨h, hk⟩
 | p :: ps, [], st, a, h, _, hk => by simp only [parSl, List.zip_nil_right, List.foldl_nil]; exact ⟨h, hk⟩
 | p :: ps, v :: vs, st, a, h, hp, hk => by
  have h1 := h.put (some p) (.v v) trivial (fun t ht => by cases ht; exact (hp p (List.mem_cons_self)).1)
  have hk1 := hk.put (d := some p) (fun t ht => by cases ht; exact (hp p (List.mem_cons_self)).2) v
  simp only [parSl, List.zip_cons_cons, List.foldl_cons]
  exact par_sat ps vs h1 (fun q hq => hp q (List.mem_cons_of_mem _ hq)) hk1
def codeOf : Ex → Option Code
 | .normal => none
 | .ret => some .ret
 | .exit i => some (.exit i)
def exitOf : Ex → Exit
 | .normal => .normal
 | .ret => .ret
 | .exit i => .exit i
theorem exOf_inv {e : Exit} {ex : Ex} (h : exOf e = some ex) : e = exitOf ex := by
 cases e <;> simp [exOf] at h <;> subst h <;> rfl
theorem yok_none {r : Option Nat} (B : Bs) : YOK r P (fun Y B' => Y = none ∧ B' = B) := fun l tag args rest B M W hκ => by cases hκ.1
set_option maxHeartbeats 400000 in
open Classical in
theorem VCode.range {C : VX} (hC : VXOK P C) {g : Operand} {ps : Array Tmp} {assign body : Code} {st : St} {Q : Ex → St → Prop} {gf : Nat} {lb : Array Value} {xs : List (List Value)}
  (hg : st.ev g = some (.v (.func (.func gf) #[] lb))) (hit : Iter P gf lb st.M xs) (hlen : ∀ x ∈ xs, x.length = ps.size) (sl0 : List (Nat × SV))
  (hps : ∀ p ∈ ps.toList, p < st.nt ∧ ¬ look sl0 p ≠ none) (hwa : wr (fun d => look sl0 d ≠ none) assign) (hwb : wr (fun d => look sl0 d ≠ none) body)
  (S : Type) (inv : Nat → S → St) (pf : Nat → S → Prop) (s0 : S) (h0 : pf 0 s0) (hw : Wk { st with G := ⟨st.G.m, none, st.G.f⟩ } (inv 0 s0))
  (hinv : ∀ k s, (inv k s).sl = sl0 ∧ (inv k s).nt = st.nt)
  (round : st.withYf fun Y fQ => ∀ k s args, pf k s → xs[k]? = some args → ∀ m f, (inv k s).flatS (parSl ps.toList args sl0) m f fun st0 => vc C P assign st0 fun e st1 => match e with
   | .normal => ∀ m', st1.flatY m' none f fun st1 => vc C P body st1 fun e st2 => match e with
    | .normal => ∃ s', pf (k + 1) s' ∧ Wk st2 (inv (k + 1) s')
    | e => ∃ st3, Wk st2 st3 ∧ st3.sl = sl0 ∧ st3.nt = st.nt ∧ ∀ m, st3.flatY m Y fQ (Q e)
   | _ => False)
  (done : st.withYf fun Y f => ∀ s m, pf xs.length s → (inv xs.length s).flatY m Y f (Q .normal)) : VCode P (.rangeFunc g ps assign body) st Q := by
 refine ⟨fun r n κ B ρ a W fx tm hY hr hκ h hwr hkp => ?_⟩
 refine wpIn_rangeFunc ?_
 intro fn hfn
 -- the record, and the block for deferred calls
 obtain ⟨l, mark, W1, df, m1, henter, hL, hlW, hbW, hm1, hm1l, hmarks, hpin1⟩ : ∃ l mark W1 df m1, (Instr.enterLoop fn a.tmps ps assign body (Fw r).round).run P W = .ok (l, mark) W1 ∧
   W1.heap[l]? = some (.loop { state := .ready, pending := none, fn, tmps := a.tmps, params := ps, assign, body, defers := df }) ∧ W.heap.size ≤ l ∧ Below W.heap.size W W1 ∧ st.G.m.le m1 ∧ m1 l = none ∧ Marks B.n₀ m1 (mark ++ a.defers) ∧
   (∀ b o, m1 b = some o → isHeld o = false ∧ W1.heap[b]? = some o ∧ st.M b = none) := by
  have hMnew : ∀ b, W.heap.size ≤ b → st.M b = none := fun b hb => by
   cases hm : st.M b with
   | none => rfl
   | some o => have := (Array.getElem?_eq_some_iff.1 (h.h.mem b o hm)).1; omega
  have hGnew : ∀ b, W.heap.size ≤ b → st.G.m b = none := fun b hb => by
   cases hm : st.G.m b with
   | none => rfl
   | some o => have := (Array.getElem?_eq_some_iff.1 (h.h.pin b o hm).2.1).1; omega
  cases r with
  | none =>
   have hb1 : Below W.heap.size W (W.alloc (.deferred (some []))) := (Below.refl _ W).alloc (Nat.le_refl _) _
   have hb2 : Below W.heap.size W ((W.alloc (.deferred (some []))).alloc (.loop { state := .ready, pending := none, fn, tmps := a.tmps, params := ps, assign, body, defers := W.heap.size })) := hb1.alloc (by simp) _
   refine ⟨W.heap.size + 1, _, _, W.heap.size, fun b => if b = W.heap.size then some (.deferred (some [])) else st.G.m b, run_enterLoop_outer _ _ _ _ _, ?_, by omega, hb2, ?_, ?_, ?_, ?_⟩
   ·have := World.alloc_heap_new (W.alloc (.deferred (some []))) (.loop { state := .ready, pending := none, fn, tmps := a.tmps, params := ps, assign, body, defers := W.heap.size })
    rwa [World.size_alloc] at this
   ·intro b o hb
    simp only
    rw [if_neg (fun e => by subst e; rw [hGnew _ (Nat.le_refl _)] at hb; cases hb)]
    exact hb
   ·simp only
    rw [if_neg (by omega)]
    exact hGnew _ (by omega)
   ·refine ⟨⟨W.heap.size, rfl, by simp, h.h.size, ?_⟩, ?_⟩
    ·intro d' hd' he
     have : ∀ {ds : List Deferred}, Marks B.n₀ st.G.m ds → ∀ d' ∈ ds, d'.target = .collected W.heap.size → False := by
      intro ds
      induction ds with
      | nil => intro _ d' hd'; cases hd'
      | cons d ds ih =>
       rintro ⟨⟨D, h1, h2, _, _⟩, h5⟩ d' hd' he
       rcases List.mem_cons.1 hd' with rfl | hd'
       ·rw [h1] at he
        cases he
        rw [hGnew _ (Nat.le_refl _)] at h2; cases h2
       ·exact ih h5 d' hd' he
     exact this h.marks d' hd' he
    ·refine h.marks.mono ?_
     intro b o hb
     simp only
     rw [if_neg (fun e => by subst e; rw [hGnew _ (Nat.le_refl _)] at hb; cases hb)]
     exact hb
   ·intro b o hb
    simp only at hb
    split at hb
    ·rename_i hbe
     cases hb
     subst hbe
     refine ⟨rfl, ?_, hMnew _ (Nat.le_refl _)⟩
     exact (Below.heap_alloc _ _ _ (by simp)).trans (World.alloc_heap_new W _)
    ·obtain ⟨p1, p2, p3⟩ := h.h.pin b o hb
     exact ⟨p1, (hb2.block b (Array.getElem?_eq_some_iff.1 p2).1).trans p2, p3⟩
  | some l₀ =>
   obtain ⟨rec, hrec⟩ := hr l₀ rfl
   have hl₀ := (h.h.pin l₀ _ hrec).2.1
   have hb1 : Below W.heap.size W (W.alloc (.loop { state := .ready, pending := none, fn, tmps := a.tmps, params := ps, assign, body, defers := rec.defers })) := (Below.refl _ W).alloc (Nat.le_refl _) _
   refine ⟨W.heap.size, [], _, rec.defers, st.G.m, run_enterLoop_inner hl₀ _ _ _ _ _, World.alloc_heap_new W _, Nat.le_refl _, hb1, Mem.le_refl _, hGnew _ (Nat.le_refl _), h.marks, ?_⟩
   intro b o hb
   obtain ⟨p1, p2, p3⟩ := h.h.pin b o hb
   exact ⟨p1, (hb1.block b (Array.getElem?_eq_some_iff.1 p2).1).trans p2, p3⟩
 obtain ⟨rec, hrecdef⟩ : ∃ rec : LoopState → Option Code → Loop, rec = fun s p => { state := s, pending := p, fn, tmps := a.tmps, params := ps, assign, body, defers := df } := ⟨_, rfl⟩
 have hL : W1.heap[l]? = some (.loop (rec .ready none)) := by rw [hrecdef]; exact hL
 have hn₀l : B.n₀ ≤ l := Nat.le_trans h.h.size hlW
 have hMl : st.M l = none := by
  cases hm : st.M l with
  | none => rfl
  | some o => have := (Array.getElem?_eq_some_iff.1 (h.h.mem l o hm)).1; omega
 have hfl : st.G.f l = none := by
  cases hm : st.G.f l with
  | none => rfl
  | some o => have := (Array.getElem?_eq_some_iff.1 (h.h.fpin l o hm).1).1; omega
 have hM1 : st.M.ok W1 := fun b o hb => by
  have := h.h.mem b o hb
  rw [hbW.block b (Array.getElem?_eq_some_iff.1 this).1]; exact this
 -- the state at the loop's beginning
 have hS1 : Sat B.n₀ B.w B.M₀ ρ { st with G := ⟨m1, none, st.G.f⟩ } a W1 := by
  have h1 := h.grow hbW (M' := st.M) hM1 (fun _ _ => rfl)
  refine ⟨h1.h.pins ⟨m1, none, st.G.f⟩ hpin1 h1.h.fpin, h1.nt, h1.sl, h.marks.mono hm1⟩
 obtain ⟨ρ0, hS2⟩ := hw.imp ⟨m1, none, st.G.f⟩ _ _ _ ρ a W1 hS1
 -- what the loop keeps
 let J : Nat → (Nat → Prop) → World → Prop := fun k X W' => ∃ s ρ m, pf k s ∧ m1.le m ∧ m l = none ∧ W'.heap[l]? = some (.loop (rec .ready none)) ∧ Sat B.n₀ B.w B.M₀ ρ { inv k s with G := ⟨m, none, st.G.f⟩ } { tmps := a.tmps, defers := [] } W' ∧
  (inv k s).M l = none ∧ X = fun b => b = l ∨ ∃ i e, (inv k s).own i = some e ∧ ob (ρ i) = some b
 let Jx : World → Prop := fun W' => ∃ (ex : Ex) (c : Code) (st3 : St) (ρ : Env) (m : Mem), codeOf ex = some c ∧ (∀ m, Q ex { st3 with G := ⟨m, st.G.Y, st.G.f⟩ }) ∧ m1.le m ∧ m l = none ∧ W'.heap[l]? = some (.loop (rec .done (some c))) ∧
  Sat B.n₀ B.w B.M₀ ρ { st3 with G := ⟨m, none, st.G.f⟩ } { tmps := a.tmps, defers := [] } W' ∧ st3.M l = none
 have satBelow : ∀ {st' : St} {ρ : Env} {a' : Act} {W W' : World}, Sat B.n₀ B.w B.M₀ ρ st' a' W → Below W.heap.size W W' → Sat B.n₀ B.w B.M₀ ρ st' a' W' := fun {st' ρ a' W W'} hs hb => by
  refine hs.grow hb (M' := st'.M) ?_ (fun _ _ => rfl)
  intro b o hb'
  have := hs.h.mem b o hb'
  rw [hb.block b (Array.getElem?_eq_some_iff.1 this).1]; exact this
 have hJ : ∀ k X W W', J k X W → Below W.heap.size W W' → J k X W' := by
  rintro k X W W' ⟨s, ρ, m, j1, j2, j3, j4, j5, j6, j7⟩ hb
  exact ⟨s, ρ, m, j1, j2, j3, (hb.block l (Array.getElem?_eq_some_iff.1 j4).1).trans j4, satBelow j5 hb, j6, j7⟩
 have hJx : ∀ W W', Jx W → Below W.heap.size W W' → Jx W' := by
  rintro W W' ⟨ex, c, st3, ρ, m, j1, j2, j3, j4, j5, j6, j7⟩ hb
  exact ⟨ex, c, st3, ρ, m, j1, j2, j3, j4, (hb.block l (Array.getElem?_eq_some_iff.1 j5).1).trans j5, satBelow j6 hb, j7⟩
 have hXlt : ∀ k X W, J k X W → ∀ b, X b → b < W.heap.size := by
  rintro k X W ⟨s, ρ, m, j1, j2, j3, j4, j5, j6, rfl⟩ b (rfl | ⟨i, e, hi, hb⟩)
  ·exact (Array.getElem?_eq_some_iff.1 j4).1
  ·exact ((j5.h.own i e hi).2.2.lt b hb).2.1
 obtain ⟨X0, hX0⟩ : ∃ X0 : Nat → Prop, X0 = fun b => b = l ∨ ∃ i e, (inv 0 s0).own i = some e ∧ ob (ρ0 i) = some b := ⟨_, rfl⟩
 have hX0M : ∀ b, X0 b → st.M b = none := by
  rw [hX0]
  rintro b (rfl | ⟨i, e, hi, hob⟩)
  ·exact hMl
  ·have := hS2.h.msep i e b hi hob
   rw [show st.M = (inv 0 s0).M from hw.m]; exact this
 have hJ0 : J 0 X0 W1 :=
  ⟨s0, ρ0, m1, h0, Mem.le_refl _, hm1l, hL, ⟨hS2.h, hS2.nt, hS2.sl, trivial⟩, by rw [← hw.m]; exact hMl, hX0⟩
 have hround : ∀ k X W1 args, J k X W1 → xs[k]? = some args → ∀ n, YieldAt (Fw none) n P l args.toArray W1 fun e W' =>
   Off X W1 W' ∧ ((e = .returned (.bool true) ∧ ∃ X', (∀ b, X' b → X b ∨ W1.heap.size ≤ b) ∧ J (k + 1) X' W') ∨ (e = .returned (.bool false) ∧ Jx W')) := by
  rintro k X W1 args ⟨s, ρ, m, hpf, hm1m, hml, hl, hS, hMk, rfl⟩ hxs n
  have hXl : ∀ b, (¬ (b = l ∨ ∃ i e, (inv k s).own i = some e ∧ ob (ρ i) = some b)) → b ≠ l := fun b hb e => hb (.inl e)
  have hax : args.length = ps.size := hlen args (List.mem_of_getElem? hxs)
  have hy := run_yield (P := P) (args := args.toArray) hl (by rw [hrecdef]; simpa using hax)
  have hfold : ((rec .ready none).params.zip args.toArray).foldl (fun (tmps : Array Value) (x : Tmp × Value) => match x with | (t, a) => tmps.setIfInBounds t a) (rec .ready none).tmps
    = (ps.toList.zip args).foldl (fun t p => t.setIfInBounds p.1 p.2) a.tmps := by
   rw [hrecdef, ← Array.foldl_toList]
   simp
  refine ⟨fn, (ps.toList.zip args).foldl (fun t p => t.setIfInBounds p.1 p.2) a.tmps, assign, body, by rw [hy, hfold, hrecdef], roundIn_of_wpIn trivial ?_⟩
  obtain ⟨f2, hf2⟩ : ∃ f2 : Mem, f2 = fun b => if b < W1.heap.size ∧ ¬ (b = l ∨ ∃ i e, (inv k s).own i = some e ∧ ob (ρ i) = some b) then W1.heap[b]? else none := ⟨_, rfl⟩
  have hf2l : f2 l = none := by rw [hf2]; simp
  have hf2s : ∀ b, b < W1.heap.size → ¬ (b = l ∨ ∃ i e, (inv k s).own i = some e ∧ ob (ρ i) = some b) → f2 b = W1.heap[b]? := fun b h1 h2 => by
   rw [hf2]; simp only; rw [if_pos ⟨h1, h2⟩]
  obtain ⟨m2, hm2⟩ : ∃ m2 : Mem, m2 = fun b => if b = l then some (.loop (rec .ready none)) else m b := ⟨_, rfl⟩
  have hm12 : m1.le m2 := fun b o hb => by
   rw [hm2]; simp only
   rw [if_neg (fun e => by subst e; rw [hm1l] at hb; cases hb)]
   exact hm1m b o hb
  have hS3 : Sat B.n₀ W1 B.M₀ ρ { inv k s with G := ⟨m2, none, f2⟩ } { tmps := a.tmps, defers := [] } W1 := by
   refine ⟨(SatH.pins (st := { inv k s with G := ⟨m, none, st.G.f⟩ }) (hS.h.rebase (Below.refl _ _)) ⟨m2, none, f2⟩ ?_ ?_), hS.nt, hS.sl, trivial⟩
   ·intro b o hb
    rw [hm2] at hb
    simp only at hb
    split at hb
    ·rename_i e; subst e; cases hb; exact ⟨rfl, hl, hMk⟩
    ·exact hS.h.pin b o hb
   ·intro b o hb
    rw [hf2] at hb
    simp only at hb
    split at hb
    ·rename_i hb2
     exact ⟨hb, fun i e hi hob => hb2.2 (.inr ⟨i, e, hi, hob⟩)⟩
    ·cases hb
  have hsl := (hinv k s).1
  have hntk := (hinv k s).2
  obtain ⟨hS4, hkp4⟩ := par_sat (fx := fun d => look sl0 d ≠ none) (tm := a.tmps) ps.toList args hS3 (fun p hp => by rw [show ({ inv k s with G := ⟨m2, none, f2⟩ } : St).nt = (inv k s).nt from rfl, hntk]; exact hps p hp) (fun d hd => rfl)
  have hro := flatS_iff (withYf_iff round k s args hpf hxs m2 f2)
  have hS4 : Sat B.n₀ W1 B.M₀ ρ { inv k s with sl := parSl ps.toList args sl0, G := ⟨m2, none, f2⟩ } { tmps := (ps.toList.zip args).foldl (fun t p => t.setIfInBounds p.1 p.2) a.tmps, defers := [] } W1 := by rw [← hsl]; exact hS4
  have hSz : Below B.n₀ B.w W1 := hS.h.below
  -- the assignments
  refine wpIn_mono (vc_sound (r := some l) (κ := fun Y B' => Y = none ∧ B' = ⟨B.n₀, W1, B.M₀⟩) hC (yok_none _) (fx := fun d => look sl0 d ≠ none) (tm := a.tmps) (B := ⟨B.n₀, W1, B.M₀⟩) assign hro
   (fun l' hl' => by cases hl'; exact ⟨rec .ready none, by show m2 l = _; rw [hm2]; simp⟩) ⟨rfl, rfl⟩ hS4 hwa hkp4) ?_
  rintro e a1 Wa ⟨⟨ex, he, B', ρ1, st1, ⟨_, rfl⟩, g1, g2, g3⟩, hkp1⟩
  have hen := exOf_inv he
  cases ex with
  | ret => exact g3.elim
  | exit i => exact g3.elim
  | normal =>
  subst hen
  have hml1 : st1.G.m l = some (.loop (rec .ready none)) := g2.1 _ _ (by show m2 l = _; rw [hm2]; simp)
  have hla := (g1.h.pin l _ hml1).2.1
  have hMl1 := (g1.h.pin l _ hml1).2.2
  have hff1 : st1.G.f = f2 := g2.2
  refine ⟨_, run_beginRound hla (by rw [hrecdef]), ?_⟩
  obtain ⟨m3, hm3⟩ : ∃ m3 : Mem, m3 = fun b => if b = l then some (.loop { rec .ready none with state := .busy }) else st1.G.m b := ⟨_, rfl⟩
  have hS5 : Sat B.n₀ W1 B.M₀ ρ1 { st1 with G := ⟨m3, none, f2⟩ } a1 (Wa.putObj l (.loop { rec .ready none with state := .busy })) := by
   have u1 := SatH.unmark g1.h hml1 hn₀l (by rw [hff1]; exact hf2l) (.loop { rec .ready none with state := .busy })
   refine ⟨u1.pins ⟨m3, none, f2⟩ ?_ (by rw [← hff1]; exact u1.fpin), g1.nt, g1.sl, ?_⟩
   ·intro b o hb
    rw [hm3] at hb
    simp only at hb
    split at hb
    ·rename_i e; subst e; cases hb; exact ⟨rfl, World.putObj_heap_same (Array.getElem?_eq_some_iff.1 hla).1, hMl1⟩
    ·rename_i hne
     exact u1.pin b o (by simp only; rw [if_neg hne]; exact hb)
   ·rw [hm3]; exact Marks.but hml1 _ g1.marks
  refine wpIn_mono (vc_sound (r := some l) (κ := fun Y B' => Y = none ∧ B' = ⟨B.n₀, W1, B.M₀⟩) hC (yok_none _) (fx := fun d => look sl0 d ≠ none) (tm := a.tmps) (B := ⟨B.n₀, W1, B.M₀⟩) body (flatY_iff (g3 m3))
   (fun l' hl' => by cases hl'; exact ⟨{ rec .ready none with state := .busy }, by show m3 l = _; rw [hm3]; simp⟩) ⟨rfl, rfl⟩ hS5 hwb hkp1) ?_
  rintro e a2 W3 ⟨⟨ex, he, B', ρ2, st2, ⟨_, rfl⟩, k1, k2, k3⟩, hkp2⟩
  have hen := exOf_inv he
  subst hen
  have hml2 : st2.G.m l = some (.loop { rec .ready none with state := .busy }) := k2.1 _ _ (by show m3 l = _; rw [hm3]; simp)
  have hl3 := (k1.h.pin l _ hml2).2.1
  have hff2 : st2.G.f = f2 := k2.2
  obtain ⟨m4, hm4⟩ : ∃ m4 : Mem, m4 = fun b => if b = l then none else st2.G.m b := ⟨_, rfl⟩
  have hm14 : m1.le m4 := fun b o hb => by
   have hbl : b ≠ l := fun e => by subst e; rw [hm1l] at hb; cases hb
   rw [hm4]; simp only
   rw [if_neg hbl]
   refine k2.1 b o ?_
   show m3 b = _
   rw [hm3]; simp only
   rw [if_neg hbl]
   exact g2.1 b o (hm12 b o hb)
  have hm4l : m4 l = none := by rw [hm4]; simp
  -- a state that is left behind, in the loop's own frame
  have leave : ∀ (st3 : St) (o' : Obj), Wk st2 st3 → st3.sl = sl0 → st3.nt = st.nt → ∃ ρ3, Sat B.n₀ B.w B.M₀ ρ3 { st3 with G := ⟨m4, none, st.G.f⟩ } { tmps := a.tmps, defers := [] } (W3.putObj l o') ∧ st3.M l = none ∧
    (∀ i e b, st3.own i = some e → ob (ρ3 i) = some b → f2 b = none) := by
   intro st3 o' hwk hsl3 hnt3
   obtain ⟨ρ3, hs⟩ := hwk.imp st2.G _ _ _ ρ2 a2 W3 k1
   have u1 := SatH.unmark hs.h hml2 hn₀l (by show st2.G.f l = none; rw [hff2]; exact hf2l) o'
   have hMl3 : st3.M l = none := (hs.h.pin l _ hml2).2.2
   have hown : ∀ i e b, st3.own i = some e → ob (ρ3 i) = some b → f2 b = none := fun i e b hi hb => by
    cases hf : f2 b with
    | none => rfl
    | some o => exact absurd hb ((hs.h.fpin b o (by show st2.G.f b = some o; rw [hff2]; exact hf)).2 i e hi)
   refine ⟨ρ3, ⟨?_, by show a.tmps.size = st3.nt; rw [hnt3]; exact h.nt, ?_, trivial⟩, hMl3, hown⟩
   ·refine (SatH.pins u1 ⟨m4, none, st.G.f⟩ ?_ ?_).rebase (hSz.trans (u1.below.mono (Nat.le_refl _)))
    ·intro b o hb
     rw [hm4] at hb
     exact u1.pin b o hb
    ·intro b o hb
     obtain ⟨q1, q2⟩ := hS.h.fpin b o hb
     have hblt := (Array.getElem?_eq_some_iff.1 q1).1
     have hnX : ¬ (b = l ∨ ∃ i e, (inv k s).own i = some e ∧ ob (ρ i) = some b) := by
      rintro (rfl | ⟨i, e, hi, hob⟩)
      ·have hb' : st.G.f b = some o := hb
       rw [hfl] at hb'; cases hb'
      ·exact q2 i e hi hob
     have hfb : f2 b = some o := by rw [hf2s b hblt hnX]; exact q1
     refine u1.fpin b o ?_
     show st2.G.f b = some o
     rw [hff2]; exact hfb
   ·intro d sv hd
    have hd' : look sl0 d = some sv := by rw [← hsl3]; exact hd
    obtain ⟨q1, q2, q3⟩ := hs.sl d sv hd
    refine ⟨q1, q2, ?_⟩
    rw [← hkp2 d (show look sl0 d ≠ none by rw [hd']; simp)]
    exact q3
  have hsz3 : W1.heap.size ≤ W3.heap.size := k1.h.below.size
  have hoff : ∀ o' : Obj, Off (fun b => b = l ∨ ∃ i e, (inv k s).own i = some e ∧ ob (ρ i) = some b) W1 (W3.putObj l o') := by
   intro o'
   refine ⟨fun b hb hnX => ?_, by simpa using hsz3⟩
   rw [World.putObj_heap_other (hXl b hnX)]
   have hsome : ∃ o, W1.heap[b]? = some o := ⟨_, Array.getElem?_eq_getElem hb⟩
   obtain ⟨o, ho⟩ := hsome
   have := (k1.h.fpin b o (by rw [hff2, hf2s b hb hnX]; exact ho)).1
   rw [this, ho]
  have hend := fun (jump : Option Code) => run_endRound (P := P) jump hl3
  have stop : ∀ (ex : Ex) (c : Code), codeOf ex = some c → (∃ st3, Wk st2 st3 ∧ st3.sl = sl0 ∧ st3.nt = st.nt ∧ ∀ m, Q ex { st3 with G := ⟨m, st.G.Y, st.G.f⟩ }) →
    ∃ v w', (Instr.endRound l (some c)).run P W3 = .ok v w' ∧ (Off (fun b => b = l ∨ ∃ i e, (inv k s).own i = some e ∧ ob (ρ i) = some b) W1 w' ∧
     ((Ending.returned v = .returned (.bool true) ∧ ∃ X', (∀ b, X' b → (b = l ∨ ∃ i e, (inv k s).own i = some e ∧ ob (ρ i) = some b) ∨ W1.heap.size ≤ b) ∧ J (k + 1) X' w') ∨ (Ending.returned v = .returned (.bool false) ∧ Jx w'))) := by
   rintro ex c hc ⟨st3, hwk, hsl3, hnt3, hq⟩
   obtain ⟨ρ3, hs3, hMl3, _⟩ := leave st3 (.loop { { rec .ready none with state := .busy } with state := .done, pending := some c }) hwk hsl3 hnt3
   refine ⟨_, _, hend (some c), hoff _, .inr ⟨rfl, ex, c, st3, ρ3, m4, hc, hq, hm14, hm4l, ?_, hs3, hMl3⟩⟩
   rw [World.putObj_heap_same (Array.getElem?_eq_some_iff.1 hl3).1, hrecdef]
   rfl
  cases ex with
  | normal =>
   obtain ⟨s', hpf', hwk⟩ := k3
   obtain ⟨ρ3, hs3, hMl3, hown3⟩ := leave (inv (k + 1) s') (.loop { { rec .ready none with state := .busy } with state := .ready, pending := none }) hwk (hinv _ _).1 (hinv _ _).2
   refine ⟨_, _, hend none, hoff _, .inl ⟨rfl, _, ?_, s', ρ3, m4, hpf', hm14, hm4l, ?_, hs3, hMl3, rfl⟩⟩
   ·rintro b (rfl | ⟨i, e, hi, hob⟩)
    ·exact .inl (.inl rfl)
    ·by_cases hnX : b = l ∨ ∃ i e, (inv k s).own i = some e ∧ ob (ρ i) = some b
     ·exact .inl hnX
     ·refine .inr ?_
      rcases Nat.lt_or_ge b W1.heap.size with hlt | hge
      ·have := hown3 i e b hi hob
       rw [hf2s b hlt hnX, Array.getElem?_eq_getElem hlt] at this
       cases this
      ·exact hge
   ·rw [World.putObj_heap_same (Array.getElem?_eq_some_iff.1 hl3).1, hrecdef]
    rfl
  | ret => exact stop .ret _ rfl (let ⟨s3, a, b, c, d⟩ := k3; ⟨s3, a, b, c, fun m => flatY_iff (d m)⟩)
  | exit i => exact stop (.exit i) _ rfl (let ⟨s3, a, b, c, d⟩ := k3; ⟨s3, a, b, c, fun m => flatY_iff (d m)⟩)
 -- the iterator is called
 have hcall := hit.run (n - 1) l J Jx X0 W1 hJ hJx hXlt hround hJ0 hM1 hX0M
 have hcallr : CallsIn (Fw r) (n - 1) P gf (#[.func (.yield l) #[] #[]] ++ lb) W1 fun e W' => (∃ v, e = .returned v) ∧ ((∃ X, J xs.length X W') ∨ Jx W') := by
  cases r with
  | none => exact hcall
  | some l₀ => exact CallsIn.inRound l₀ hcall
 have hgv : a.eval g = .func (.func gf) #[] lb := (h.ev hg).1
 have hres : ∀ e W', ((∃ v, e = Ending.returned v) ∧ ((∃ X, J xs.length X W') ∨ Jx W')) → rangePost (Fw r) n P l (Post κ st.G Q fx tm) { tmps := a.tmps, defers := mark ++ a.defers } e W' := by
  have behind : ∀ (ex : Ex) (st3 : St) (ρ3 : Env) (m : Mem) (W' : World) (rc : Loop), W'.heap[l]? = some (.loop rc) → m1.le m → m l = none → st3.M l = none → Sat B.n₀ B.w B.M₀ ρ3 { st3 with G := ⟨m, none, st.G.f⟩ } { tmps := a.tmps, defers := [] } W' →
    Q ex { st3 with G := ⟨m, st.G.Y, st.G.f⟩ } → ∀ o', Post κ st.G Q fx tm (exitOf ex) { a with defers := mark ++ a.defers } (W'.putObj l o') := by
   intro ex st3 ρ3 m W' rc hl' hle hml hMl' hs hq o'
   have u := SatH.putAt hs.h hl' rfl hMl' hml hfl hn₀l o'
   refine ⟨⟨ex, by cases ex <;> rfl, B, ρ3, { st3 with G := ⟨m, st.G.Y, st.G.f⟩ }, hκ, ⟨⟨u.below, u.size, u.mem, u.own, u.sep, u.msep, u.pin, u.mlow, u.fpin⟩, hs.nt, hs.sl, hmarks.mono hle⟩, ⟨hm1.trans hle, rfl⟩, hq⟩, hkp⟩
  rintro e W' ⟨⟨v, rfl⟩, ⟨X, s, ρ3, m, j1, j2, j3, j4, j5, j6, _⟩ | ⟨ex, c, st3, ρ3, m, j0, j1, j2, j3, j4, j5, j6⟩⟩
  ·refine ⟨none, _, by have := run_endLoop (P := P) j4 (by rw [hrecdef]; simp); rw [hrecdef] at this; exact this, ?_⟩
   exact behind .normal _ ρ3 m W' _ j4 j2 j3 j6 j5 (flatY_iff (withYf_iff done s m j1)) _
  ·refine ⟨some c, _, by have := run_endLoop (P := P) j4 (by rw [hrecdef]; simp); rw [hrecdef] at this; exact this, ?_⟩
   have hb := fun o' => behind ex st3 ρ3 m W' _ j4 j2 j3 j6 j5 (j1 m) o'
   cases ex with
   | normal => cases j0
   | ret => cases j0; exact wpIn_ret (hb _)
   | exit i => cases j0; exact wpIn_exit (hb _)
 have e1 : (resolve a.eval (rangeCall g l) 0).run P W1 = .ok { target := .fn (.func gf) lb, args := #[.func (.yield l) #[] #[]] } W1 := by
  simp only [resolve, hgv]
  simp [go_sem]
 have e2 : (invoke (.fn (.func gf) lb) #[.func (.yield l) #[] #[]]).run P W1 = .ok (.enter gf (#[.func (.yield l) #[] #[]] ++ lb)) W1 := by
  simp only [invoke]
  exact hit.ent _ _
 exact ⟨l, mark, W1, _, W1, gf, _, W1, henter, e1, fun _ _ => trivial, e2, (fun hd => (by cases hd)), hcallr.mono hres⟩
def hasB (sl : List (Nat × SV)) (d : Nat) : Bool := match look sl d with | none => false | some _ => true
def wrB (sl : List (Nat × SV)) : Code → Bool
 | .region _ ops _ => ops.toList.all fun o => match o.dst with | some d => !hasB sl d | none => true
 | .seq a b => wrB sl a && wrB sl b
 | .cond _ a b => wrB sl a && wrB sl b
 | .block _ c => wrB sl c
 | .loop c => wrB sl c
 | .scope c => wrB sl c
 | _ => true
theorem hasB_spec {sl : List (Nat × SV)} {d : Nat} (h : hasB sl d = false) : ¬ look sl d ≠ none := by
 unfold hasB at h
 split at h
 ·rename_i hn; simp [hn]
 ·cases h
theorem wrB_spec {sl : List (Nat × SV)} : ∀ (c : Code), wrB sl c = true → wr (fun d => look sl d ≠ none) c
 | .region id ops dr, h => by
  intro o ho d hd
  simp only [wrB, List.all_eq_true] at h
  have := h o ho
  rw [hd] at this
  exact hasB_spec (by simpa using this)
 | .seq a b, h => by
  simp only [wrB, Bool.and_eq_true] at h
  exact ⟨wrB_spec a h.1, wrB_spec b h.2⟩
 | .cond _ a b, h => by
  simp only [wrB, Bool.and_eq_true] at h
  exact ⟨wrB_spec a h.1, wrB_spec b h.2⟩
 | .block _ c, h => wrB_spec c h
 | .loop c, h => wrB_spec c h
 | .scope c, h => wrB_spec c h
 | .skip, _ => trivial
 | .rangeFunc .., _ => trivial
 | .exit _, _ => trivial
 | .ret, _ => trivial
 | .label _, _ => trivial
 | .goto _, _ => trivial
 | .refuse _, _ => trivial
def psB (nt : Nat) (sl : List (Nat × SV)) (ps : List Nat) : Bool := ps.all fun p => Nat.blt p nt && !hasB sl p
theorem VCode.rangeB {C : VX} (hC : VXOK P C) {g : Operand} {ps : Array Tmp} {assign body : Code} {st : St} {Q : Ex → St → Prop} {gf : Nat} {lb : Array Value} {xs : List (List Value)}
  (hg : st.ev g = some (.v (.func (.func gf) #[] lb))) (hit : Iter P gf lb st.M xs) (hlen : ∀ x ∈ xs, x.length = ps.size) (sl0 : List (Nat × SV))
  (hps : psB st.nt sl0 ps.toList = true) (hwa : wrB sl0 assign = true) (hwb : wrB sl0 body = true)
  (S : Type) (inv : Nat → S → St) (pf : Nat → S → Prop) (s0 : S) (h0 : pf 0 s0) (hw : Wk { st with G := ⟨st.G.m, none, st.G.f⟩ } (inv 0 s0))
  (hinv : ∀ k s, (inv k s).sl = sl0 ∧ (inv k s).nt = st.nt)
  (round : st.withYf fun Y fQ => ∀ k s args, pf k s → xs[k]? = some args → ∀ m f, (inv k s).flatS (parSl ps.toList args sl0) m f fun st0 => vc C P assign st0 fun e st1 => match e with
   | .normal => ∀ m', st1.flatY m' none f fun st1 => vc C P body st1 fun e st2 => match e with
    | .normal => ∃ s', pf (k + 1) s' ∧ Wk st2 (inv (k + 1) s')
    | e => ∃ st3, Wk st2 st3 ∧ st3.sl = sl0 ∧ st3.nt = st.nt ∧ ∀ m, st3.flatY m Y fQ (Q e)
   | _ => False)
  (done : st.withYf fun Y f => ∀ s m, pf xs.length s → (inv xs.length s).flatY m Y f (Q .normal)) : VCode P (.rangeFunc g ps assign body) st Q :=
 VCode.range hC hg hit hlen sl0 (fun p hp => by
  simp only [psB, List.all_eq_true, Bool.and_eq_true] at hps
  obtain ⟨h1, h2⟩ := hps p hp
  exact ⟨Nat.le_of_ble_eq_true h1, hasB_spec (by simpa using h2)⟩) (wrB_spec _ hwa) (wrB_spec _ hwb) S inv pf s0 h0 hw hinv round done
end Go.V
namespace Go.V
open Go Go.RowKit
theorem Wk.nil {st st' : St} (d : Nat) (E sz : Nat) (hd : look st.sl d = some (.v (.slice none 0 0))) (h : Wk ⟨(d, .row st.nx) :: st.sl, (st.nx, some (.row E sz 0 [])) :: st.ow, st.nx + 1, st.M, st.nt, st.G⟩ st') : Wk st st' := by
 refine ⟨fun G n₀ w M₀ ρ a W hs => ?_, h.y, h.m⟩
 have h1 : SatH n₀ w M₀ (upd ρ st.nx (.slice none 0 0)) (St.add { st with G := G } (.row E sz 0 [])) W :=
  hs.h.add (.row E sz 0 []) (.slice none 0 0) (Below.refl _ W) trivial ⟨⟨by simp, .inl ⟨upd_same _ _ _, rfl⟩⟩, by simp⟩ (fun b hb => by simp [ob] at hb)
 have h2 : Sat n₀ w M₀ (upd ρ st.nx (.slice none 0 0)) (St.add { st with G := G } (.row E sz 0 [])) a W :=
  hs.env h1 (agree_upd ρ st.nx _) (Nat.le_succ _) rfl rfl rfl
 have h3 : Sat n₀ w M₀ (upd ρ st.nx (.slice none 0 0)) { (⟨(d, .row st.nx) :: st.sl, (st.nx, some (.row E sz 0 [])) :: st.ow, st.nx + 1, st.M, st.nt, st.G⟩ : St) with G := G } a W := by
  refine ⟨⟨h2.h.below, h2.h.size, h2.h.mem, h2.h.own, h2.h.sep, h2.h.msep, h2.h.pin, h2.h.mlow, h2.h.fpin⟩, h2.nt, ?_, h2.marks⟩
  intro d' s hd'
  rw [look_cons] at hd'
  split at hd'
  ·rename_i e
   subst e
   obtain rfl := Option.some.inj hd'
   obtain ⟨k1, _, k3⟩ := hs.sl d' _ hd
   exact ⟨k1, Nat.lt_succ_self _, by rw [k3]; simp [SV.den, upd_same, slOf]⟩
  ·exact h2.sl d' s hd'
 exact h.imp G n₀ w M₀ _ a W h3
theorem Wk.nilBox {st st' : St} (id : Nat) (t : TypeId) (cs1 cs2 : List SV) (E sz : Nat) (hd : st.own id = some (.box t (cs1 ++ .v (.slice none 0 0) :: cs2)))
  (h : Wk ⟨st.sl, (id, some (.box t (cs1 ++ .row st.nx :: cs2))) :: (st.nx, some (.row E sz 0 [])) :: st.ow, st.nx + 1, st.M, st.nt, st.G⟩ st') : Wk st st' := by
 refine ⟨fun G n₀ w M₀ ρ a W hs => ?_, h.y, h.m⟩
 have h1 : SatH n₀ w M₀ (upd ρ st.nx (.slice none 0 0)) (St.add { st with G := G } (.row E sz 0 [])) W :=
  hs.h.add (.row E sz 0 []) (.slice none 0 0) (Below.refl _ W) trivial ⟨⟨by simp, .inl ⟨upd_same _ _ _, rfl⟩⟩, by simp⟩ (fun b hb => by simp [ob] at hb)
 have h2 : Sat n₀ w M₀ (upd ρ st.nx (.slice none 0 0)) (St.add { st with G := G } (.row E sz 0 [])) a W :=
  hs.env h1 (agree_upd ρ st.nx _) (Nat.le_succ _) rfl rfl rfl
 have hidn : id < st.nx := (hs.h.own id _ hd).1
 have hown2 : (St.add { st with G := G } (.row E sz 0 [])).own id = some (.box t (cs1 ++ .v (.slice none 0 0) :: cs2)) := by
  rw [own_add, if_neg (by show id ≠ st.nx; omega)]; exact hd
 obtain ⟨g1, g2, B, hr, hn, hh⟩ := h2.h.own id _ hown2
 have hcells : (cs1 ++ SV.row st.nx :: cs2).map (SV.den (upd ρ st.nx (.slice none 0 0))) = (cs1 ++ SV.v (.slice none 0 0) :: cs2).map (SV.den (upd ρ st.nx (.slice none 0 0))) := by
  simp only [List.map_append, List.map_cons, SV.den, upd_same, slOf]
 have key : ∀ id' e, (⟨st.sl, (id, some (.box t (cs1 ++ .row st.nx :: cs2))) :: (st.nx, some (.row E sz 0 [])) :: st.ow, st.nx + 1, st.M, st.nt, G⟩ : St).own id' = some e →
   ∃ e0, (St.add { st with G := G } (.row E sz 0 [])).own id' = some e0 ∧ e.sc (st.nx + 1) ∧ OwnOK n₀ (upd ρ st.nx (.slice none 0 0)) W id' e := by
  intro id' e he
  by_cases e' : id' = id
  ·subst e'
   unfold St.own at he
   simp only [look_cons, if_true] at he
   cases he
   refine ⟨_, hown2, ?_, B, hr, hn, by rw [hcells]; exact hh⟩
   intro s hs'
   have g2' : ∀ s ∈ (cs1 ++ SV.v (.slice none 0 0) :: cs2), s.sc (st.nx + 1) := g2
   simp only [List.mem_append, List.mem_cons] at hs' g2'
   rcases hs' with hs' | rfl | hs'
   ·exact g2' s (.inl hs')
   ·exact Nat.lt_succ_self _
   ·exact g2' s (.inr (.inr hs'))
  ·have he2 : (St.add { st with G := G } (.row E sz 0 [])).own id' = some e := by
    unfold St.own at he ⊢
    simp only [look_cons, if_neg e'] at he
    simp only [St.add, look_cons]
    exact he
   obtain ⟨a1, a2, a3⟩ := h2.h.own id' e he2
   exact ⟨e, he2, a2, a3⟩
 have h3 : Sat n₀ w M₀ (upd ρ st.nx (.slice none 0 0)) { (⟨st.sl, (id, some (.box t (cs1 ++ .row st.nx :: cs2))) :: (st.nx, some (.row E sz 0 [])) :: st.ow, st.nx + 1, st.M, st.nt, st.G⟩ : St) with G := G } a W := by
  refine ⟨⟨h2.h.below, h2.h.size, h2.h.mem, ?_, ?_, ?_, h2.h.pin, h2.h.mlow, ?_⟩, h2.nt, h2.sl, h2.marks⟩
  ·intro id' e he
   obtain ⟨e0, k1, k2, k3⟩ := key id' e he
   exact ⟨(h2.h.own id' e0 k1).1, k2, k3⟩
  ·intro i j ei ej hi hj hij
   obtain ⟨e1, k1, _⟩ := key i ei hi
   obtain ⟨e2, k2, _⟩ := key j ej hj
   exact h2.h.sep i j e1 e2 k1 k2 hij
  ·intro i e b hi
   obtain ⟨e1, k1, _⟩ := key i e hi
   exact h2.h.msep i e1 b k1
  ·intro b o hb
   obtain ⟨k1, k2⟩ := h2.h.fpin b o hb
   refine ⟨k1, fun i e hi => ?_⟩
   obtain ⟨e1, k3, _⟩ := key i e hi
   exact k2 i e1 k3
 exact h.imp G n₀ w M₀ _ a W h3
end Go.V
namespace Go.Proofs.YtdfhnemhkpplbaaGreatDoor
open Go Go.V
theorem ty1 : TyOK Tryz.prog 1 ⟨.sc, [.nilFunc], 8⟩ := .mk' (z := .nilFunc) (by kernel_rfl) rfl Tryz.underlying1 trivial
theorem ty2 : TyOK Tryz.prog 2 ⟨.int .i64, [.int .i64 0], 8⟩ := .mk' (z := .int .i64 0) (by kernel_rfl) rfl Tryz.underlying2 rfl
theorem ty3 : TyOK Tryz.prog 3 ⟨.int .i64, [.int .i64 0], 8⟩ := .mk' (z := .int .i64 0) (by kernel_rfl) rfl Tryz.underlying3 rfl
theorem ty4 : TyOK Tryz.prog 4 ⟨.bool, [.bool false], 1⟩ := .mk' (z := .bool false) (by kernel_rfl) rfl Tryz.underlying4 rfl
theorem ty5 : TyOK Tryz.prog 5 ⟨.int .u8, [.int .u8 0], 1⟩ := .mk' (z := .int .u8 0) (by kernel_rfl) rfl Tryz.underlying5 rfl
theorem ty6 : TyOK Tryz.prog 6 ⟨.int .u8, [.int .u8 0], 1⟩ := .mk' (z := .int .u8 0) (by kernel_rfl) rfl Tryz.underlying6 rfl
theorem ty7 : TyOK Tryz.prog 7 ⟨.st [(0, 2), (1, 3), (2, 4), (3, 6)], [.int .i64 0, .int .i64 0, .bool false, .int .u8 0], 24⟩ := .mk' (z := .agg #[.int .i64 0, .int .i64 0, .bool false, .int .u8 0]) (by kernel_rfl) rfl Tryz.underlying7 ⟨_, rfl, rfl⟩
theorem ty8 : TyOK Tryz.prog 8 ⟨.st [(0, 2), (1, 3), (2, 4), (3, 6)], [.int .i64 0, .int .i64 0, .bool false, .int .u8 0], 24⟩ := .mk' (z := .agg #[.int .i64 0, .int .i64 0, .bool false, .int .u8 0]) (by kernel_rfl) rfl Tryz.underlying8 ⟨_, rfl, rfl⟩
theorem ty9 : TyOK Tryz.prog 9 ⟨.sc, [.string ByteArray.empty], 16⟩ := .mk' (z := .string ByteArray.empty) (by kernel_rfl) rfl Tryz.underlying9 trivial
theorem ty10 : TyOK Tryz.prog 10 ⟨.sc, [.string ByteArray.empty], 16⟩ := .mk' (z := .string ByteArray.empty) (by kernel_rfl) rfl Tryz.underlying10 trivial
theorem ty11 : TyOK Tryz.prog 11 ⟨.sc, [.string ByteArray.empty], 16⟩ := .mk' (z := .string ByteArray.empty) (by kernel_rfl) rfl Tryz.underlying11 trivial
theorem ty12 : TyOK Tryz.prog 12 ⟨.int .u64, [.int .u64 0], 8⟩ := .mk' (z := .int .u64 0) (by kernel_rfl) rfl Tryz.underlying12 rfl
theorem ty13 : TyOK Tryz.prog 13 ⟨.st [(0, 9), (1, 12)], [.string ByteArray.empty, .int .u64 0], 24⟩ := .mk' (z := .agg #[.string ByteArray.empty, .int .u64 0]) (by kernel_rfl) rfl Tryz.underlying13 ⟨_, rfl, rfl⟩
theorem ty14 : TyOK Tryz.prog 14 ⟨.st [(0, 9), (1, 12)], [.string ByteArray.empty, .int .u64 0], 24⟩ := .mk' (z := .agg #[.string ByteArray.empty, .int .u64 0]) (by kernel_rfl) rfl Tryz.underlying14 ⟨_, rfl, rfl⟩
theorem ty15 : TyOK Tryz.prog 15 ⟨.sc, [.pointer none], 8⟩ := .mk' (z := .pointer none) (by kernel_rfl) rfl Tryz.underlying15 trivial
theorem ty16 : TyOK Tryz.prog 16 ⟨.sc, [.pointer none], 8⟩ := .mk' (z := .pointer none) (by kernel_rfl) rfl Tryz.underlying16 trivial
theorem ty17 : TyOK Tryz.prog 17 ⟨.sc, [.pointer none], 8⟩ := .mk' (z := .pointer none) (by kernel_rfl) rfl Tryz.underlying17 trivial
theorem ty18 : TyOK Tryz.prog 18 ⟨.st [(0, 17)], [.pointer none], 8⟩ := .mk' (z := .agg #[.pointer none]) (by kernel_rfl) rfl Tryz.underlying18 ⟨_, rfl, rfl⟩
theorem ty19 : TyOK Tryz.prog 19 ⟨.st [(0, 17)], [.pointer none], 8⟩ := .mk' (z := .agg #[.pointer none]) (by kernel_rfl) rfl Tryz.underlying19 ⟨_, rfl, rfl⟩
theorem ty21 : TyOK Tryz.prog 21 ⟨.int .i32, [.int .i32 0], 4⟩ := .mk' (z := .int .i32 0) (by kernel_rfl) rfl Tryz.underlying21 rfl
theorem ty22 : TyOK Tryz.prog 22 ⟨.sl 27, [.slice none 0 0], 24⟩ := .mk' (z := .slice none 0 0) (by kernel_rfl) rfl Tryz.underlying22 rfl
theorem ty23 : TyOK Tryz.prog 23 ⟨.st [(0, 3), (1, 3)], [.int .i64 0, .int .i64 0], 16⟩ := .mk' (z := .agg #[.int .i64 0, .int .i64 0]) (by kernel_rfl) rfl Tryz.underlying23 ⟨_, rfl, rfl⟩
theorem ty24 : TyOK Tryz.prog 24 ⟨.st [(0, 3), (1, 3)], [.int .i64 0, .int .i64 0], 16⟩ := .mk' (z := .agg #[.int .i64 0, .int .i64 0]) (by kernel_rfl) rfl Tryz.underlying24 ⟨_, rfl, rfl⟩
theorem ty25 : TyOK Tryz.prog 25 ⟨.sc, [.nilFunc], 8⟩ := .mk' (z := .nilFunc) (by kernel_rfl) rfl Tryz.underlying25 trivial
theorem ty26 : TyOK Tryz.prog 26 ⟨.sc, [.nilFunc], 8⟩ := .mk' (z := .nilFunc) (by kernel_rfl) rfl Tryz.underlying26 trivial
theorem ty27 : TyOK Tryz.prog 27 ⟨.sl 24, [.slice none 0 0], 24⟩ := .mk' (z := .slice none 0 0) (by kernel_rfl) rfl Tryz.underlying27 rfl
theorem ty28 : TyOK Tryz.prog 28 ⟨.int .i64, [.int .i64 0], 8⟩ := .mk' (z := .int .i64 0) (by kernel_rfl) rfl Tryz.underlying28 rfl
theorem ty30 : TyOK Tryz.prog 30 ⟨.sc, [.nilFunc], 8⟩ := .mk' (z := .nilFunc) (by kernel_rfl) rfl Tryz.underlying30 trivial
theorem ty31 : TyOK Tryz.prog 31 ⟨.sc, [.nilFunc], 8⟩ := .mk' (z := .nilFunc) (by kernel_rfl) rfl Tryz.underlying31 trivial
theorem ty33 : TyOK Tryz.prog 33 ⟨.sc, [.nilFunc], 8⟩ := .mk' (z := .nilFunc) (by kernel_rfl) rfl Tryz.underlying33 trivial
theorem ty34 : TyOK Tryz.prog 34 ⟨.sc, [.nilFunc], 8⟩ := .mk' (z := .nilFunc) (by kernel_rfl) rfl Tryz.underlying34 trivial
theorem ty35 : TyOK Tryz.prog 35 ⟨.sc, [.nilFunc], 8⟩ := .mk' (z := .nilFunc) (by kernel_rfl) rfl Tryz.underlying35 trivial
theorem ty36 : TyOK Tryz.prog 36 ⟨.sc, [.nilFunc], 8⟩ := .mk' (z := .nilFunc) (by kernel_rfl) rfl Tryz.underlying36 trivial
theorem ty37 : TyOK Tryz.prog 37 ⟨.sc, [.nilFunc], 8⟩ := .mk' (z := .nilFunc) (by kernel_rfl) rfl Tryz.underlying37 trivial
theorem ty38 : TyOK Tryz.prog 38 ⟨.sc, [.nilFunc], 8⟩ := .mk' (z := .nilFunc) (by kernel_rfl) rfl Tryz.underlying38 trivial
theorem ty40 : TyOK Tryz.prog 40 ⟨.sc, [.nilFunc], 8⟩ := .mk' (z := .nilFunc) (by kernel_rfl) rfl Tryz.underlying40 trivial
theorem ty41 : TyOK Tryz.prog 41 ⟨.sc, [.nilFunc], 8⟩ := .mk' (z := .nilFunc) (by kernel_rfl) rfl Tryz.underlying41 trivial
theorem ty42 : TyOK Tryz.prog 42 ⟨.sc, [.nilFunc], 8⟩ := .mk' (z := .nilFunc) (by kernel_rfl) rfl Tryz.underlying42 trivial
theorem ty43 : TyOK Tryz.prog 43 ⟨.sc, [.nilFunc], 8⟩ := .mk' (z := .nilFunc) (by kernel_rfl) rfl Tryz.underlying43 trivial
theorem ty44 : TyOK Tryz.prog 44 ⟨.sc, [.nilFunc], 8⟩ := .mk' (z := .nilFunc) (by kernel_rfl) rfl Tryz.underlying44 trivial
theorem ty45 : TyOK Tryz.prog 45 ⟨.sc, [.nilFunc], 8⟩ := .mk' (z := .nilFunc) (by kernel_rfl) rfl Tryz.underlying45 trivial
theorem ty46 : TyOK Tryz.prog 46 ⟨.sc, [.nilFunc], 8⟩ := .mk' (z := .nilFunc) (by kernel_rfl) rfl Tryz.underlying46 trivial
theorem ty47 : TyOK Tryz.prog 47 ⟨.sc, [.nilFunc], 8⟩ := .mk' (z := .nilFunc) (by kernel_rfl) rfl Tryz.underlying47 trivial
theorem ty48 : TyOK Tryz.prog 48 ⟨.sc, [.nilFunc], 8⟩ := .mk' (z := .nilFunc) (by kernel_rfl) rfl Tryz.underlying48 trivial
theorem ty50 : TyOK Tryz.prog 50 ⟨.sc, [.nilFunc], 8⟩ := .mk' (z := .nilFunc) (by kernel_rfl) rfl Tryz.underlying50 trivial
theorem ty51 : TyOK Tryz.prog 51 ⟨.ar 8 24, [.int .i64 0, .int .i64 0, .int .i64 0, .int .i64 0, .int .i64 0, .int .i64 0, .int .i64 0, .int .i64 0, .int .i64 0, .int .i64 0, .int .i64 0, .int .i64 0, .int .i64 0, .int .i64 0, .int .i64 0, .int .i64 0], 128⟩ := .mk' (z := .agg #[.int .i64 0, .int .i64 0, .int .i64 0, .int .i64 0, .int .i64 0, .int .i64 0, .int .i64 0, .int .i64 0, .int .i64 0, .int .i64 0, .int .i64 0, .int .i64 0, .int .i64 0, .int .i64 0, .int .i64 0, .int .i64 0]) (by kernel_rfl) rfl Tryz.underlying51 rfl
theorem ty52 : TyOK Tryz.prog 52 ⟨.sc, [.nilFunc], 8⟩ := .mk' (z := .nilFunc) (by kernel_rfl) rfl Tryz.underlying52 trivial
theorem ty53 : TyOK Tryz.prog 53 ⟨.sc, [.nilFunc], 8⟩ := .mk' (z := .nilFunc) (by kernel_rfl) rfl Tryz.underlying53 trivial
theorem ty54 : TyOK Tryz.prog 54 ⟨.sc, [.nilFunc], 8⟩ := .mk' (z := .nilFunc) (by kernel_rfl) rfl Tryz.underlying54 trivial
theorem ty55 : TyOK Tryz.prog 55 ⟨.sc, [.nilFunc], 8⟩ := .mk' (z := .nilFunc) (by kernel_rfl) rfl Tryz.underlying55 trivial
theorem ty56 : TyOK Tryz.prog 56 ⟨.sc, [.nilFunc], 8⟩ := .mk' (z := .nilFunc) (by kernel_rfl) rfl Tryz.underlying56 trivial
theorem ty57 : TyOK Tryz.prog 57 ⟨.sc, [.nilFunc], 8⟩ := .mk' (z := .nilFunc) (by kernel_rfl) rfl Tryz.underlying57 trivial
theorem ty58 : TyOK Tryz.prog 58 ⟨.sc, [.nilFunc], 8⟩ := .mk' (z := .nilFunc) (by kernel_rfl) rfl Tryz.underlying58 trivial
theorem ty59 : TyOK Tryz.prog 59 ⟨.sc, [.nilFunc], 8⟩ := .mk' (z := .nilFunc) (by kernel_rfl) rfl Tryz.underlying59 trivial
theorem ty60 : TyOK Tryz.prog 60 ⟨.sc, [.nilFunc], 8⟩ := .mk' (z := .nilFunc) (by kernel_rfl) rfl Tryz.underlying60 trivial
theorem ty61 : TyOK Tryz.prog 61 ⟨.sc, [.nilFunc], 8⟩ := .mk' (z := .nilFunc) (by kernel_rfl) rfl Tryz.underlying61 trivial
theorem ty62 : TyOK Tryz.prog 62 ⟨.sc, [.nilFunc], 8⟩ := .mk' (z := .nilFunc) (by kernel_rfl) rfl Tryz.underlying62 trivial
theorem ty63 : TyOK Tryz.prog 63 ⟨.sc, [.nilFunc], 8⟩ := .mk' (z := .nilFunc) (by kernel_rfl) rfl Tryz.underlying63 trivial
theorem ty65 : TyOK Tryz.prog 65 ⟨.sc, [.nilFunc], 8⟩ := .mk' (z := .nilFunc) (by kernel_rfl) rfl Tryz.underlying65 trivial
theorem ty66 : TyOK Tryz.prog 66 ⟨.sc, [.nilFunc], 8⟩ := .mk' (z := .nilFunc) (by kernel_rfl) rfl Tryz.underlying66 trivial
theorem ty67 : TyOK Tryz.prog 67 ⟨.sc, [.nilFunc], 8⟩ := .mk' (z := .nilFunc) (by kernel_rfl) rfl Tryz.underlying67 trivial
theorem ty68 : TyOK Tryz.prog 68 ⟨.sc, [.nilFunc], 8⟩ := .mk' (z := .nilFunc) (by kernel_rfl) rfl Tryz.underlying68 trivial
theorem ty69 : TyOK Tryz.prog 69 ⟨.sc, [.nilFunc], 8⟩ := .mk' (z := .nilFunc) (by kernel_rfl) rfl Tryz.underlying69 trivial
theorem ty70 : TyOK Tryz.prog 70 ⟨.sc, [.nilFunc], 8⟩ := .mk' (z := .nilFunc) (by kernel_rfl) rfl Tryz.underlying70 trivial
theorem ty71 : TyOK Tryz.prog 71 ⟨.sc, [.nilFunc], 8⟩ := .mk' (z := .nilFunc) (by kernel_rfl) rfl Tryz.underlying71 trivial
theorem ty72 : TyOK Tryz.prog 72 ⟨.sc, [.nilFunc], 8⟩ := .mk' (z := .nilFunc) (by kernel_rfl) rfl Tryz.underlying72 trivial
theorem ty73 : TyOK Tryz.prog 73 ⟨.sc, [.nilFunc], 8⟩ := .mk' (z := .nilFunc) (by kernel_rfl) rfl Tryz.underlying73 trivial
theorem ty74 : TyOK Tryz.prog 74 ⟨.sc, [.nilFunc], 8⟩ := .mk' (z := .nilFunc) (by kernel_rfl) rfl Tryz.underlying74 trivial
theorem ty75 : TyOK Tryz.prog 75 ⟨.sc, [.nilFunc], 8⟩ := .mk' (z := .nilFunc) (by kernel_rfl) rfl Tryz.underlying75 trivial
theorem ty76 : TyOK Tryz.prog 76 ⟨.st [(0, 22)], [.slice none 0 0], 24⟩ := .mk' (z := .agg #[.slice none 0 0]) (by kernel_rfl) rfl Tryz.underlying76 ⟨_, rfl, rfl⟩
theorem ty77 : TyOK Tryz.prog 77 ⟨.st [(0, 22)], [.slice none 0 0], 24⟩ := .mk' (z := .agg #[.slice none 0 0]) (by kernel_rfl) rfl Tryz.underlying77 ⟨_, rfl, rfl⟩
theorem ty78 : TyOK Tryz.prog 78 ⟨.st [(0, 77)], [.slice none 0 0], 24⟩ := .mk' (z := .agg #[.slice none 0 0]) (by kernel_rfl) rfl Tryz.underlying78 ⟨_, rfl, rfl⟩
theorem ty79 : TyOK Tryz.prog 79 ⟨.st [(0, 77)], [.slice none 0 0], 24⟩ := .mk' (z := .agg #[.slice none 0 0]) (by kernel_rfl) rfl Tryz.underlying79 ⟨_, rfl, rfl⟩
theorem ty80 : TyOK Tryz.prog 80 ⟨.sc, [.nilFunc], 8⟩ := .mk' (z := .nilFunc) (by kernel_rfl) rfl Tryz.underlying80 trivial
theorem ty81 : TyOK Tryz.prog 81 ⟨.sc, [.nilFunc], 8⟩ := .mk' (z := .nilFunc) (by kernel_rfl) rfl Tryz.underlying81 trivial
theorem ty82 : TyOK Tryz.prog 82 ⟨.st [(0, 3), (1, 3), (2, 3)], [.int .i64 0, .int .i64 0, .int .i64 0], 24⟩ := .mk' (z := .agg #[.int .i64 0, .int .i64 0, .int .i64 0]) (by kernel_rfl) rfl Tryz.underlying82 ⟨_, rfl, rfl⟩
theorem ty83 : TyOK Tryz.prog 83 ⟨.st [(0, 3), (1, 3), (2, 3)], [.int .i64 0, .int .i64 0, .int .i64 0], 24⟩ := .mk' (z := .agg #[.int .i64 0, .int .i64 0, .int .i64 0]) (by kernel_rfl) rfl Tryz.underlying83 ⟨_, rfl, rfl⟩
theorem ty84 : TyOK Tryz.prog 84 ⟨.sc, [.nilFunc], 8⟩ := .mk' (z := .nilFunc) (by kernel_rfl) rfl Tryz.underlying84 trivial
theorem ty85 : TyOK Tryz.prog 85 ⟨.sc, [.nilFunc], 8⟩ := .mk' (z := .nilFunc) (by kernel_rfl) rfl Tryz.underlying85 trivial
theorem ty86 : TyOK Tryz.prog 86 ⟨.sc, [.nilFunc], 8⟩ := .mk' (z := .nilFunc) (by kernel_rfl) rfl Tryz.underlying86 trivial
theorem ty87 : TyOK Tryz.prog 87 ⟨.sc, [.nilFunc], 8⟩ := .mk' (z := .nilFunc) (by kernel_rfl) rfl Tryz.underlying87 trivial
theorem ty88 : TyOK Tryz.prog 88 ⟨.sc, [.nilFunc], 8⟩ := .mk' (z := .nilFunc) (by kernel_rfl) rfl Tryz.underlying88 trivial
theorem ty89 : TyOK Tryz.prog 89 ⟨.sc, [.nilFunc], 8⟩ := .mk' (z := .nilFunc) (by kernel_rfl) rfl Tryz.underlying89 trivial
theorem ty90 : TyOK Tryz.prog 90 ⟨.sc, [.nilFunc], 8⟩ := .mk' (z := .nilFunc) (by kernel_rfl) rfl Tryz.underlying90 trivial
theorem ty91 : TyOK Tryz.prog 91 ⟨.sc, [.nilFunc], 8⟩ := .mk' (z := .nilFunc) (by kernel_rfl) rfl Tryz.underlying91 trivial
theorem ty92 : TyOK Tryz.prog 92 ⟨.sc, [.nilFunc], 8⟩ := .mk' (z := .nilFunc) (by kernel_rfl) rfl Tryz.underlying92 trivial
theorem ty93 : TyOK Tryz.prog 93 ⟨.sc, [.nilFunc], 8⟩ := .mk' (z := .nilFunc) (by kernel_rfl) rfl Tryz.underlying93 trivial
theorem ty95 : TyOK Tryz.prog 95 ⟨.sc, [.nilFunc], 8⟩ := .mk' (z := .nilFunc) (by kernel_rfl) rfl Tryz.underlying95 trivial
theorem ty96 : TyOK Tryz.prog 96 ⟨.sc, [.nilFunc], 8⟩ := .mk' (z := .nilFunc) (by kernel_rfl) rfl Tryz.underlying96 trivial
theorem ty97 : TyOK Tryz.prog 97 ⟨.sc, [.nilFunc], 8⟩ := .mk' (z := .nilFunc) (by kernel_rfl) rfl Tryz.underlying97 trivial
theorem ty98 : TyOK Tryz.prog 98 ⟨.sc, [.nilFunc], 8⟩ := .mk' (z := .nilFunc) (by kernel_rfl) rfl Tryz.underlying98 trivial
theorem ty99 : TyOK Tryz.prog 99 ⟨.sc, [.nilFunc], 8⟩ := .mk' (z := .nilFunc) (by kernel_rfl) rfl Tryz.underlying99 trivial
theorem ty100 : TyOK Tryz.prog 100 ⟨.sc, [.nilFunc], 8⟩ := .mk' (z := .nilFunc) (by kernel_rfl) rfl Tryz.underlying100 trivial
theorem ty101 : TyOK Tryz.prog 101 ⟨.sl 24, [.slice none 0 0], 24⟩ := .mk' (z := .slice none 0 0) (by kernel_rfl) rfl Tryz.underlying101 rfl
theorem ty102 : TyOK Tryz.prog 102 ⟨.sc, [.nilFunc], 8⟩ := .mk' (z := .nilFunc) (by kernel_rfl) rfl Tryz.underlying102 trivial
theorem ty103 : TyOK Tryz.prog 103 ⟨.sc, [.nilFunc], 8⟩ := .mk' (z := .nilFunc) (by kernel_rfl) rfl Tryz.underlying103 trivial
theorem ty104 : TyOK Tryz.prog 104 ⟨.sc, [.nilFunc], 8⟩ := .mk' (z := .nilFunc) (by kernel_rfl) rfl Tryz.underlying104 trivial
theorem ty105 : TyOK Tryz.prog 105 ⟨.sc, [.nilFunc], 8⟩ := .mk' (z := .nilFunc) (by kernel_rfl) rfl Tryz.underlying105 trivial
theorem ty106 : TyOK Tryz.prog 106 ⟨.sc, [.pointer none], 8⟩ := .mk' (z := .pointer none) (by kernel_rfl) rfl Tryz.underlying106 trivial
theorem ty107 : TyOK Tryz.prog 107 ⟨.st [(0, 83)], [.int .i64 0, .int .i64 0, .int .i64 0], 24⟩ := .mk' (z := .agg #[.int .i64 0, .int .i64 0, .int .i64 0]) (by kernel_rfl) rfl Tryz.underlying107 ⟨_, rfl, rfl⟩
theorem ty108 : TyOK Tryz.prog 108 ⟨.st [(0, 83)], [.int .i64 0, .int .i64 0, .int .i64 0], 24⟩ := .mk' (z := .agg #[.int .i64 0, .int .i64 0, .int .i64 0]) (by kernel_rfl) rfl Tryz.underlying108 ⟨_, rfl, rfl⟩
theorem ty109 : TyOK Tryz.prog 109 ⟨.sc, [.nilFunc], 8⟩ := .mk' (z := .nilFunc) (by kernel_rfl) rfl Tryz.underlying109 trivial
theorem ty110 : TyOK Tryz.prog 110 ⟨.sc, [.nilFunc], 8⟩ := .mk' (z := .nilFunc) (by kernel_rfl) rfl Tryz.underlying110 trivial
theorem ty111 : TyOK Tryz.prog 111 ⟨.sc, [.nilFunc], 8⟩ := .mk' (z := .nilFunc) (by kernel_rfl) rfl Tryz.underlying111 trivial
theorem ty113 : TyOK Tryz.prog 113 ⟨.sc, [.nilFunc], 8⟩ := .mk' (z := .nilFunc) (by kernel_rfl) rfl Tryz.underlying113 trivial
theorem ty114 : TyOK Tryz.prog 114 ⟨.sc, [.pointer none], 8⟩ := .mk' (z := .pointer none) (by kernel_rfl) rfl Tryz.underlying114 trivial
theorem ty115 : TyOK Tryz.prog 115 ⟨.sc, [.nilFunc], 8⟩ := .mk' (z := .nilFunc) (by kernel_rfl) rfl Tryz.underlying115 trivial
theorem ty116 : TyOK Tryz.prog 116 ⟨.sc, [.nilFunc], 8⟩ := .mk' (z := .nilFunc) (by kernel_rfl) rfl Tryz.underlying116 trivial
theorem ty117 : TyOK Tryz.prog 117 ⟨.sc, [.nilFunc], 8⟩ := .mk' (z := .nilFunc) (by kernel_rfl) rfl Tryz.underlying117 trivial
theorem ty118 : TyOK Tryz.prog 118 ⟨.sc, [.nilFunc], 8⟩ := .mk' (z := .nilFunc) (by kernel_rfl) rfl Tryz.underlying118 trivial
theorem ty119 : TyOK Tryz.prog 119 ⟨.sc, [.nilFunc], 8⟩ := .mk' (z := .nilFunc) (by kernel_rfl) rfl Tryz.underlying119 trivial
theorem ty120 : TyOK Tryz.prog 120 ⟨.sc, [.nilFunc], 8⟩ := .mk' (z := .nilFunc) (by kernel_rfl) rfl Tryz.underlying120 trivial
theorem ty121 : TyOK Tryz.prog 121 ⟨.sc, [.nilFunc], 8⟩ := .mk' (z := .nilFunc) (by kernel_rfl) rfl Tryz.underlying121 trivial
theorem ty122 : TyOK Tryz.prog 122 ⟨.sl 3, [.slice none 0 0], 24⟩ := .mk' (z := .slice none 0 0) (by kernel_rfl) rfl Tryz.underlying122 rfl
theorem ty123 : TyOK Tryz.prog 123 ⟨.sc, [.nilFunc], 8⟩ := .mk' (z := .nilFunc) (by kernel_rfl) rfl Tryz.underlying123 trivial
theorem ty124 : TyOK Tryz.prog 124 ⟨.sc, [.nilFunc], 8⟩ := .mk' (z := .nilFunc) (by kernel_rfl) rfl Tryz.underlying124 trivial
theorem ty125 : TyOK Tryz.prog 125 ⟨.int .u64, [.int .u64 0], 8⟩ := .mk' (z := .int .u64 0) (by kernel_rfl) rfl Tryz.underlying125 rfl
theorem ty126 : TyOK Tryz.prog 126 ⟨.sc, [.pointer none], 8⟩ := .mk' (z := .pointer none) (by kernel_rfl) rfl Tryz.underlying126 trivial
theorem ty127 : TyOK Tryz.prog 127 ⟨.sc, [.nilFunc], 8⟩ := .mk' (z := .nilFunc) (by kernel_rfl) rfl Tryz.underlying127 trivial
theorem ty128 : TyOK Tryz.prog 128 ⟨.ar 2 3, [.int .i64 0, .int .i64 0], 16⟩ := .mk' (z := .agg #[.int .i64 0, .int .i64 0]) (by kernel_rfl) rfl Tryz.underlying128 rfl
theorem ty129 : TyOK Tryz.prog 129 ⟨.sc, [.nilFunc], 8⟩ := .mk' (z := .nilFunc) (by kernel_rfl) rfl Tryz.underlying129 trivial
theorem ty130 : TyOK Tryz.prog 130 ⟨.sc, [.nilFunc], 8⟩ := .mk' (z := .nilFunc) (by kernel_rfl) rfl Tryz.underlying130 trivial
theorem ty131 : TyOK Tryz.prog 131 ⟨.sc, [.nilFunc], 8⟩ := .mk' (z := .nilFunc) (by kernel_rfl) rfl Tryz.underlying131 trivial
theorem ty132 : TyOK Tryz.prog 132 ⟨.sc, [.nilFunc], 8⟩ := .mk' (z := .nilFunc) (by kernel_rfl) rfl Tryz.underlying132 trivial
theorem ty133 : TyOK Tryz.prog 133 ⟨.int .i64, [.int .i64 0], 8⟩ := .mk' (z := .int .i64 0) (by kernel_rfl) rfl Tryz.underlying133 rfl
theorem ty135 : TyOK Tryz.prog 135 ⟨.sc, [.nilFunc], 8⟩ := .mk' (z := .nilFunc) (by kernel_rfl) rfl Tryz.underlying135 trivial
theorem ty136 : TyOK Tryz.prog 136 ⟨.sc, [.nilFunc], 8⟩ := .mk' (z := .nilFunc) (by kernel_rfl) rfl Tryz.underlying136 trivial
theorem ty137 : TyOK Tryz.prog 137 ⟨.sc, [.nilFunc], 8⟩ := .mk' (z := .nilFunc) (by kernel_rfl) rfl Tryz.underlying137 trivial
theorem ty139 : TyOK Tryz.prog 139 ⟨.sc, [.nilFunc], 8⟩ := .mk' (z := .nilFunc) (by kernel_rfl) rfl Tryz.underlying139 trivial
theorem ty140 : TyOK Tryz.prog 140 ⟨.sc, [.nilFunc], 8⟩ := .mk' (z := .nilFunc) (by kernel_rfl) rfl Tryz.underlying140 trivial
theorem ty141 : TyOK Tryz.prog 141 ⟨.int .u32, [.int .u32 0], 4⟩ := .mk' (z := .int .u32 0) (by kernel_rfl) rfl Tryz.underlying141 rfl
theorem ty142 : TyOK Tryz.prog 142 ⟨.sc, [.nilFunc], 8⟩ := .mk' (z := .nilFunc) (by kernel_rfl) rfl Tryz.underlying142 trivial
theorem ty143 : TyOK Tryz.prog 143 ⟨.int .u64, [.int .u64 0], 8⟩ := .mk' (z := .int .u64 0) (by kernel_rfl) rfl Tryz.underlying143 rfl
theorem ty144 : TyOK Tryz.prog 144 ⟨.sc, [.nilFunc], 8⟩ := .mk' (z := .nilFunc) (by kernel_rfl) rfl Tryz.underlying144 trivial
theorem ty145 : TyOK Tryz.prog 145 ⟨.int .u64, [.int .u64 0], 8⟩ := .mk' (z := .int .u64 0) (by kernel_rfl) rfl Tryz.underlying145 rfl
theorem ty146 : TyOK Tryz.prog 146 ⟨.sc, [.nilFunc], 8⟩ := .mk' (z := .nilFunc) (by kernel_rfl) rfl Tryz.underlying146 trivial
theorem ty147 : TyOK Tryz.prog 147 ⟨.sc, [.nilFunc], 8⟩ := .mk' (z := .nilFunc) (by kernel_rfl) rfl Tryz.underlying147 trivial
theorem ty148 : TyOK Tryz.prog 148 ⟨.sc, [.nilFunc], 8⟩ := .mk' (z := .nilFunc) (by kernel_rfl) rfl Tryz.underlying148 trivial
theorem ty149 : TyOK Tryz.prog 149 ⟨.sc, [.pointer none], 8⟩ := .mk' (z := .pointer none) (by kernel_rfl) rfl Tryz.underlying149 trivial
theorem ty150 : TyOK Tryz.prog 150 ⟨.sc, [.nilFunc], 8⟩ := .mk' (z := .nilFunc) (by kernel_rfl) rfl Tryz.underlying150 trivial
theorem ty151 : TyOK Tryz.prog 151 ⟨.sc, [.pointer none], 8⟩ := .mk' (z := .pointer none) (by kernel_rfl) rfl Tryz.underlying151 trivial
theorem ty152 : TyOK Tryz.prog 152 ⟨.sc, [.nilFunc], 8⟩ := .mk' (z := .nilFunc) (by kernel_rfl) rfl Tryz.underlying152 trivial
theorem ty153 : TyOK Tryz.prog 153 ⟨.sc, [.nilFunc], 8⟩ := .mk' (z := .nilFunc) (by kernel_rfl) rfl Tryz.underlying153 trivial
theorem ty154 : TyOK Tryz.prog 154 ⟨.st [(0, 17), (1, 17), (2, 17), (3, 9)], [.pointer none, .pointer none, .pointer none, .string ByteArray.empty], 40⟩ := .mk' (z := .agg #[.pointer none, .pointer none, .pointer none, .string ByteArray.empty]) (by kernel_rfl) rfl Tryz.underlying154 ⟨_, rfl, rfl⟩
theorem ty155 : TyOK Tryz.prog 155 ⟨.st [(0, 17), (1, 17), (2, 17), (3, 9)], [.pointer none, .pointer none, .pointer none, .string ByteArray.empty], 40⟩ := .mk' (z := .agg #[.pointer none, .pointer none, .pointer none, .string ByteArray.empty]) (by kernel_rfl) rfl Tryz.underlying155 ⟨_, rfl, rfl⟩
theorem ty156 : TyOK Tryz.prog 156 ⟨.ar 0 16, [], 0⟩ := .mk' (z := .agg #[]) (by kernel_rfl) rfl Tryz.underlying156 rfl
theorem ty157 : TyOK Tryz.prog 157 ⟨.st [(0, 156)], [], 0⟩ := .mk' (z := .agg #[]) (by kernel_rfl) rfl Tryz.underlying157 ⟨_, rfl, rfl⟩
theorem ty158 : TyOK Tryz.prog 158 ⟨.st [(0, 156)], [], 0⟩ := .mk' (z := .agg #[]) (by kernel_rfl) rfl Tryz.underlying158 ⟨_, rfl, rfl⟩
theorem ty159 : TyOK Tryz.prog 159 ⟨.sc, [.nilFunc], 8⟩ := .mk' (z := .nilFunc) (by kernel_rfl) rfl Tryz.underlying159 trivial
theorem ty160 : TyOK Tryz.prog 160 ⟨.int .u8, [.int .u8 0], 1⟩ := .mk' (z := .int .u8 0) (by kernel_rfl) rfl Tryz.underlying160 rfl
theorem ty161 : TyOK Tryz.prog 161 ⟨.int .u8, [.int .u8 0], 1⟩ := .mk' (z := .int .u8 0) (by kernel_rfl) rfl Tryz.underlying161 rfl
theorem ty162 : TyOK Tryz.prog 162 ⟨.sc, [.nilFunc], 8⟩ := .mk' (z := .nilFunc) (by kernel_rfl) rfl Tryz.underlying162 trivial
theorem ty163 : TyOK Tryz.prog 163 ⟨.sc, [.pointer none], 8⟩ := .mk' (z := .pointer none) (by kernel_rfl) rfl Tryz.underlying163 trivial
theorem ty164 : TyOK Tryz.prog 164 ⟨.int .i32, [.int .i32 0], 4⟩ := .mk' (z := .int .i32 0) (by kernel_rfl) rfl Tryz.underlying164 rfl
theorem ty165 : TyOK Tryz.prog 165 ⟨.int .i32, [.int .i32 0], 4⟩ := .mk' (z := .int .i32 0) (by kernel_rfl) rfl Tryz.underlying165 rfl
theorem ty166 : TyOK Tryz.prog 166 ⟨.st [(0, 12), (1, 12), (2, 141), (3, 160), (4, 5), (5, 5), (6, 161), (7, 162), (8, 163), (9, 164), (10, 165)], [.int .u64 0, .int .u64 0, .int .u32 0, .int .u8 0, .int .u8 0, .int .u8 0, .int .u8 0, .nilFunc, .pointer none, .int .i32 0, .int .i32 0], 48⟩ := .mk' (z := .agg #[.int .u64 0, .int .u64 0, .int .u32 0, .int .u8 0, .int .u8 0, .int .u8 0, .int .u8 0, .nilFunc, .pointer none, .int .i32 0, .int .i32 0]) (by kernel_rfl) rfl Tryz.underlying166 ⟨_, rfl, rfl⟩
theorem ty167 : TyOK Tryz.prog 167 ⟨.st [(0, 12), (1, 12), (2, 141), (3, 160), (4, 5), (5, 5), (6, 161), (7, 162), (8, 163), (9, 164), (10, 165)], [.int .u64 0, .int .u64 0, .int .u32 0, .int .u8 0, .int .u8 0, .int .u8 0, .int .u8 0, .nilFunc, .pointer none, .int .i32 0, .int .i32 0], 48⟩ := .mk' (z := .agg #[.int .u64 0, .int .u64 0, .int .u32 0, .int .u8 0, .int .u8 0, .int .u8 0, .int .u8 0, .nilFunc, .pointer none, .int .i32 0, .int .i32 0]) (by kernel_rfl) rfl Tryz.underlying167 ⟨_, rfl, rfl⟩
theorem ty168 : TyOK Tryz.prog 168 ⟨.sc, [.pointer none], 8⟩ := .mk' (z := .pointer none) (by kernel_rfl) rfl Tryz.underlying168 trivial
def te : List (Nat × TI) := [(1, ⟨.sc, [.nilFunc], 8⟩),
 (2, ⟨.int .i64, [.int .i64 0], 8⟩),
 (3, ⟨.int .i64, [.int .i64 0], 8⟩),
 (4, ⟨.bool, [.bool false], 1⟩),
 (5, ⟨.int .u8, [.int .u8 0], 1⟩),
 (6, ⟨.int .u8, [.int .u8 0], 1⟩),
 (7, ⟨.st [(0, 2), (1, 3), (2, 4), (3, 6)], [.int .i64 0, .int .i64 0, .bool false, .int .u8 0], 24⟩),
 (8, ⟨.st [(0, 2), (1, 3), (2, 4), (3, 6)], [.int .i64 0, .int .i64 0, .bool false, .int .u8 0], 24⟩),
 (9, ⟨.sc, [.string ByteArray.empty], 16⟩),
 (10, ⟨.sc, [.string ByteArray.empty], 16⟩),
 (11, ⟨.sc, [.string ByteArray.empty], 16⟩),
 (12, ⟨.int .u64, [.int .u64 0], 8⟩),
 (13, ⟨.st [(0, 9), (1, 12)], [.string ByteArray.empty, .int .u64 0], 24⟩),
 (14, ⟨.st [(0, 9), (1, 12)], [.string ByteArray.empty, .int .u64 0], 24⟩),
 (15, ⟨.sc, [.pointer none], 8⟩),
 (16, ⟨.sc, [.pointer none], 8⟩),
 (17, ⟨.sc, [.pointer none], 8⟩),
 (18, ⟨.st [(0, 17)], [.pointer none], 8⟩),
 (19, ⟨.st [(0, 17)], [.pointer none], 8⟩),
 (21, ⟨.int .i32, [.int .i32 0], 4⟩),
 (22, ⟨.sl 27, [.slice none 0 0], 24⟩),
 (23, ⟨.st [(0, 3), (1, 3)], [.int .i64 0, .int .i64 0], 16⟩),
 (24, ⟨.st [(0, 3), (1, 3)], [.int .i64 0, .int .i64 0], 16⟩),
 (25, ⟨.sc, [.nilFunc], 8⟩),
 (26, ⟨.sc, [.nilFunc], 8⟩),
 (27, ⟨.sl 24, [.slice none 0 0], 24⟩),
 (28, ⟨.int .i64, [.int .i64 0], 8⟩),
 (30, ⟨.sc, [.nilFunc], 8⟩),
 (31, ⟨.sc, [.nilFunc], 8⟩),
 (33, ⟨.sc, [.nilFunc], 8⟩),
 (34, ⟨.sc, [.nilFunc], 8⟩),
 (35, ⟨.sc, [.nilFunc], 8⟩),
 (36, ⟨.sc, [.nilFunc], 8⟩),
 (37, ⟨.sc, [.nilFunc], 8⟩),
 (38, ⟨.sc, [.nilFunc], 8⟩),
 (40, ⟨.sc, [.nilFunc], 8⟩),
 (41, ⟨.sc, [.nilFunc], 8⟩),
 (42, ⟨.sc, [.nilFunc], 8⟩),
 (43, ⟨.sc, [.nilFunc], 8⟩),
 (44, ⟨.sc, [.nilFunc], 8⟩),
 (45, ⟨.sc, [.nilFunc], 8⟩),
 (46, ⟨.sc, [.nilFunc], 8⟩),
 (47, ⟨.sc, [.nilFunc], 8⟩),
 (48, ⟨.sc, [.nilFunc], 8⟩),
 (50, ⟨.sc, [.nilFunc], 8⟩),
 (51, ⟨.ar 8 24, [.int .i64 0, .int .i64 0, .int .i64 0, .int .i64 0, .int .i64 0, .int .i64 0, .int .i64 0, .int .i64 0, .int .i64 0, .int .i64 0, .int .i64 0, .int .i64 0, .int .i64 0, .int .i64 0, .int .i64 0, .int .i64 0], 128⟩),
 (52, ⟨.sc, [.nilFunc], 8⟩),
 (53, ⟨.sc, [.nilFunc], 8⟩),
 (54, ⟨.sc, [.nilFunc], 8⟩),
 (55, ⟨.sc, [.nilFunc], 8⟩),
 (56, ⟨.sc, [.nilFunc], 8⟩),
 (57, ⟨.sc, [.nilFunc], 8⟩),
 (58, ⟨.sc, [.nilFunc], 8⟩),
 (59, ⟨.sc, [.nilFunc], 8⟩),
 (60, ⟨.sc, [.nilFunc], 8⟩),
 (61, ⟨.sc, [.nilFunc], 8⟩),
 (62, ⟨.sc, [.nilFunc], 8⟩),
 (63, ⟨.sc, [.nilFunc], 8⟩),
 (65, ⟨.sc, [.nilFunc], 8⟩),
 (66, ⟨.sc, [.nilFunc], 8⟩),
 (67, ⟨.sc, [.nilFunc], 8⟩),
 (68, ⟨.sc, [.nilFunc], 8⟩),
 (69, ⟨.sc, [.nilFunc], 8⟩),
 (70, ⟨.sc, [.nilFunc], 8⟩),
 (71, ⟨.sc, [.nilFunc], 8⟩),
 (72, ⟨.sc, [.nilFunc], 8⟩),
 (73, ⟨.sc, [.nilFunc], 8⟩),
 (74, ⟨.sc, [.nilFunc], 8⟩),
 (75, ⟨.sc, [.nilFunc], 8⟩),
 (76, ⟨.st [(0, 22)], [.slice none 0 0], 24⟩),
 (77, ⟨.st [(0, 22)], [.slice none 0 0], 24⟩),
 (78, ⟨.st [(0, 77)], [.slice none 0 0], 24⟩),
 (79, ⟨.st [(0, 77)], [.slice none 0 0], 24⟩),
 (80, ⟨.sc, [.nilFunc], 8⟩),
 (81, ⟨.sc, [.nilFunc], 8⟩),
 (82, ⟨.st [(0, 3), (1, 3), (2, 3)], [.int .i64 0, .int .i64 0, .int .i64 0], 24⟩),
 (83, ⟨.st [(0, 3), (1, 3), (2, 3)], [.int .i64 0, .int .i64 0, .int .i64 0], 24⟩),
 (84, ⟨.sc, [.nilFunc], 8⟩),
 (85, ⟨.sc, [.nilFunc], 8⟩),
 (86, ⟨.sc, [.nilFunc], 8⟩),
 (87, ⟨.sc, [.nilFunc], 8⟩),
 (88, ⟨.sc, [.nilFunc], 8⟩),
 (89, ⟨.sc, [.nilFunc], 8⟩),
 (90, ⟨.sc, [.nilFunc], 8⟩),
 (91, ⟨.sc, [.nilFunc], 8⟩),
 (92, ⟨.sc, [.nilFunc], 8⟩),
 (93, ⟨.sc, [.nilFunc], 8⟩),
 (95, ⟨.sc, [.nilFunc], 8⟩),
 (96, ⟨.sc, [.nilFunc], 8⟩),
 (97, ⟨.sc, [.nilFunc], 8⟩),
 (98, ⟨.sc, [.nilFunc], 8⟩),
 (99, ⟨.sc, [.nilFunc], 8⟩),
 (100, ⟨.sc, [.nilFunc], 8⟩),
 (101, ⟨.sl 24, [.slice none 0 0], 24⟩),
 (102, ⟨.sc, [.nilFunc], 8⟩),
 (103, ⟨.sc, [.nilFunc], 8⟩),
 (104, ⟨.sc, [.nilFunc], 8⟩),
 (105, ⟨.sc, [.nilFunc], 8⟩),
 (106, ⟨.sc, [.pointer none], 8⟩),
 (107, ⟨.st [(0, 83)], [.int .i64 0, .int .i64 0, .int .i64 0], 24⟩),
 (108, ⟨.st [(0, 83)], [.int .i64 0, .int .i64 0, .int .i64 0], 24⟩),
 (109, ⟨.sc, [.nilFunc], 8⟩),
 (110, ⟨.sc, [.nilFunc], 8⟩),
 (111, ⟨.sc, [.nilFunc], 8⟩),
 (113, ⟨.sc, [.nilFunc], 8⟩),
 (114, ⟨.sc, [.pointer none], 8⟩),
 (115, ⟨.sc, [.nilFunc], 8⟩),
 (116, ⟨.sc, [.nilFunc], 8⟩),
 (117, ⟨.sc, [.nilFunc], 8⟩),
 (118, ⟨.sc, [.nilFunc], 8⟩),
 (119, ⟨.sc, [.nilFunc], 8⟩),
 (120, ⟨.sc, [.nilFunc], 8⟩),
 (121, ⟨.sc, [.nilFunc], 8⟩),
 (122, ⟨.sl 3, [.slice none 0 0], 24⟩),
 (123, ⟨.sc, [.nilFunc], 8⟩),
 (124, ⟨.sc, [.nilFunc], 8⟩),
 (125, ⟨.int .u64, [.int .u64 0], 8⟩),
 (126, ⟨.sc, [.pointer none], 8⟩),
 (127, ⟨.sc, [.nilFunc], 8⟩),
 (128, ⟨.ar 2 3, [.int .i64 0, .int .i64 0], 16⟩),
 (129, ⟨.sc, [.nilFunc], 8⟩),
 (130, ⟨.sc, [.nilFunc], 8⟩),
 (131, ⟨.sc, [.nilFunc], 8⟩),
 (132, ⟨.sc, [.nilFunc], 8⟩),
 (133, ⟨.int .i64, [.int .i64 0], 8⟩),
 (135, ⟨.sc, [.nilFunc], 8⟩),
 (136, ⟨.sc, [.nilFunc], 8⟩),
 (137, ⟨.sc, [.nilFunc], 8⟩),
 (139, ⟨.sc, [.nilFunc], 8⟩),
 (140, ⟨.sc, [.nilFunc], 8⟩),
 (141, ⟨.int .u32, [.int .u32 0], 4⟩),
 (142, ⟨.sc, [.nilFunc], 8⟩),
 (143, ⟨.int .u64, [.int .u64 0], 8⟩),
 (144, ⟨.sc, [.nilFunc], 8⟩),
 (145, ⟨.int .u64, [.int .u64 0], 8⟩),
 (146, ⟨.sc, [.nilFunc], 8⟩),
 (147, ⟨.sc, [.nilFunc], 8⟩),
 (148, ⟨.sc, [.nilFunc], 8⟩),
 (149, ⟨.sc, [.pointer none], 8⟩),
 (150, ⟨.sc, [.nilFunc], 8⟩),
 (151, ⟨.sc, [.pointer none], 8⟩),
 (152, ⟨.sc, [.nilFunc], 8⟩),
 (153, ⟨.sc, [.nilFunc], 8⟩),
 (154, ⟨.st [(0, 17), (1, 17), (2, 17), (3, 9)], [.pointer none, .pointer none, .pointer none, .string ByteArray.empty], 40⟩),
 (155, ⟨.st [(0, 17), (1, 17), (2, 17), (3, 9)], [.pointer none, .pointer none, .pointer none, .string ByteArray.empty], 40⟩),
 (156, ⟨.ar 0 16, [], 0⟩),
 (157, ⟨.st [(0, 156)], [], 0⟩),
 (158, ⟨.st [(0, 156)], [], 0⟩),
 (159, ⟨.sc, [.nilFunc], 8⟩),
 (160, ⟨.int .u8, [.int .u8 0], 1⟩),
 (161, ⟨.int .u8, [.int .u8 0], 1⟩),
 (162, ⟨.sc, [.nilFunc], 8⟩),
 (163, ⟨.sc, [.pointer none], 8⟩),
 (164, ⟨.int .i32, [.int .i32 0], 4⟩),
 (165, ⟨.int .i32, [.int .i32 0], 4⟩),
 (166, ⟨.st [(0, 12), (1, 12), (2, 141), (3, 160), (4, 5), (5, 5), (6, 161), (7, 162), (8, 163), (9, 164), (10, 165)], [.int .u64 0, .int .u64 0, .int .u32 0, .int .u8 0, .int .u8 0, .int .u8 0, .int .u8 0, .nilFunc, .pointer none, .int .i32 0, .int .i32 0], 48⟩),
 (167, ⟨.st [(0, 12), (1, 12), (2, 141), (3, 160), (4, 5), (5, 5), (6, 161), (7, 162), (8, 163), (9, 164), (10, 165)], [.int .u64 0, .int .u64 0, .int .u32 0, .int .u8 0, .int .u8 0, .int .u8 0, .int .u8 0, .nilFunc, .pointer none, .int .i32 0, .int .i32 0], 48⟩),
 (168, ⟨.sc, [.pointer none], 8⟩)]
theorem teOK : TEOK Tryz.prog te :=
 teOK_cons ty1 (
 teOK_cons ty2 (
 teOK_cons ty3 (
 teOK_cons ty4 (
 teOK_cons ty5 (
 teOK_cons ty6 (
 teOK_cons ty7 (
 teOK_cons ty8 (
 teOK_cons ty9 (
 teOK_cons ty10 (
 teOK_cons ty11 (
 teOK_cons ty12 (
 teOK_cons ty13 (
 teOK_cons ty14 (
 teOK_cons ty15 (
 teOK_cons ty16 (
 teOK_cons ty17 (
 teOK_cons ty18 (
 teOK_cons ty19 (
 teOK_cons ty21 (
 teOK_cons ty22 (
 teOK_cons ty23 (
 teOK_cons ty24 (
 teOK_cons ty25 (
 teOK_cons ty26 (
 teOK_cons ty27 (
 teOK_cons ty28 (
 teOK_cons ty30 (
 teOK_cons ty31 (
 teOK_cons ty33 (
 teOK_cons ty34 (
 teOK_cons ty35 (
 teOK_cons ty36 (
 teOK_cons ty37 (
 teOK_cons ty38 (
 teOK_cons ty40 (
 teOK_cons ty41 (
 teOK_cons ty42 (
 teOK_cons ty43 (
 teOK_cons ty44 (
 teOK_cons ty45 (
 teOK_cons ty46 (
 teOK_cons ty47 (
 teOK_cons ty48 (
 teOK_cons ty50 (
 teOK_cons ty51 (
 teOK_cons ty52 (
 teOK_cons ty53 (
 teOK_cons ty54 (
 teOK_cons ty55 (
 teOK_cons ty56 (
 teOK_cons ty57 (
 teOK_cons ty58 (
 teOK_cons ty59 (
 teOK_cons ty60 (
 teOK_cons ty61 (
 teOK_cons ty62 (
 teOK_cons ty63 (
 teOK_cons ty65 (
 teOK_cons ty66 (
 teOK_cons ty67 (
 teOK_cons ty68 (
 teOK_cons ty69 (
 teOK_cons ty70 (
 teOK_cons ty71 (
 teOK_cons ty72 (
 teOK_cons ty73 (
 teOK_cons ty74 (
 teOK_cons ty75 (
 teOK_cons ty76 (
 teOK_cons ty77 (
 teOK_cons ty78 (
 teOK_cons ty79 (
 teOK_cons ty80 (
 teOK_cons ty81 (
 teOK_cons ty82 (
 teOK_cons ty83 (
 teOK_cons ty84 (
 teOK_cons ty85 (
 teOK_cons ty86 (
 teOK_cons ty87 (
 teOK_cons ty88 (
 teOK_cons ty89 (
 teOK_cons ty90 (
 teOK_cons ty91 (
 teOK_cons ty92 (
 teOK_cons ty93 (
 teOK_cons ty95 (
 teOK_cons ty96 (
 teOK_cons ty97 (
 teOK_cons ty98 (
 teOK_cons ty99 (
 teOK_cons ty100 (
 teOK_cons ty101 (
 teOK_cons ty102 (
 teOK_cons ty103 (
 teOK_cons ty104 (
 teOK_cons ty105 (
 teOK_cons ty106 (
 teOK_cons ty107 (
 teOK_cons ty108 (
 teOK_cons ty109 (
 teOK_cons ty110 (
 teOK_cons ty111 (
 teOK_cons ty113 (
 teOK_cons ty114 (
 teOK_cons ty115 (
 teOK_cons ty116 (
 teOK_cons ty117 (
 teOK_cons ty118 (
 teOK_cons ty119 (
 teOK_cons ty120 (
 teOK_cons ty121 (
 teOK_cons ty122 (
 teOK_cons ty123 (
 teOK_cons ty124 (
 teOK_cons ty125 (
 teOK_cons ty126 (
 teOK_cons ty127 (
 teOK_cons ty128 (
 teOK_cons ty129 (
 teOK_cons ty130 (
 teOK_cons ty131 (
 teOK_cons ty132 (
 teOK_cons ty133 (
 teOK_cons ty135 (
 teOK_cons ty136 (
 teOK_cons ty137 (
 teOK_cons ty139 (
 teOK_cons ty140 (
 teOK_cons ty141 (
 teOK_cons ty142 (
 teOK_cons ty143 (
 teOK_cons ty144 (
 teOK_cons ty145 (
 teOK_cons ty146 (
 teOK_cons ty147 (
 teOK_cons ty148 (
 teOK_cons ty149 (
 teOK_cons ty150 (
 teOK_cons ty151 (
 teOK_cons ty152 (
 teOK_cons ty153 (
 teOK_cons ty154 (
 teOK_cons ty155 (
 teOK_cons ty156 (
 teOK_cons ty157 (
 teOK_cons ty158 (
 teOK_cons ty159 (
 teOK_cons ty160 (
 teOK_cons ty161 (
 teOK_cons ty162 (
 teOK_cons ty163 (
 teOK_cons ty164 (
 teOK_cons ty165 (
 teOK_cons ty166 (
 teOK_cons ty167 (
 teOK_cons ty168 (
 teOK_nil))))))))))))))))))))))))))))))))))))))))))))))))))))))))))))))))))))))))))))))))))))))))))))))))))))))))))))))))))))))))))))))))))))))))))))))))))))))))))))))
theorem eq23 : ∀ (op : BinOp) (x y x' y' : Int) (W : World), (op = .eql ∨ op = .neq) → ∀ (u v : Operand), (do eqGuard op 23 u v (.agg #[.int .i64 x, .int .i64 y]) (.agg #[.int .i64 x', .int .i64 y']); binOp op 23 (.agg #[.int .i64 x, .int .i64 y]) (.agg #[.int .i64 x', .int .i64 y']) : Sem Value).run Tryz.prog W = .ok (.bool (eqRes op (x == x' && y == y'))) W :=
 eq2_of Tryz.underlying23 rfl rfl rfl rfl Tryz.underlying3 Tryz.underlying3 (by kernel_rfl) (by kernel_rfl)
theorem eq24 : ∀ (op : BinOp) (x y x' y' : Int) (W : World), (op = .eql ∨ op = .neq) → ∀ (u v : Operand), (do eqGuard op 24 u v (.agg #[.int .i64 x, .int .i64 y]) (.agg #[.int .i64 x', .int .i64 y']); binOp op 24 (.agg #[.int .i64 x, .int .i64 y]) (.agg #[.int .i64 x', .int .i64 y']) : Sem Value).run Tryz.prog W = .ok (.bool (eqRes op (x == x' && y == y'))) W :=
 eq2_of Tryz.underlying24 rfl rfl rfl rfl Tryz.underlying3 Tryz.underlying3 (by kernel_rfl) (by kernel_rfl)
theorem en82 : EqN Tryz.prog 82 3 := EqN.of (EqT.st Tryz.underlying82 ty82 rfl (by kernel_rfl) (.cons rfl rfl (EqT.int Tryz.underlying3) (.cons rfl rfl (EqT.int Tryz.underlying3) (.cons rfl rfl (EqT.int Tryz.underlying3) ((.nil _))))) : EqT Tryz.prog 82 3 2 true) (by decide) (by kernel_rfl)
theorem en83 : EqN Tryz.prog 83 3 := EqN.of (EqT.st Tryz.underlying83 ty83 rfl (by kernel_rfl) (.cons rfl rfl (EqT.int Tryz.underlying3) (.cons rfl rfl (EqT.int Tryz.underlying3) (.cons rfl rfl (EqT.int Tryz.underlying3) ((.nil _))))) : EqT Tryz.prog 83 3 2 true) (by decide) (by kernel_rfl)
theorem en107 : EqN Tryz.prog 107 3 := EqN.of (EqT.st Tryz.underlying107 ty107 rfl (by kernel_rfl) (.cons rfl rfl (EqT.st Tryz.underlying83 ty83 rfl (by kernel_rfl) (.cons rfl rfl (EqT.int Tryz.underlying3) (.cons rfl rfl (EqT.int Tryz.underlying3) (.cons rfl rfl (EqT.int Tryz.underlying3) ((.nil _))))) : EqT Tryz.prog 83 3 2 true) ((.nil _))) : EqT Tryz.prog 107 3 3 true) (by decide) (by kernel_rfl)
theorem en108 : EqN Tryz.prog 108 3 := EqN.of (EqT.st Tryz.underlying108 ty108 rfl (by kernel_rfl) (.cons rfl rfl (EqT.st Tryz.underlying83 ty83 rfl (by kernel_rfl) (.cons rfl rfl (EqT.int Tryz.underlying3) (.cons rfl rfl (EqT.int Tryz.underlying3) (.cons rfl rfl (EqT.int Tryz.underlying3) ((.nil _))))) : EqT Tryz.prog 83 3 2 true) ((.nil _))) : EqT Tryz.prog 108 3 3 true) (by decide) (by kernel_rfl)
def cx : VX := { te := te, eq2 := [23, 24], eqN := [(82, 3), (83, 3), (107, 3), (108, 3)], inl := false }
theorem cxOK : VXOK Tryz.prog cx := ⟨fun tn ht => by
 simp only [cx, List.mem_cons, List.not_mem_nil, or_false] at ht
 rcases ht with rfl | rfl | rfl | rfl
 ·exact en82
 ·exact en83
 ·exact en107
 ·exact en108,
 teOK, fun t ht => by
 simp only [cx, List.mem_cons, List.not_mem_nil, or_false] at ht
 rcases ht with rfl | rfl
 ·exact eq23
 ·exact eq24, by kernel_rfl⟩
def cxI : VX := { cx with inl := true }
theorem cxIOK : VXOK Tryz.prog cxI := ⟨cxOK.eqN, cxOK.te, cxOK.eq2, cxOK.mixed⟩
end Go.Proofs.YtdfhnemhkpplbaaGreatDoor
namespace Go.Proofs.YtdfhnemhkpplbaaGreatDoor
open Go
abbrev Pt := Int × Int
def cross (ax ay bx by' cx cy : Int) : Int := (bx - ax) * (cy - ay) - (by' - ay) * (cx - ax)
def isC (x : Int) : Prop := -500000 ≤ x ∧ x ≤ 500000
def isCb (x : Int) : Bool := decide (-500000 ≤ x ∧ x ≤ 500000)
def i64r (x : Int) : Prop := -9223372036854775808 ≤ x ∧ x ≤ 9223372036854775807
theorem isCb_iff {x : Int} : isCb x = true ↔ isC x := by simp [isCb, isC]
def cmpI (x y : Int) : Int := if x < y then -1 else if y < x then 1 else 0
def orL : List Int → Int
 | [] => 0
 | x :: r => if x ≠ 0 then x else orL r
theorem orL_drop : ∀ (xs : List Int) (i : Nat), (∀ j, j < i → xs.getD j 0 = 0) → orL (xs.drop i) = orL xs
 | xs, 0, _ => by simp
 | [], i + 1, _ => by simp
 | x :: xs, i + 1, h => by
  have h0 := h 0 (by omega)
  simp at h0
  subst h0
  rw [List.drop_succ_cons, orL_drop xs i (fun j hj => by have := h (j + 1) (by omega); simpa using this)]
  simp [orL]
def cmpP (ax ay bx by' : Int) : Int := if cmpI ax bx ≠ 0 then cmpI ax bx else cmpI ay by'
def gp (ps : List Pt) (i : Nat) : Pt := ps.getD i (0, 0)
def placeB (p : Pt) : Bool := isCb p.1 && isCb p.2
def crossP (a b c : Pt) : Int := cross a.1 a.2 b.1 b.2 c.1 c.2
def cmpPt (a b : Pt) : Int := cmpP a.1 a.2 b.1 b.2
def v1B (ps : List Pt) (i : Nat) : Bool := placeB (gp ps i) && (i == 0 || decide (cmpPt (gp ps 0) (gp ps i) < 0))
def v2B (a b x : Pt) : Bool := x == a || x == b || decide (0 < crossP a b x)
def v3B (ps : List Pt) (i : Nat) : Bool := (List.range ps.length).all fun k => v2B (gp ps i) (gp ps ((i + 1) % ps.length)) (gp ps k)
def validB (ps : List Pt) : Bool := decide (1 ≤ ps.length) && decide (ps.length ≤ 64) && (List.range ps.length).all (v1B ps) && (decide (ps.length < 3) || (List.range ps.length).all (v3B ps))
def i64P (ps : List Pt) : Prop := ∀ i, i < ps.length → i64r (gp ps i).1 ∧ i64r (gp ps i).2
theorem all_false {n : Nat} {f : Nat → Bool} {i : Nat} (hi : i < n) (h : f i = false) : (List.range n).all f = false := by
 cases hb : (List.range n).all f with
 | false => rfl
 | true => have := List.all_eq_true.1 hb i (List.mem_range.2 hi); rw [h] at this; cases this
theorem all_true {n : Nat} {f : Nat → Bool} (h : ∀ i, i < n → f i = true) : (List.range n).all f = true := List.all_eq_true.2 fun i hi => h i (List.mem_range.1 hi)
theorem all_iff {n : Nat} {f : Nat → Bool} : (List.range n).all f = true ↔ ∀ i, i < n → f i = true := ⟨fun h i hi => List.all_eq_true.1 h i (List.mem_range.2 hi), all_true⟩
def lessB (a b : Pt) : Bool := decide (a.1 < b.1) || (a.1 == b.1 && decide (a.2 < b.2))
theorem lessB_iff (a b : Pt) : lessB a b = decide (cmpPt a b < 0) := by
 obtain ⟨a1, a2⟩ := a
 obtain ⟨b1, b2⟩ := b
 rw [Bool.eq_iff_iff]
 simp only [lessB, cmpPt, cmpP, cmpI, Bool.or_eq_true, Bool.and_eq_true, decide_eq_true_eq, beq_iff_eq]
 repeat' split
 all_goals omega
def r3B (ps : List Pt) (i k : Nat) : Bool := k == i || k == (i + 1) % ps.length || decide (0 < crossP (gp ps i) (gp ps ((i + 1) % ps.length)) (gp ps k))
def validR (ps : List Pt) : Bool := decide (1 ≤ ps.length) && decide (ps.length ≤ 64) && (List.range ps.length).all (fun i => placeB (gp ps i)) && (List.range ps.length).all (fun i => i == 0 || lessB (gp ps 0) (gp ps i)) && (decide (ps.length < 3) || (List.range ps.length).all fun i => (List.range ps.length).all (r3B ps i))
theorem crossP_self (a c : Pt) : crossP a a c = 0 := by simp [crossP, cross]
theorem crossP_swap (a b c : Pt) : crossP a c b = - crossP a b c := by
 simp only [crossP, cross]
 rw [Int.mul_comm (c.1 - a.1), Int.mul_comm (c.2 - a.2)]
 omega
theorem lt_ne {a b : Pt} (h : cmpPt a b < 0) : b ≠ a := by
 intro e; subst e
 simp [cmpPt, cmpP, cmpI] at h
theorem corners_ne {n : Nat} {g : Nat → Pt} (h0 : ∀ i, 0 < i → i < n → g i ≠ g 0)
  (hB : ∀ i, i < n → ∀ k, k < n → g k = g i ∨ g k = g ((i + 1) % n) ∨ 0 < crossP (g i) (g ((i + 1) % n)) (g k)) :
  ∀ a b, a < b → b < n → g a ≠ g b := by
 have hz : ∀ i, 0 < i → i < n → g ((i + 1) % n) ≠ g i := by
  intro i hi hn e
  have := hB i hn 0 (by omega)
  rw [e, crossP_self] at this
  rcases this with h | h | h
  ·exact h0 i hi hn h.symm
  ·exact h0 i hi hn h.symm
  ·omega
 have step : ∀ i j, 0 < i → i < j → j < n → g i = g j → g (i + 1) = g ((j + 1) % n) := by
  intro i j hi hij hj e
  have hsi : (i + 1) % n = i + 1 := Nat.mod_eq_of_lt (by omega)
  have b1 := hB i (by omega) ((j + 1) % n) (Nat.mod_lt _ (by omega))
  have b2 := hB j hj (i + 1) (by omega)
  have z1 := hz i hi (by omega)
  have z2 := hz j (by omega) hj
  rw [hsi] at b1 z1
  rw [← e] at b2 z2
  rcases b1 with b1 | b1 | b1
  ·exact absurd b1 z2
  ·exact b1.symm
  rcases b2 with b2 | b2 | b2
  ·exact absurd b2 z1
  ·exact b2
  ·rw [crossP_swap] at b2; omega
 intro a b hab hb e
 by_cases ha : a = 0
 ·subst ha; exact h0 b hab hb e.symm
 have run : ∀ d, b + d < n → g (a + d) = g (b + d) := by
  intro d
  induction d with
  | zero => intro _; exact e
  | succ d ih =>
   intro h
   have := step (a + d) (b + d) (by omega) (by omega) (by omega) (ih (by omega))
   rw [Nat.mod_eq_of_lt (by omega)] at this
   exact this
 have hlast := step (a + (n - 1 - b)) (b + (n - 1 - b)) (by omega) (by omega) (by omega) (run _ (by omega))
 rw [show (b + (n - 1 - b) + 1) % n = 0 by rw [show b + (n - 1 - b) + 1 = n by omega]; exact Nat.mod_self n] at hlast
 exact h0 _ (by omega) (by omega) hlast
theorem validR_eq (ps : List Pt) : validR ps = validB ps := by
 rw [Bool.eq_iff_iff]
 simp only [validR, validB, Bool.and_eq_true, Bool.or_eq_true, decide_eq_true_eq, all_iff, v1B, v3B, v2B, r3B, lessB_iff, beq_iff_eq]
 constructor
 ·rintro ⟨⟨⟨h1, h2⟩, h3⟩, h4⟩
  refine ⟨⟨h1, fun i hi => ⟨h2 i hi, h3 i hi⟩⟩, ?_⟩
  rcases h4 with h4 | h4
  ·exact .inl h4
  ·refine .inr fun i hi k hk => ?_
   rcases h4 i hi k hk with (h | h) | h
   ·exact .inl (.inl (by rw [h]))
   ·exact .inl (.inr (by rw [h]))
   ·exact .inr h
 ·rintro ⟨⟨h1, h2⟩, h4⟩
  refine ⟨⟨⟨h1, fun i hi => (h2 i hi).1⟩, fun i hi => (h2 i hi).2⟩, ?_⟩
  rcases h4 with h4 | h4
  ·exact .inl h4
  ·refine .inr fun i hi k hk => ?_
   have hne := corners_ne (n := ps.length) (g := gp ps) (fun i hi0 hi => lt_ne (by rcases (h2 i hi).2 with h | h; omega; exact h))
    (fun i hi k hk => by rcases h4 i hi k hk with (h | h) | h; exact .inl h; exact .inr (.inl h); exact .inr (.inr h))
   have inj : ∀ a b, a < ps.length → b < ps.length → gp ps a = gp ps b → a = b := by
    intro a b ha hb e
    rcases Nat.lt_trichotomy a b with h | h | h
    ·exact absurd e (hne a b h hb)
    ·exact h
    ·exact absurd e.symm (hne b a h ha)
   rcases h4 i hi k hk with (h | h) | h
   ·exact .inl (.inl (inj _ _ hk hi h))
   ·exact .inl (.inr (inj _ _ hk (Nat.mod_lt _ (by omega)) h))
   ·exact .inr h
def betwB (a b x : Pt) : Bool := decide (min a.1 b.1 ≤ x.1 ∧ x.1 ≤ max a.1 b.1 ∧ min a.2 b.2 ≤ x.2 ∧ x.2 ≤ max a.2 b.2)
def sideB (ps : List Pt) (x : Pt) (i : Nat) : Bool := decide (0 ≤ crossP (gp ps i) (gp ps ((i + 1) % ps.length)) x)
def hasB (ps : List Pt) (x : Pt) : Bool :=
 if ps.length = 1 then gp ps 0 == x
 else if ps.length = 2 then decide (crossP (gp ps 0) (gp ps 1) x = 0) && betwB (gp ps 0) (gp ps 1) x
 else (List.range ps.length).all (sideB ps x)
def withinB (p q : List Pt) : Bool := p.all (hasB q)
theorem filter_len {α : Type} (f : α → Bool) : ∀ l : List α, decide ((l.filter f).length = l.length) = l.all f
 | [] => rfl
 | x :: l => by
  have ih := filter_len f l
  have := List.length_filter_le f l
  by_cases h : f x = true
  ·rw [List.filter_cons_of_pos h, List.all_cons, h, ← ih]; simp
  ·rw [List.filter_cons_of_neg h, List.all_cons]
   simp only [Bool.not_eq_true] at h
   rw [h]
   simp only [Bool.false_and, decide_eq_false_iff_not, List.length_cons]
   omega
structure CaseS where
 sn : List Int
 cl : List Int
 st : List (List Pt)
structure BelS where
 t : Int
 cs : List CaseS
def gi (l : List Int) (i : Nat) : Int := l.getD i 0
def regionB (r : List (List Pt)) : Bool := decide (r.length ≤ 32) && r.all validB
def gb (bs : List BelS) (i : Nat) : BelS := bs.getD i ⟨0, []⟩
end Go.Proofs.YtdfhnemhkpplbaaGreatDoor
namespace Go.Proofs.YtdfhnemhkpplbaaGreatDoor
open Go Go.V Go.RowKit
def pt (x y : Int) : Value := .agg #[.int .i64 x, .int .i64 y]
theorem mul_bd {a b : Int} (M N : Int) (h1 : -M ≤ a) (h2 : a ≤ M) (h3 : -N ≤ b) (h4 : b ≤ N) (hM : 0 ≤ M) (hN : 0 ≤ N) : -(M * N) ≤ a * b ∧ a * b ≤ M * N := by
 have key : ∀ {a b : Int}, -M ≤ a → a ≤ M → -N ≤ b → b ≤ N → a * b ≤ M * N := by
  intro a b h1 h2 h3 h4
  by_cases ha : 0 ≤ a
  ·by_cases hb : 0 ≤ b
   ·exact Int.mul_le_mul h2 h4 hb hM
   ·have : a * b ≤ 0 := Int.mul_nonpos_of_nonneg_of_nonpos ha (by omega)
    have := Int.mul_nonneg hM hN
    omega
  ·by_cases hb : 0 ≤ b
   ·have : a * b ≤ 0 := Int.mul_nonpos_of_nonpos_of_nonneg (by omega) hb
    have := Int.mul_nonneg hM hN
    omega
   ·have := Int.mul_le_mul (a := -a) (b := -b) (c := M) (d := N) (by omega) (by omega) (by omega) hM
    rw [Int.neg_mul_neg] at this
    exact this
 have e1 := key h1 h2 h3 h4
 have e2 := key (a := -a) (b := b) (by omega) (by omega) h3 h4
 rw [Int.neg_mul] at e2
 omega
theorem bd12 {a b : Int} (h1 : -1000000 ≤ a) (h2 : a ≤ 1000000) (h3 : -1000000 ≤ b) (h4 : b ≤ 1000000) : -1000000000000 ≤ a * b ∧ a * b ≤ 1000000000000 := by
 have := mul_bd 1000000 1000000 h1 h2 h3 h4 (by omega) (by omega)
 omega
theorem turn_fn (ax ay bx by' cx' cy : Int) (M : Mem) (h1 : isC ax) (h2 : isC ay) (h3 : isC bx) (h4 : isC by') (h5 : isC cx') (h6 : isC cy) :
  FnP Tryz.prog 40 [pt ax ay, pt bx by', pt cx' cy] M [.int .i64 (cross ax ay bx by' cx' cy)] := by
 unfold isC at *
 have p1 := bd12 (a := bx - ax) (b := cy - ay) (by omega) (by omega) (by omega) (by omega)
 have p2 := bd12 (a := by' - ay) (b := cx' - ax) (by omega) (by omega) (by omega) (by omega)
 refine Fn.of_vc cxOK Tryz.func40 rfl rfl rfl ?_
 repeat (first | refine VIf.tt ?_ | refine VIf.ff ?_)
 refine VArith.ok (by omega) (by omega) ?_
 repeat (first | refine VIf.tt ?_ | refine VIf.ff ?_)
 refine VArith.ok (by omega) (by omega) ?_
 repeat (first | refine VIf.tt ?_ | refine VIf.ff ?_)
 refine VArith.ok (by omega) (by omega) ?_
 repeat (first | refine VIf.tt ?_ | refine VIf.ff ?_)
 refine VArith.ok (by omega) (by omega) ?_
 repeat (first | refine VIf.tt ?_ | refine VIf.ff ?_)
 refine VArith.ok (by omega) (by omega) ?_
 repeat (first | refine VIf.tt ?_ | refine VIf.ff ?_)
 refine VArith.ok (by omega) (by omega) ?_
 repeat (first | refine VIf.tt ?_ | refine VIf.ff ?_)
 refine VArith.ok (by omega) (by omega) ?_
 repeat (first | refine VIf.tt ?_ | refine VIf.ff ?_)
 exact VFact.mk ⟨rfl, rfl⟩ trivial
end Go.Proofs.YtdfhnemhkpplbaaGreatDoor
namespace Go.Proofs.YtdfhnemhkpplbaaGreatDoor
open Go Go.V Go.RowKit
def cellsP (ps : List Pt) : List Value := ps.flatMap fun p => [.int .i64 p.1, .int .i64 p.2]
def Pts (M : Mem) (v : Value) (ps : List Pt) : Prop := SlAt M 2 v ps.length (cellsP ps)
def ptv (p : Pt) : Value := pt p.1 p.2
def sidesL (ps : List Pt) : List (List Value) := (List.range ps.length).map fun i => [ptv (ps.getD i (0,0)), ptv (ps.getD ((i + 1) % ps.length) (0,0))]
theorem cellsP_get : ∀ (ps : List Pt) (i : Nat), i < ps.length → (cellsP ps)[2 * i]? = some (.int .i64 (ps.getD i (0,0)).1) ∧ (cellsP ps)[2 * i + 1]? = some (.int .i64 (ps.getD i (0,0)).2)
 | [], i, h => by cases h
 | p :: ps, 0, _ => ⟨rfl, rfl⟩
 | p :: ps, i + 1, h => by
  have := cellsP_get ps i (by simpa using h)
  have e1 : 2 * (i + 1) = 2 * i + 1 + 1 := by omega
  rw [e1]
  simpa [cellsP] using this
theorem box1 {M : Mem} {B : Nat} {v : Value} {t : TypeId} (h : M B = some (.cells #[v] t (0, 0))) : M.cell ⟨B, 0, none⟩ = some v := by
 simp [Mem.cell, h]
theorem sides_iter (M : Mem) (B : Nat) (v : Value) (ps : List Pt) (hB : M B = some (.cells #[v] 27 (0, 0))) (hv : Pts M v ps) :
  Iter Tryz.prog 74 #[.pointer (some ⟨B, 0, none⟩)] M (sidesL ps) := by
 obtain ⟨ad, c, rfl, hc, hm, hl, h1, hcell⟩ := hv
 refine Iter.of_vc cxOK Tryz.func74 rfl rfl rfl rfl fun l => ?_
 repeat (first | refine VIf.tt ?_ | refine VIf.ff ?_)
 refine VRead.mk _ (box1 hB) ?_
 repeat (first | refine VIf.tt ?_ | refine VIf.ff ?_)
 refine VCode.loopG cxOK (fun m => m = fun _ => none) rfl Nat
  (fun i => ⟨[(0, .v (.func (.yield l) #[] #[])), (1, .v (.pointer (some ⟨B, 0, none⟩))), (5, .v (.slice ad ps.length c)), (6, .v (.int .i64 ps.length)), (7, .v (.int .i64 i))], [], 0, M, 25, ⟨fun _ => none, some (l, (sidesL ps).drop i), fun _ => none⟩⟩)
  (fun i => i ≤ ps.length) (fun i => ps.length - i) 0 (Nat.zero_le _) ?_ ?_
 ·exact Wk.mk' id ⟨⟨rfl, rfl⟩, ⟨rfl, rfl⟩, ⟨rfl, rfl⟩, ⟨rfl, rfl⟩, ⟨rfl, rfl⟩, trivial⟩ trivial trivial rfl rfl rfl
 rintro i hi m rfl
 repeat (first | refine VIf.tt ?_ | refine VIf.ff ?_)
 refine VIf.mk (fun hlt => ?_) (fun hge => ?_)
 ·have hlt : i < ps.length := by simpa using hlt
  obtain ⟨ad', rfl, hrd⟩ := hcell (by omega)
  have hpt : ∀ k, k < ps.length → ∀ j v, [Value.int .i64 (ps.getD k (0,0)).1, .int .i64 (ps.getD k (0,0)).2][j]? = some v → M.cell ((ad'.add (k * 2)).add j) = some v := by
   intro k hk j v hj
   obtain ⟨g1, g2⟩ := cellsP_get ps k hk
   rw [show (ad'.add (k * 2)).add j = ad'.add (2 * k + j) by rw [Addr.add_add]; congr 1; omega]
   refine hrd _ _ ?_
   match j, hj with
   | 0, hj => rw [← hj]; exact g1
   | 1, hj => rw [← hj]; exact g2
   | j + 2, hj => simp at hj
  repeat (first | refine VIf.tt ?_ | refine VIf.ff ?_)
  refine VIdx.mk ad' i rfl rfl hlt ?_
  repeat (first | refine VIf.tt ?_ | refine VIf.ff ?_)
  refine VReads.mk [.int .i64 (ps.getD i (0,0)).1, .int .i64 (ps.getD i (0,0)).2] rfl (hpt i hlt) ?_
  repeat (first | refine VIf.tt ?_ | refine VIf.ff ?_)
  refine VDraw.go (by kernel_rfl) ?_
  have hmod : (i + 1) % ps.length < ps.length := Nat.mod_lt _ (by omega)
  repeat (first | refine VIf.tt ?_ | refine VIf.ff ?_)
  refine VRead.mk _ (box1 hB) ?_
  conv => whnf
  repeat (first | refine VIf.tt ?_ | refine VIf.ff ?_)
  refine VArith.ok (by omega) (by unfold maxLen at hm; omega) ?_
  repeat (first | refine VIf.tt ?_ | refine VIf.ff ?_)
  refine VRead.mk _ (box1 hB) ?_
  conv => whnf
  repeat (first | refine VIf.tt ?_ | refine VIf.ff ?_)
  refine VDiv.mk (by omega) ?_
  repeat (first | refine VIf.tt ?_ | refine VIf.ff ?_)
  refine VIdx.mk ad' ((i + 1) % ps.length) rfl ?_ hmod ?_
  ·rw [Int.tmod_eq_emod_of_nonneg (by omega)]; simp
  repeat (first | refine VIf.tt ?_ | refine VIf.ff ?_)
  refine VReads.mk [.int .i64 (ps.getD ((i + 1) % ps.length) (0,0)).1, .int .i64 (ps.getD ((i + 1) % ps.length) (0,0)).2] rfl (hpt _ hmod) ?_
  repeat (first | refine VIf.tt ?_ | refine VIf.ff ?_)
  refine VYield.mk ((sidesL ps).drop (i + 1)) ?_ ?_ ?_
  ·simp only [Gh.mk.injEq, and_true, true_and, Option.some.injEq, Prod.mk.injEq]
   rw [List.drop_eq_getElem_cons (by simpa [sidesL] using hlt)]
   simp [sidesL, ptv, pt]
  ·refine VIf.ff ?_
   repeat (first | refine VIf.tt ?_ | refine VIf.ff ?_)
   refine VArith.ok (by omega) (by unfold maxLen at hm; omega) ?_
   exact ⟨rfl, i + 1, hlt, by omega, Wk.mk' id ⟨⟨rfl, rfl⟩, ⟨rfl, rfl⟩, ⟨rfl, rfl⟩, ⟨rfl, rfl⟩, ⟨rfl, rfl⟩, trivial⟩ trivial trivial rfl rfl rfl⟩
  ·refine VIf.tt ?_
   exact VEnd.stop rfl
 ·have hge : i = ps.length := by
   have : ¬ ((i : Int) < (ps.length : Int)) := by simpa using hge
   omega
  subst hge
  exact VEnd.all (by simp [sidesL])
end Go.Proofs.YtdfhnemhkpplbaaGreatDoor
