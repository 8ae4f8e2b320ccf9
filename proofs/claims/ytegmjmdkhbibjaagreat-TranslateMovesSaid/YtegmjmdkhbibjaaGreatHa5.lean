import Derived.Test.YtegmjmdkhbibjaaGreatHa4
import Derived.WalkKit
import Derived.Handy
import Derived.Lib.Hide
import Derived.WalkLawsBesides
import Derived.WalkSpells
import Derived.Deep.RegionHeld3
import Derived.Deep.Draws
import Derived.Sort.Grow
import Derived.Shelf.SlSortCmp.NoneTotal
import Derived.Shelf.Spec.SlicesGrow
set_option linter.unusedVariables false
set_option linter.unusedSimpArgs false
/- Contracts: regions. -/
namespace Go.Proofs.YtegmjmdkhbibjaaGreat
open Go Go.V Go.RowKit
def gr (r : List (List Pt)) (i : Nat) : List Pt := r.getD i []
theorem any_getD {α : Type} (d : α) (g : α → Bool) (l : List α) {i : Nat} (hi : i < l.length) (h : g (l.getD i d) = true) : l.any g = true := by
  rw [List.any_eq_true]
  exact ⟨_, List.getElem_mem hi, by simpa [hi] using h⟩
theorem any_none {α : Type} (d : α) (g : α → Bool) (l : List α) (h : ∀ i, i < l.length → g (l.getD i d) = false) : l.any g = false := by
  rw [List.any_eq_false]
  intro x hx
  obtain ⟨i, hi, rfl⟩ := List.getElem_of_mem hx
  have := h i hi
  simp [hi] at this
  simp [this]
theorem all_getD {α : Type} (d : α) (g : α → Bool) (l : List α) (h : ∀ i, i < l.length → g (l.getD i d) = true) : l.all g = true := by
  rw [List.all_eq_true]
  intro x hx
  obtain ⟨i, hi, rfl⟩ := List.getElem_of_mem hx
  have := h i hi
  simpa [hi] using this
theorem all_getD' {α : Type} (d : α) (g : α → Bool) (l : List α) {i : Nat} (hi : i < l.length) (h : g (l.getD i d) = false) : l.all g = false := by
  cases hb : l.all g with
  | false => rfl
  | true =>
    have := List.all_eq_true.1 hb _ (List.getElem_mem hi)
    simp [hi] at h
    rw [h] at this; cases this
theorem all_at {α : Type} (d : α) {g : α → Bool} {l : List α} (h : l.all g = true) {i : Nat} (hi : i < l.length) : g (l.getD i d) = true := by
  have := List.all_eq_true.1 h _ (List.getElem_mem hi)
  simpa [hi] using this
end Go.Proofs.YtegmjmdkhbibjaaGreat

/- Contracts: lists of cases. -/
namespace Go.Proofs.YtegmjmdkhbibjaaGreat
open Go Go.V Go.RowKit
theorem IntsV.one {M : Mem} {v : Value} {l : List Int} (h : IntsV M v l) : v.oneCell' = true := by obtain ⟨ad, c, rfl, _⟩ := h.get; rfl
theorem RegV.one {M : Mem} {v : Value} {l : List (List Pt)} (h : RegV M v l) : v.oneCell' = true := by obtain ⟨ad, c, rfl, _⟩ := h.get; rfl
end Go.Proofs.YtegmjmdkhbibjaaGreat

/- Contracts: cut.Within, and the reference's. -/
namespace Go.Proofs.YtegmjmdkhbibjaaGreat
open Go Go.V Go.RowKit
theorem injOK_one (r : Nat → Nat) (i : Nat) (e : Option OE) : injOK r [(i, e)] := ⟨fun j hj => by simp at hj, trivial⟩
end Go.Proofs.YtegmjmdkhbibjaaGreat

/- Contracts: the polygons of cases, one after the other. -/
namespace Go.Proofs.YtegmjmdkhbibjaaGreat
open Go Go.V Go.RowKit
/-- Values that say polygons. -/
def PW (M : Mem) : List Value → List (List Pt) → Prop
  | [], [] => True
  | w :: ws, p :: ps => (Pts M w p ∧ i64P p) ∧ PW M ws ps
  | _, _ => False
theorem PW.append {M : Mem} : ∀ {a : List Value} {b : List (List Pt)} {c d}, PW M a b → PW M c d → PW M (a ++ c) (b ++ d)
  | [], [], _, _, _, h => h
  | _ :: _, _ :: _, _, _, h, k => ⟨h.1, PW.append h.2 k⟩
  | [], _ :: _, _, _, h, _ => h.elim
  | _ :: _, [], _, _, h, _ => h.elim
theorem PW.get {M : Mem} : ∀ {a : List Value} {b : List (List Pt)}, PW M a b → a.length = b.length ∧ ∀ k w, a[k]? = some w → Pts M w (gr b k) ∧ i64P (gr b k)
  | [], [], _ => ⟨rfl, fun k w h => by simp at h⟩
  | x :: a, y :: b, h => by
    obtain ⟨h1, h2⟩ := PW.get h.2
    refine ⟨by simp [h1], fun k w hk => ?_⟩
    match k, hk with
    | 0, hk => simp at hk; subst hk; exact h.1
    | k + 1, hk => simp at hk; simpa [gr] using h2 k w hk
  | [], _ :: _, h => h.elim
  | _ :: _, [], h => h.elim
theorem PW.of {M : Mem} (d : Value) : ∀ {a : List Value} {b : List (List Pt)}, a.length = b.length → (∀ k, k < b.length → Pts M (a.getD k d) (gr b k) ∧ i64P (gr b k)) → PW M a b
  | [], [], _, _ => trivial
  | x :: a, y :: b, h, hk => ⟨by simpa [gr] using hk 0 (by simp), PW.of d (by simpa using h) fun k h' => by simpa [gr] using hk (k + 1) (by simpa using h')⟩
  | [], _ :: _, h, _ => by simp at h
  | _ :: _, [], h, _ => by simp at h
/-- A region whose polygons' values are named. -/
def RegW (M : Mem) (s : Value) (st : List (List Pt)) (ws : List Value) : Prop :=
  ws.length = st.length ∧ ∃ ad c, s = .slice ad st.length c ∧ st.length ≤ 9223372036854775807 ∧ ∀ M', M.le M' → ∀ j, j < st.length → ∃ ad', ad = some ad' ∧ M'.cell (ad'.add (j * 1)) = some (ws.getD j (.bool false)) ∧ Pts M' (ws.getD j (.bool false)) (gr st j) ∧ i64P (gr st j)
theorem RegV.w {M : Mem} {s : Value} {st : List (List Pt)} (h : RegV M s st) : ∃ ws, RegW M s st ws := by
  obtain ⟨ad, c, h1, h2, h3⟩ := h.get
  have h4 : ∀ i, ∃ w, i < st.length → ∃ ad', ad = some ad' ∧ Pts M w (gr st i) ∧ i64P (gr st i) ∧ M.cell (ad'.add (i * 1)) = some w := fun i => by
    by_cases hi : i < st.length
    · obtain ⟨ad', w, h⟩ := h3 M (Mem.le_refl _) i hi
      exact ⟨w, fun _ => ⟨ad', h⟩⟩
    · exact ⟨.bool false, fun h => absurd h hi⟩
  obtain ⟨f, hf⟩ := Classical.axiomOfChoice h4
  refine ⟨(List.range st.length).map f, by simp, ad, c, h1, h2, fun M' hM j hj => ?_⟩
  obtain ⟨ad', h5, h6, h7, h8⟩ := hf j hj
  have e : ((List.range st.length).map f).getD j (.bool false) = f j := by simp [hj]
  rw [e]
  exact ⟨ad', h5, Mem.cell_le hM h8, h6.le hM, h7⟩
end Go.Proofs.YtegmjmdkhbibjaaGreat

/- Contracts: the kind of an alarm, in the program and in the reference. -/
namespace Go.Proofs.YtegmjmdkhbibjaaGreat
open Go Go.V Go.RowKit
end Go.Proofs.YtegmjmdkhbibjaaGreat

/- Contracts: the first alarm of beliefs; what is few. -/
namespace Go.Proofs.YtegmjmdkhbibjaaGreat
open Go Go.V Go.RowKit
end Go.Proofs.YtegmjmdkhbibjaaGreat

/- Contracts: what is few; the head of the alarm's laws. -/
namespace Go.Proofs.YtegmjmdkhbibjaaGreat
open Go Go.V Go.RowKit
/-- The elements, one by one. -/
def DL {α : Type} (D : Mem → α → List Value → Prop) (M : Mem) : List α → List (List Value) → Prop
  | [], [] => True
  | x :: l, r :: rows => D M x r ∧ DL D M l rows
  | _, _ => False
theorem DL.get {α : Type} {D : Mem → α → List Value → Prop} {M : Mem} : ∀ {l : List α} {rows : List (List Value)}, DL D M l rows → rows.length = l.length ∧ ∀ (i : Nat) (x : α) (r : List Value), l[i]? = some x → rows[i]? = some r → D M x r
  | [], [], _ => ⟨rfl, fun i x r h => by simp at h⟩
  | x :: l, r :: rows, h => by
    obtain ⟨h1, h2⟩ := DL.get h.2
    refine ⟨by simp [h1], fun i y s hy hs => ?_⟩
    match i, hy, hs with
    | 0, hy, hs => simp at hy hs; subst hy hs; exact h.1
    | i + 1, hy, hs => exact h2 i y s (by simpa using hy) (by simpa using hs)
  | [], _ :: _, h => h.elim
  | _ :: _, [], h => h.elim
theorem Arr.of {α : Type} {D : Mem → α → List Value → Prop} {M : Mem} {k : Nat} {v : Value} {l : List α} (rows : List (List Value)) (hk : ∀ r ∈ rows, r.length = k) (h : SlAt M k v l.length rows.flatten) (hd : DL D M l rows) : Arr D M k v l :=
  ⟨rows, hd.get.1, hk, h, hd.get.2⟩
theorem SlAt.nil (M : Mem) (k : Nat) : SlAt M k (.slice none 0 0) 0 [] := ⟨none, 0, rfl, Nat.le_refl _, Nat.zero_le _, by simp, by simp, fun h => absurd h (Nat.lt_irrefl _)⟩
theorem IntsV.nil (M : Mem) : IntsV M (.slice none 0 0) [] := Arr.of [] (by simp) (SlAt.nil M 1) trivial
theorem RegV.nil (M : Mem) : RegV M (.slice none 0 0) [] := Arr.of [] (by simp) (SlAt.nil M 1) trivial
theorem CasV.nil (M : Mem) : CasV M (.slice none 0 0) [] := Arr.of [] (by simp) (SlAt.nil M 3) trivial
instance (x : Int) : Decidable (i64r x) := by unfold i64r; infer_instance
theorem i64_of {ps : List Pt} (h : (ps.all fun p => decide (i64r p.1) && decide (i64r p.2)) = true) : i64P ps := fun i hi => by
  have := all_at (0, 0) h hi
  simp only [Bool.and_eq_true, decide_eq_true_eq] at this
  exact this
theorem SlAt.shape {M : Mem} {k n : Nat} {v : Value} {xs : List Value} (h : SlAt M k v n xs) : ∃ a c, v = .slice a n c := let ⟨a, c, e, _⟩ := h; ⟨a, c, e⟩
theorem Pts.nil (M : Mem) : Pts M (.slice none 0 0) [] := SlAt.nil M 2
end Go.Proofs.YtegmjmdkhbibjaaGreat

/- Contracts: region.Has. -/
namespace Go.Proofs.YtegmjmdkhbibjaaGreat
open Go Go.V Go.RowKit
end Go.Proofs.YtegmjmdkhbibjaaGreat

/- Contracts: hull.Hull of one place; package mink's Shift. -/
namespace Go.Proofs.YtegmjmdkhbibjaaGreat
open Go Go.V Go.RowKit
theorem IndexP_fn (v : Value) (ps : List Pt) (fid : Nat) (g : Pt → Bool) (M : Mem) (hv : Pts M v ps) (hg : ∀ i, i < ps.length → ∀ M', FnP Tryz.prog fid [ptv (gp ps i)] M' [.bool (g (gp ps i))]) :
    V.Fn Tryz.prog 97 [v, .func (.func fid) #[] #[]] M fun rs _ => ∃ k : Int, rs = [.int .i64 k] ∧ (0 ≤ k ↔ ps.any g = true) := by
  obtain ⟨ad, c, rfl⟩ := hv.shape
  obtain ⟨_, hm, hrd⟩ := hv.cellsOf
  unfold maxLen at hm
  refine Fn.of_vc cxOK Tryz.func97 rfl rfl rfl ?_
  repeat (first | refine VIf.tt ?_ | refine VIf.ff ?_)
  refine VCode.loop cxOK Nat (fun i => ⟨[(0, .v (.slice ad ps.length c)), (1, .v (.func (.func fid) #[] #[])), (7, .v (.int .i64 ps.length)), (8, .v (.int .i64 i))], [], 0, M, 19, ⟨fun _ => none, none, fun _ => none⟩⟩)
    (fun i => i ≤ ps.length ∧ ∀ j, j < i → g (gp ps j) = false) (fun i => ps.length - i) 0 ⟨Nat.zero_le _, fun j hj => by simp at hj⟩ (Wk.mk' id (by repeat' constructor) (by repeat' constructor) (injOK_id _) rfl rfl rfl) ?_
  rintro i ⟨hi, hz⟩ m
  repeat (first | refine VIf.tt ?_ | refine VIf.ff ?_)
  refine VIf.mk (fun hlt => ?_) (fun hge => ?_)
  · have hlt := lt_of_dec hlt
    obtain ⟨ad', ead, hpi⟩ := hrd M (Mem.le_refl _) i hlt
    repeat (first | refine VIf.tt ?_ | refine VIf.ff ?_)
    refine VIdx.mk ad' i ead rfl hlt ?_
    repeat (first | refine VIf.tt ?_ | refine VIf.ff ?_)
    refine VReads.mk [.int .i64 (gp ps i).1, .int .i64 (gp ps i).2] rfl hpi ?_
    repeat (first | refine VIf.tt ?_ | refine VIf.ff ?_)
    refine VFn.p (hg i hlt M) ?_
    repeat (first | refine VIf.tt ?_ | refine VIf.ff ?_)
    refine VIf.mk (fun hc => ?_) (fun hc => ?_)
    · repeat (first | refine VIf.tt ?_ | refine VIf.ff ?_)
      refine VFact.mk ⟨i, rfl, ?_⟩ trivial
      have := any_getD (0, 0) g ps hlt hc
      simp [this]
    · repeat (first | refine VIf.tt ?_ | refine VIf.ff ?_)
      refine VArith.ok (by first | omega | (simp only; omega)) (by first | omega | (simp only; omega)) ?_
      refine ⟨i + 1, ⟨hlt, fun j hj => ?_⟩, (by first | omega | (simp only; omega)), (Wk.mk' id (by repeat' constructor) (by repeat' constructor) (injOK_id _) rfl rfl rfl)⟩
      by_cases e : j = i
      · subst e; exact hc
      · exact hz j (by omega)
  · have : i = ps.length := by have := ge_of_dec hge; omega
    subst this
    repeat (first | refine VIf.tt ?_ | refine VIf.ff ?_)
    refine VFact.mk ⟨-1, rfl, ?_⟩ trivial
    have := any_none (0, 0) g ps hz
    simp [this]
theorem ContainsP_fn (v : Value) (ps : List Pt) (fid : Nat) (g : Pt → Bool) (M : Mem) (hv : Pts M v ps) (hg : ∀ i, i < ps.length → ∀ M', FnP Tryz.prog fid [ptv (gp ps i)] M' [.bool (g (gp ps i))]) :
    V.Fn Tryz.prog 79 [v, .func (.func fid) #[] #[]] M fun rs _ => rs = [.bool (ps.any g)] := by
  obtain ⟨ad, c, rfl⟩ := hv.shape
  refine Fn.of_vc cxOK Tryz.func79 rfl rfl rfl ?_
  repeat (first | refine VIf.tt ?_ | refine VIf.ff ?_)
  refine VFn.mk _ (IndexP_fn _ ps fid g M hv hg) ?_
  rintro rs M1 hM1 ⟨k, rfl, hk⟩
  repeat (first | refine VIf.tt ?_ | refine VIf.ff ?_)
  refine VFact.mk (bool1 ?_) trivial
  rw [← hk]; simp
theorem Hull1_fn (p : Pt) (h1 : i64r p.1) (h2 : i64r p.2) (M : Mem) : FnP Tryz.prog 83 [ptv p] M [.bool (!placeB p)] := by
  refine Fn.of_vc cxOK Tryz.func83 rfl rfl rfl ?_
  repeat (first | refine VIf.tt ?_ | refine VIf.ff ?_)
  refine VFn.p (isPlace_fn _ _ _ h1 h2) ?_
  repeat (first | refine VIf.tt ?_ | refine VIf.ff ?_)
  exact VFact.mk ⟨rfl, rfl⟩ trivial
theorem Clone_fn (v : Value) (ps : List Pt) (M : Mem) (hv : Pts M v ps) (hn : 1 ≤ ps.length) (hn' : ps.length ≤ 100000) : V.Fn Tryz.prog 82 [v] M fun rs M' => ∃ u, rs = [u] ∧ Pts M' u ps := by
  obtain ⟨ad, c, rfl⟩ := hv.shape
  obtain ⟨_, hm, hrd⟩ := hv.cellsOf
  obtain ⟨ad', rfl, _⟩ := hrd M (Mem.le_refl _) 0 (by omega)
  refine Fn.of_vc cxOK Tryz.func82 rfl rfl rfl ?_
  repeat (first | refine VIf.tt ?_ | refine VIf.ff ?_)
  refine VSl.mk ps.length (cellsP ps) hv ?_
  repeat (first | refine VIf.tt ?_ | refine VIf.ff ?_)
  refine VFact.mk (by simp only; omega) ?_
  repeat (first | refine VIf.tt ?_ | refine VIf.ff ?_)
  refine VFz.mk fun x B M' hle hx => ?_
  repeat (first | refine VIf.tt ?_ | refine VIf.ff ?_)
  refine VFact.mk ⟨x, rfl, ?_⟩ trivial
  have e : SlAt M' 2 x (0 + ps.length) ([] ++ cellsP ps) := hx
  rw [Nat.zero_add, List.nil_append] at e
  exact e
theorem insert1_fn (v : Value) (f : Nat) (M : Mem) : FnP Tryz.prog 115 [v, .int .i64 0, .int .i64 1, .func (.func f) #[] #[]] M [] := by
  refine Fn.of_vc cxOK Tryz.func115 rfl rfl rfl ?_
  repeat (first | refine VIf.tt ?_ | refine VIf.ff ?_)
  refine VArith.ok (by first | omega | (simp only; omega)) (by first | omega | (simp only; omega)) ?_
  repeat (first | refine VIf.tt ?_ | refine VIf.ff ?_)
  refine VCode.loop cxOK Unit (fun _ => ⟨[(2, .v (.int .i64 1)), (8, .v (.int .i64 1))], [], 0, M, 53, ⟨fun _ => none, none, fun _ => none⟩⟩) (fun _ => True) (fun _ => 0) () trivial (Wk.mk' id (by repeat' constructor) (by repeat' constructor) (injOK_id _) rfl rfl rfl) ?_
  rintro _ _ m
  repeat (first | refine VIf.tt ?_ | refine VIf.ff ?_)
  exact VFact.mk ⟨rfl, rfl⟩ trivial
theorem pdq1_fn (v : Value) (f : Nat) (l : Int) (M : Mem) : FnP Tryz.prog 109 [v, .int .i64 0, .int .i64 1, .int .i64 l, .func (.func f) #[] #[]] M [] := by
  refine Fn.of_vc cxOK Tryz.func109 rfl rfl rfl ?_
  repeat (first | refine VIf.tt ?_ | refine VIf.ff ?_)
  refine VCode.loop cxOK Unit (fun _ => ⟨[(0, .v v), (1, .v (.int .i64 0)), (2, .v (.int .i64 1)), (4, .v (.func (.func f) #[] #[]))], [], 0, M, 148, ⟨fun _ => none, none, fun _ => none⟩⟩) (fun _ => True) (fun _ => 0) () trivial (Wk.mk' id (by repeat' constructor) (by repeat' constructor) (injOK_id _) rfl rfl rfl) ?_
  rintro _ _ m
  repeat (first | refine VIf.tt ?_ | refine VIf.ff ?_)
  refine VArith.ok (by first | omega | (simp only; omega)) (by first | omega | (simp only; omega)) ?_
  repeat (first | refine VIf.tt ?_ | refine VIf.ff ?_)
  refine VFn.p (insert1_fn _ _ _) ?_
  repeat (first | refine VIf.tt ?_ | refine VIf.ff ?_)
  exact VFact.mk ⟨rfl, rfl⟩ trivial
end Go.Proofs.YtegmjmdkhbibjaaGreat

/- Contract: the number of bits of one. -/
namespace Go.Proofs.YtegmjmdkhbibjaaGreat
open Go Go.V Go.RowKit
set_option maxRecDepth 100000 in
set_option maxHeartbeats 1000000 in
theorem len64_one (w : World) : Calls Tryz.prog 96 #[.int .u64 1] w fun e w' => e = .returned (.int .i64 1) ∧ w' = w := by
  go_enter Tryz.func96, Tryz.ntmps96
  go_wp2
  go_ret
  exact ⟨by kernel_rfl, rfl⟩
set_option maxRecDepth 100000 in
set_option maxHeartbeats 1000000 in
theorem len_one_any (w : World) : Calls Tryz.prog 77 #[.int .u64 1] w fun e w' => e = .returned (.int .i64 1) ∧ w' = w := by
  go_enter Tryz.func77, Tryz.ntmps77
  go_wp2_with (go_at_call 96; refine (len64_one _).mono ?_; rintro e w' ⟨rfl, rfl⟩)
  go_ret
  exact ⟨by kernel_rfl, rfl⟩
theorem FnP.of_same {P : Program} {f : Nat} {args : List Value} {M : Mem} {vs : List Value} (he : Enters P f) (h : ∀ W, Calls P f args.toArray W fun e w' => e = .returned (ret vs) ∧ w' = W) : FnP P f args M vs :=
  ⟨he, fun W hW => (h W).mono fun e w' ⟨h1, h2⟩ => ⟨vs, M, h1, h2 ▸ Below.refl _ _, Mem.le_refl _, h2 ▸ hW, fun _ _ => rfl, rfl, rfl⟩⟩
theorem Len1_fn (M : Mem) : FnP Tryz.prog 77 [.int .u64 1] M [.int .i64 1] :=
  FnP.of_same (enters_of Tryz.func77 (by kernel_rfl) rfl) len_one_any
end Go.Proofs.YtegmjmdkhbibjaaGreat

/- Contracts: hull.Hull of one place; package mink's Shift: the joins. -/
namespace Go.Proofs.YtegmjmdkhbibjaaGreat
open Go Go.V Go.RowKit
theorem sort1_fn (ad : Option Addr) (c f : Nat) (M : Mem) : FnP Tryz.prog 98 [.slice ad 1 c, .func (.func f) #[] #[]] M [] := by
  refine Fn.of_vc cxOK Tryz.func98 rfl rfl rfl ?_
  repeat (first | refine VIf.tt ?_ | refine VIf.ff ?_)
  refine VArith.ok (by first | omega | (simp only; omega)) (by first | omega | (simp only; omega)) ?_
  repeat (first | refine VIf.tt ?_ | refine VIf.ff ?_)
  refine VFn.p (Len1_fn _) ?_
  repeat (first | refine VIf.tt ?_ | refine VIf.ff ?_)
  refine VFn.p (pdq1_fn _ _ _ _) ?_
  repeat (first | refine VIf.tt ?_ | refine VIf.ff ?_)
  exact VFact.mk ⟨rfl, rfl⟩ trivial
theorem compact1_fn (ad : Option Addr) (c : Nat) (M : Mem) : FnP Tryz.prog 81 [.slice ad 1 c] M [.slice ad 1 c] := by
  refine Fn.of_vc cxOK Tryz.func81 rfl rfl rfl ?_
  repeat (first | refine VIf.tt ?_ | refine VIf.ff ?_)
  exact VFact.mk ⟨rfl, rfl⟩ trivial
theorem around1_fn (v : Value) (p : Pt) (M : Mem) (hv : Pts M v [p]) : V.Fn Tryz.prog 85 [v] M fun rs M' => ∃ u, rs = [u] ∧ Pts M' u [p] := by
  refine Fn.of_vc cxOK Tryz.func85 rfl rfl rfl ?_
  repeat (first | refine VIf.tt ?_ | refine VIf.ff ?_)
  refine VFn.mk _ (Clone_fn v [p] M hv (by simp) (by simp)) ?_
  rintro rs M1 hM1 ⟨u, rfl, hu⟩
  obtain ⟨ud, uc, rfl⟩ := hu.shape
  repeat (first | refine VIf.tt ?_ | refine VIf.ff ?_)
  refine VFn.p (sort1_fn _ _ _ _) ?_
  repeat (first | refine VIf.tt ?_ | refine VIf.ff ?_)
  refine VFn.p (compact1_fn _ _ _) ?_
  repeat (first | refine VIf.tt ?_ | refine VIf.ff ?_)
  exact VFact.mk ⟨_, rfl, hu⟩ trivial
theorem HullOne_fn (v : Value) (p : Pt) (M : Mem) (hv : Pts M v [p]) (h1 : i64r p.1) (h2 : i64r p.2) : V.Fn Tryz.prog 71 [v] M fun rs M' => if placeB p = true then ∃ u, rs = [u, .int .i64 0] ∧ Pts M' u [p] else rs = [.slice none 0 0, .int .i64 1] := by
  obtain ⟨ad, c, rfl⟩ := hv.shape
  refine Fn.of_vc cxOK Tryz.func71 rfl rfl rfl ?_
  repeat (first | refine VIf.tt ?_ | refine VIf.ff ?_)
  refine VFn.mk _ (ContainsP_fn _ [p] _ (fun p => !placeB p) M hv fun i hi M' => ?_) ?_
  · have : i = 0 := by simp at hi; omega
    subst this
    exact Hull1_fn p h1 h2 M'
  rintro rs M1 hM1 rfl
  repeat (first | refine VIf.tt ?_ | refine VIf.ff ?_)
  refine VIf.mk (fun h => ?_) (fun h => ?_)
  · repeat (first | refine VIf.tt ?_ | refine VIf.ff ?_)
    refine VFact.mk ?_ trivial
    have h : placeB p = false := by simpa using h
    simp only [h, Bool.false_eq_true, if_false]
  · have h : placeB p = true := by simpa using h
    repeat (first | refine VIf.tt ?_ | refine VIf.ff ?_)
    refine VFn.mk _ (around1_fn _ p M1 (hv.le hM1)) ?_
    rintro rs M2 hM2 ⟨u, rfl, hu⟩
    obtain ⟨ud, uc, rfl⟩ := hu.shape
    repeat (first | refine VIf.tt ?_ | refine VIf.ff ?_)
    refine VFact.mk ?_ trivial
    simp only [h, if_true]
    exact ⟨_, rfl, hu⟩
end Go.Proofs.YtegmjmdkhbibjaaGreat

/- The comparison that hull.around sorts by, its worlds written out. -/
namespace Go.Proofs.YtegmjmdkhbibjaaGreat
open Go Go.RowKit Go.Sort
end Go.Proofs.YtegmjmdkhbibjaaGreat

/- slices.SortFunc at places: the record of its family, and what it leaves in a row. -/
namespace Go.Proofs.YtegmjmdkhbibjaaGreat
open Go Go.V Go.RowKit Go.Sort Go.Shelf Go.Lib
end Go.Proofs.YtegmjmdkhbibjaaGreat

/- A call of slices.SortFunc on a growing slice of one's own: the slice is sorted. -/
namespace Go.Proofs.YtegmjmdkhbibjaaGreat
open Go Go.V Go.RowKit
/-- A call that turns one growing slice alone. -/
theorem VCall.set {P : Program} {f : Nat} {args : List SV} {st : St} {K : SV → St → Prop} (he : Enters P f) {id E sz n : Nat} {xs ys : List Value} (hid : st.own id = some (.row E sz n xs)) (h1 : ∀ y ∈ ys, y.oneCell' = true)
    (h : ∀ n₀ W v ρ, slOf (ρ id) = v → W.ownsRow n₀ E sz v n xs → Calls P f (args.map (SV.den ρ)).toArray W fun e W' => e = .returned (.tuple #[]) ∧ W.grownBy W' (ob v) ∧ W'.ownsRow n₀ E sz v n ys)
    (hK : K (.v (.tuple #[])) { st with ow := (id, some (.row E sz n ys)) :: st.ow }) : VCall P f args st K := by
  refine ⟨he, fun n₀ w M₀ ρ W hS hsa hss => ?_⟩
  obtain ⟨g1, g2, g3, g4⟩ := hS.own id _ hid
  refine (h n₀ W (ρ id) ρ (ownsRow_isSl g3) g3).mono ?_
  rintro e W' ⟨rfl, k1, k2⟩
  refine ⟨.v (.tuple #[]), _, ρ, rfl, trivial, hS.set (e' := .row E sz n ys) hid k1 trivial ⟨k2, h1⟩, ?_, rfl, rfl, hK⟩
  exact fun d s hd => ⟨hss d s hd, s, hd, rfl⟩

section
open Go.Sort
theorem cellsP_len (ps : List Pt) : (cellsP ps).length = ps.length * 2 := by
  induction ps with
  | nil => rfl
  | cons p l ih => simp only [cellsP, List.flatMap_cons, List.length_append] at *; simp [ih]; omega
end
end Go.Proofs.YtegmjmdkhbibjaaGreat

/- The plain law of sorting and of striking neighbours that are alike. -/
namespace Go.Proofs.YtegmjmdkhbibjaaGreat
open Go Go.V Go.RowKit
def keepB (ps : List Pt) (i : Nat) : Bool := i == 0 || gp ps i != gp ps (i - 1)
def comp (ps : List Pt) (k : Nat) : List Pt := ((List.range k).filter (keepB ps)).map (gp ps)
/-- Neighbours that are alike are struck. -/
def compactP (ps : List Pt) : List Pt := comp ps ps.length
theorem comp_succ (ps : List Pt) (k : Nat) : comp ps (k + 1) = if keepB ps k = true then comp ps k ++ [gp ps k] else comp ps k := by
  unfold comp
  rw [List.range_succ, List.filter_append]
  by_cases h : keepB ps k = true
  · simp [h]
  · simp [h]
theorem comp_len (ps : List Pt) : ∀ k, (comp ps k).length ≤ k
  | 0 => by simp [comp]
  | k + 1 => by
    have := comp_len ps k
    rw [comp_succ]
    split
    · simp; omega
    · omega
theorem comp_le (ps : List Pt) {j : Nat} : ∀ {k}, j ≤ k → (comp ps k).length + j ≤ (comp ps j).length + k
  | 0, h => by have : j = 0 := by omega
               subst this; omega
  | k + 1, h => by
    by_cases e : j = k + 1
    · subst e; omega
    · have := comp_le ps (j := j) (k := k) (by omega)
      rw [comp_succ]
      split
      · simp; omega
      · omega
theorem comp_all (ps : List Pt) : ∀ k, k ≤ ps.length → (∀ j, j < k → keepB ps j = true) → comp ps k = ps.take k
  | 0, _, _ => by simp [comp]
  | k + 1, hk, h => by
    rw [comp_succ, if_pos (h k (by omega)), comp_all ps k (by omega) (fun j hj => h j (by omega))]
    have : gp ps k = ps[k] := by simp [gp, List.getD_eq_getElem?_getD, List.getElem?_eq_getElem (show k < ps.length by omega)]
    rw [this, List.take_append_getElem]
/-- The row in the middle of it: what is kept, and what lay behind. -/
def midP (ps : List Pt) (j : Nat) : List Pt := comp ps j ++ ps.drop (comp ps j).length
theorem midP_len (ps : List Pt) {j : Nat} (h : j ≤ ps.length) : (midP ps j).length = ps.length := by
  have := comp_len ps j
  unfold midP; simp; omega
theorem midP_get (ps : List Pt) {j i : Nat} (h : (comp ps j).length ≤ i) : gp (midP ps j) i = gp ps i := by
  unfold gp midP
  simp only [List.getD_eq_getElem?_getD]
  rw [List.getElem?_append_right h, List.getElem?_drop]
  congr 2; omega
theorem midP_set (ps : List Pt) {j : Nat} (hj : j < ps.length) (hk : keepB ps j = true) : (midP ps j).set (comp ps j).length (gp ps j) = midP ps (j + 1) := by
  have := comp_len ps j
  unfold midP
  rw [comp_succ, if_pos hk, List.set_append_right _ _ (Nat.le_refl _), Nat.sub_self]
  have hlt : (comp ps j).length < ps.length := by omega
  rw [List.drop_eq_getElem_cons hlt, List.set_cons_zero]
  simp
theorem midP_skip (ps : List Pt) {j : Nat} (hk : keepB ps j = false) : midP ps j = midP ps (j + 1) := by
  unfold midP
  rw [comp_succ, if_neg (by rw [hk]; exact Bool.false_ne_true)]
theorem cellsP_put : ∀ (ys : List Pt) (i : Nat) (p : Pt), i < ys.length → rput (cellsP ys) (i * 2) [.int .i64 p.1, .int .i64 p.2] = cellsP (ys.set i p)
  | y :: ys, 0, p, _ => by simp [rput, cellsP]
  | y :: ys, i + 1, p, h => by
    have ih := cellsP_put ys i p (by simpa using h)
    have e : (i + 1) * 2 = i * 2 + 1 + 1 := by omega
    simp only [rput, cellsP, List.flatMap_cons, List.set_cons_succ, e, List.cons_append, List.nil_append, List.take_succ_cons, List.length_cons, List.length_nil] at ih ⊢
    rw [show i * 2 + 1 + 1 + (0 + 1 + 1) = i * 2 + (0 + 1 + 1) + 1 + 1 by omega, List.drop_succ_cons, List.drop_succ_cons, ih]
theorem cellsP_take (ys : List Pt) (k : Nat) : (cellsP ys).take (k * 2) = cellsP (ys.take k) := by
  induction ys generalizing k with
  | nil => simp [cellsP]
  | cons y ys ih =>
    cases k with
    | zero => simp [cellsP]
    | succ k =>
      have e : (k + 1) * 2 = k * 2 + 1 + 1 := by omega
      simp only [cellsP, List.flatMap_cons, List.take_succ_cons, e, List.cons_append, List.nil_append] at ih ⊢
      rw [ih]
theorem rput_take_off {xs ys : List Value} {off : Nat} (h : off ≤ xs.length) : (rput xs off ys).take off = xs.take off := by
  unfold rput
  rw [List.append_assoc, List.take_append_of_le_length (by simp; omega), List.take_take, Nat.min_self]
theorem compactP_short {ps : List Pt} (h : ps.length < 2) : compactP ps = ps := by
  match ps with
  | [] => rfl
  | [x] => rfl
theorem rowP_get (ys : List Pt) {i : Nat} (hi : i < ys.length) : ∀ j v, ([.int .i64 (gp ys i).1, .int .i64 (gp ys i).2] : List Value)[j]? = some v → (cellsP ys)[i * 2 + j]? = some v := by
  intro j v hv
  obtain ⟨g1, g2⟩ := cellsP_get ys i hi
  match j with
  | 0 => simp at hv; subst hv; rw [show i * 2 + 0 = 2 * i by omega]; exact g1
  | 1 => simp at hv; subst hv; rw [show i * 2 + 1 = 2 * i + 1 by omega]; exact g2
  | j + 2 => simp at hv
end Go.Proofs.YtegmjmdkhbibjaaGreat

/- The plain law of charts: no program in sight. -/
namespace Go.Proofs.YtegmjmdkhbibjaaGreat
open Go
structure CellS where
  lo : Int
  hi : Int
  dt : Int
  vd : Bool
structure BeaS where
  id : Int
  x : Int
  y : Int
structure LinS where
  id : Int
  ps : List Pt
structure ChartS where
  ver : Int
  x : Int
  y : Int
  w : Int
  h : Int
  sz : Int
  cs : List CellS
  bs : List BeaS
  ls : List LinS
def cell0 : CellS := ⟨0, 0, 0, false⟩
def bea0 : BeaS := ⟨0, 0, 0⟩
def lin0 : LinS := ⟨0, []⟩
def gce (l : List CellS) (i : Nat) : CellS := l.getD i cell0
def gbe (l : List BeaS) (i : Nat) : BeaS := l.getD i bea0
def gli (l : List LinS) (i : Nat) : LinS := l.getD i lin0
def cellP (c : CellS) : Prop := -100000 ≤ c.lo ∧ c.lo ≤ c.hi ∧ c.hi ≤ 100000 ∧ 0 ≤ c.dt ∧ c.dt ≤ 1000000000
instance (c : CellS) : Decidable (cellP c) := by unfold cellP; infer_instance
def cellOK (c : CellS) : Bool := decide (cellP c)
def idOK (n : Int) : Bool := decide (1 ≤ n ∧ n ≤ 1000000)
def beaOK (b : BeaS) : Bool := idOK b.id && placeB (b.x, b.y)
def pathOK (l : LinS) : Bool := idOK l.id && decide (2 ≤ l.ps.length ∧ l.ps.length ≤ 64) && l.ps.all placeB && (List.range l.ps.length).all (keepB l.ps)
def nmdB (ok : Nat → Bool) (id : Nat → Int) (k : Nat) : Bool := (List.range k).all fun i => ok i && (List.range i).all fun j => id j != id i
theorem nmdB_iff {ok : Nat → Bool} {id : Nat → Int} {k : Nat} : nmdB ok id k = true ↔ ∀ i, i < k → ok i = true ∧ ∀ j, j < i → id j ≠ id i := by
  unfold nmdB
  rw [all_iff]
  simp only [Bool.and_eq_true, all_iff, bne_iff_ne]
theorem nmdB_bad {ok : Nat → Bool} {id : Nat → Int} {k i : Nat} (hi : i < k) (h : ok i = false ∨ ∃ j, j < i ∧ id j = id i) : nmdB ok id k = false := by
  cases hb : nmdB ok id k with
  | false => rfl
  | true =>
    obtain ⟨h1, h2⟩ := nmdB_iff.1 hb i hi
    rcases h with h | ⟨j, hj, e⟩
    · rw [h1] at h; cases h
    · exact absurd e (h2 j hj)
def beasOK (l : List BeaS) : Bool := nmdB (fun i => beaOK (gbe l i)) (fun i => (gbe l i).id) l.length && decide (l.length ≤ 100)
def linsOK (l : List LinS) : Bool := nmdB (fun i => pathOK (gli l i)) (fun i => (gli l i).id) l.length && decide (l.length ≤ 50)
def frameC (c : ChartS) : Prop := ((1 ≤ c.ver ∧ c.ver ≤ 1000000) ∧ (1 ≤ c.w ∧ c.w ≤ 4000) ∧ (1 ≤ c.h ∧ c.h ≤ 4000) ∧ c.w * c.h = c.cs.length ∧ c.cs.length ≤ 4000 ∧ 1 ≤ c.sz ∧ c.sz ≤ 10000) ∧ placeB (c.x, c.y) = true ∧ placeB (c.x + c.w * c.sz - 1, c.y + c.h * c.sz - 1) = true
instance (c : ChartS) : Decidable (frameC c) := by unfold frameC; infer_instance
def validC (c : ChartS) : Bool := decide (frameC c) && c.cs.all cellOK && beasOK c.bs && linsOK c.ls
/-- The frame of a valid chart. -/
theorem validC_frame {c : ChartS} (h : validC c = true) : frameC c := by
  simp only [validC, Bool.and_eq_true, decide_eq_true_eq] at h
  exact h.1.1.1
theorem validC_not {c : ChartS} (h : ¬ frameC c) : validC c = false := by
  unfold validC
  rw [decide_eq_false h]
  rfl
/-- The squares. -/
def bLo (c : ChartS) (i : Int) : Pt := (c.x + i.tmod c.w * c.sz, c.y + i.tdiv c.w * c.sz)
def bHi (c : ChartS) (i : Int) : Pt := ((bLo c i).1 + c.sz - 1, (bLo c i).2 + c.sz - 1)
def meetsP (lo hi low high : Pt) : Bool := decide (lo.1 ≤ high.1) && decide (low.1 ≤ hi.1) && decide (lo.2 ≤ high.2) && decide (low.2 ≤ hi.2)
def unC (c : ChartS) (lo hi : Pt) (k : Nat) : List Int := ((List.range k).filter fun i : Nat => meetsP lo hi (bLo c (i : Int)) (bHi c (i : Int))).map fun i : Nat => (i : Int)
def underC (c : ChartS) (lo hi : Pt) : List Int := unC c lo hi c.cs.length
def colC (fr sz x : Int) : Int := if x < fr then -1 else (x - fr).tdiv sz
end Go.Proofs.YtegmjmdkhbibjaaGreat

/- Charts in memory. -/
namespace Go.Proofs.YtegmjmdkhbibjaaGreat
open Go Go.V Go.RowKit
def CellD (_ : Mem) (c : CellS) (r : List Value) : Prop := r = [.int .i64 c.lo, .int .i64 c.hi, .int .i64 c.dt, .bool c.vd] ∧ i64r c.lo ∧ i64r c.hi ∧ i64r c.dt
def BeaD (_ : Mem) (b : BeaS) (r : List Value) : Prop := r = [.int .i64 b.id, .int .i64 b.x, .int .i64 b.y] ∧ i64r b.id ∧ i64r b.x ∧ i64r b.y
def LinD (M : Mem) (l : LinS) (r : List Value) : Prop := ∃ v, r = [.int .i64 l.id, v] ∧ i64r l.id ∧ Pts M v l.ps ∧ i64P l.ps
def CelsV (M : Mem) (v : Value) (l : List CellS) : Prop := Arr CellD M 4 v l
def BeasV (M : Mem) (v : Value) (l : List BeaS) : Prop := Arr BeaD M 3 v l
def LinsV (M : Mem) (v : Value) (l : List LinS) : Prop := Arr LinD M 2 v l
theorem CelsV.le {M M' : Mem} {v : Value} {l : List CellS} (h : CelsV M v l) (hM : M.le M') : CelsV M' v l := Arr.le (fun _ _ _ _ _ h => h) h hM
theorem BeasV.le {M M' : Mem} {v : Value} {l : List BeaS} (h : BeasV M v l) (hM : M.le M') : BeasV M' v l := Arr.le (fun _ _ _ _ _ h => h) h hM
theorem LinsV.le {M M' : Mem} {v : Value} {l : List LinS} (h : LinsV M v l) (hM : M.le M') : LinsV M' v l :=
  Arr.le (fun _ _ _ _ hM ⟨v, h1, h2, h3, h4⟩ => ⟨v, h1, h2, SlAt.le hM h3, h4⟩) h hM
def cellV (c : CellS) : List Value := [.int .i64 c.lo, .int .i64 c.hi, .int .i64 c.dt, .bool c.vd]
theorem CelsV.get {M : Mem} {v : Value} {l : List CellS} (h : CelsV M v l) : ∃ ad c, v = .slice ad l.length c ∧ l.length ≤ 9223372036854775807 ∧ ∀ M', M.le M' → ∀ i, i < l.length → ∃ ad', ad = some ad' ∧ (i64r (gce l i).lo ∧ i64r (gce l i).hi ∧ i64r (gce l i).dt) ∧ ∀ j y, [Value.int .i64 (gce l i).lo, .int .i64 (gce l i).hi, .int .i64 (gce l i).dt, .bool (gce l i).vd][j]? = some y → M'.cell ((ad'.add (i * 4)).add j) = some y := by
  obtain ⟨ad, c, h1, h2, h3⟩ := Arr.get h
  refine ⟨ad, c, h1, h2, fun M' hM i hi => ?_⟩
  obtain ⟨ad', r, h4, _, ⟨rfl, h5⟩, h6⟩ := h3 i _ (getD_get cell0 hi)
  exact ⟨ad', h4, h5, h6 M' hM⟩
theorem BeasV.get {M : Mem} {v : Value} {l : List BeaS} (h : BeasV M v l) : ∃ ad c, v = .slice ad l.length c ∧ l.length ≤ 9223372036854775807 ∧ ∀ M', M.le M' → ∀ i, i < l.length → ∃ ad', ad = some ad' ∧ (i64r (gbe l i).id ∧ i64r (gbe l i).x ∧ i64r (gbe l i).y) ∧ ∀ j y, [Value.int .i64 (gbe l i).id, .int .i64 (gbe l i).x, .int .i64 (gbe l i).y][j]? = some y → M'.cell ((ad'.add (i * 3)).add j) = some y := by
  obtain ⟨ad, c, h1, h2, h3⟩ := Arr.get h
  refine ⟨ad, c, h1, h2, fun M' hM i hi => ?_⟩
  obtain ⟨ad', r, h4, _, ⟨rfl, h5⟩, h6⟩ := h3 i _ (getD_get bea0 hi)
  exact ⟨ad', h4, h5, h6 M' hM⟩
theorem LinsV.get {M : Mem} {v : Value} {l : List LinS} (h : LinsV M v l) : ∃ ad c, v = .slice ad l.length c ∧ l.length ≤ 9223372036854775807 ∧ ∀ M', M.le M' → ∀ i, i < l.length → ∃ ad' w, ad = some ad' ∧ i64r (gli l i).id ∧ Pts M' w (gli l i).ps ∧ i64P (gli l i).ps ∧ ∀ j y, [Value.int .i64 (gli l i).id, w][j]? = some y → M'.cell ((ad'.add (i * 2)).add j) = some y := by
  obtain ⟨ad, c, h1, h2, h3⟩ := Arr.get h
  refine ⟨ad, c, h1, h2, fun M' hM i hi => ?_⟩
  obtain ⟨ad', r, h4, _, ⟨w, rfl, h5, h6, h6'⟩, h7⟩ := h3 i _ (getD_get lin0 hi)
  exact ⟨ad', w, h4, h5, SlAt.le hM h6, h6', h7 M' hM⟩
theorem CelsV.shape {M : Mem} {v : Value} {l : List CellS} (h : CelsV M v l) : ∃ ad c, v = .slice ad l.length c := let ⟨ad, c, he, _⟩ := h.get; ⟨ad, c, he⟩
theorem BeasV.shape {M : Mem} {v : Value} {l : List BeaS} (h : BeasV M v l) : ∃ ad c, v = .slice ad l.length c := let ⟨ad, c, he, _⟩ := h.get; ⟨ad, c, he⟩
theorem LinsV.shape {M : Mem} {v : Value} {l : List LinS} (h : LinsV M v l) : ∃ ad c, v = .slice ad l.length c := let ⟨ad, c, he, _⟩ := h.get; ⟨ad, c, he⟩
def C64 (c : ChartS) : Prop := i64r c.ver ∧ i64r c.x ∧ i64r c.y ∧ i64r c.w ∧ i64r c.h ∧ i64r c.sz
abbrev chV (c : ChartS) (a b d : Value) : Value := .agg #[.int .i64 c.ver, .int .i64 c.x, .int .i64 c.y, .int .i64 c.w, .int .i64 c.h, .int .i64 c.sz, a, b, d]
/-- A chart's lists in memory. -/
structure Cha (M : Mem) (c : ChartS) (a b d : Value) : Prop where
  r : C64 c
  cs : CelsV M a c.cs
  bs : BeasV M b c.bs
  ls : LinsV M d c.ls
theorem Cha.le {M M' : Mem} {c : ChartS} {a b d : Value} (h : Cha M c a b d) (hM : M.le M') : Cha M' c a b d := ⟨h.r, h.cs.le hM, h.bs.le hM, h.ls.le hM⟩
theorem Cha.shape {M : Mem} {c : ChartS} {a b d : Value} (h : Cha M c a b d) : (∃ ad k, a = .slice ad c.cs.length k) ∧ (∃ ad k, b = .slice ad c.bs.length k) ∧ ∃ ad k, d = .slice ad c.ls.length k := ⟨h.cs.shape, h.bs.shape, h.ls.shape⟩
end Go.Proofs.YtegmjmdkhbibjaaGreat

/- The verification-condition framework, part S: a call that is walked where it stands, in the caller's own state. -/
namespace Go.V
open Go Go.RowKit
variable {P : Program}

/-- The arguments in their slots. -/
def argSV : Nat → List SV → List (Nat × SV)
  | _, [] => []
  | n, s :: r => (n, s) :: argSV (n + 1) r
theorem argSV_look : ∀ (l : List SV) (n d : Nat) (s : SV), look (argSV n l) d = some s → n ≤ d ∧ d < n + l.length ∧ l[d - n]? = some s
  | [], n, d, s, h => by cases h
  | v :: r, n, d, s, h => by
    simp only [argSV, look_cons] at h
    split at h
    · rename_i hd
      subst hd
      cases h
      exact ⟨Nat.le_refl _, by simp, by simp⟩
    · rename_i hd
      obtain ⟨h1, h2, h3⟩ := argSV_look r (n + 1) d s h
      refine ⟨by omega, by simp; omega, ?_⟩
      have : d - n = (d - (n + 1)) + 1 := by omega
      rw [this, List.getElem?_cons_succ]
      exact h3
/-- Ghosts that hold what the caller's slots hold. -/
def ghs (val : Nat → Value) : Nat → List (Nat × SV) → List (Nat × Option OE) → List (Nat × Option OE)
  | _, [], ow => ow
  | n, (d, s) :: r, ow => (n, some (.gh d (val d) s)) :: ghs val (n + 1) r ow
theorem ghs_look (val : Nat → Value) : ∀ (l : List (Nat × SV)) (n : Nat) (ow : List (Nat × Option OE)) (i : Nat) (e : Option OE), look (ghs val n l ow) i = some e →
    (n ≤ i ∧ i < n + l.length ∧ ∃ d s, (d, s) ∈ l ∧ e = some (.gh d (val d) s)) ∨ look ow i = some e
  | [], n, ow, i, e, h => .inr h
  | (d, s) :: r, n, ow, i, e, h => by
    simp only [ghs, look_cons] at h
    split at h
    · rename_i hi
      subst hi
      cases h
      exact .inl ⟨Nat.le_refl _, by simp, d, s, by simp, rfl⟩
    · rcases ghs_look val r (n + 1) ow i e h with ⟨h1, h2, d', s', h3, h4⟩ | h
      · exact .inl ⟨by omega, by simp; omega, d', s', List.mem_cons_of_mem _ h3, h4⟩
      · exact .inr h
/-- What the ghosts hold, back in the caller's slots. -/
def rst (st st' : St) (val : Nat → Value) (pl : List (Nat × SV)) : List (Nat × Option OE) → (List (Nat × SV) → Prop) → Prop
  | [], k => k pl
  | (i, some (.gh _ _ _)) :: r, k => match st'.own i with
    | some (.gh d v s) => match look st.sl d with
      | some _ => VFact (v = val d) (rst st st' val pl r fun sl => k ((d, s) :: sl))
      | none => rst st st' val pl r k
    | _ => rst st st' val pl r k
  | _ :: r, k => rst st st' val pl r k
theorem rst_spec {st st' : St} {val : Nat → Value} {pl : List (Nat × SV)} : ∀ {l : List (Nat × Option OE)} {k : List (Nat × SV) → Prop}, rst st st' val pl l k →
    ∃ sl, k sl ∧ ∀ d s, (d, s) ∈ sl → (d, s) ∈ pl ∨ (∃ s0, look st.sl d = some s0) ∧ ∃ i, st'.own i = some (.gh d (val d) s)
  | [], k, h => ⟨pl, h, fun d s hd => .inl hd⟩
  | (i, none) :: r, k, h => rst_spec (l := r) h
  | (i, some (.box t cs)) :: r, k, h => rst_spec (l := r) h
  | (i, some (.row E sz n xs)) :: r, k, h => rst_spec (l := r) h
  | (i, some (.vw _ _ _ _)) :: r, k, h => rst_spec (l := r) h
  | (i, some (.mp _ _ _ _ _ _)) :: r, k, h => rst_spec (l := r) h
  | (i, some (.nw _)) :: r, k, h => rst_spec (l := r) h
  | (i, some (.gh d0 v0 s0)) :: r, k, h => by
    simp only [rst] at h
    split at h
    · rename_i d v s hi
      split at h
      · rename_i s1 hs1
        cases h with
        | mk hv hk =>
          obtain ⟨sl, h1, h2⟩ := rst_spec (l := r) hk
          refine ⟨_, h1, ?_⟩
          intro d' s' hm
          rcases List.mem_cons.1 hm with he | hm
          · cases he
            exact .inr ⟨⟨_, hs1⟩, i, by rw [hi, hv]⟩
          · exact h2 d' s' hm
      · exact rst_spec (l := r) h
    · exact rst_spec (l := r) h

/-- What a call that is walked hands on. -/
def finK (st st' : St) (val : Nat → Value) (pl : List (Nat × SV)) (s : SV) (K : SV → St → Prop) : Prop :=
  match st, st' with
  | ⟨sl, ow, nx, M, nt, G⟩, ⟨sl', ow', nx', M', nt', ⟨m, Y, f⟩⟩ => VFact (M.le M') (VFact (∀ b, m b = none) (rst ⟨sl, ow, nx, M, nt, G⟩ ⟨sl', ow', nx', M', nt', ⟨m, Y, f⟩⟩ val pl ow' fun sl2 => K s ⟨sl2, ow', nx', M, nt, G⟩))
def finV (C : VX) (fn : Func) (st : St) (val : Nat → Value) (pl : List (Nat × SV)) (K : SV → St → Prop) (e : Ex) (st' : St) : Prop :=
  match e with
  | .exit _ => VStuck 180
  | _ => match resSV C st' fn.results.toList with
    | some [] => finK st st' val pl (.v (.tuple #[])) K
    | some [s] => finK st st' val pl s K
    | _ => VStuck 181
theorem finK_iff {st st' : St} {val : Nat → Value} {pl : List (Nat × SV)} {s : SV} {K : SV → St → Prop} (h : finK st st' val pl s K) :
    st.M.le st'.M ∧ (∀ b, st'.G.m b = none) ∧ rst st st' val pl st'.ow fun sl2 => K s ⟨sl2, st'.ow, st'.nx, st.M, st.nt, st.G⟩ := by
  obtain ⟨sl, ow, nx, M, nt, G⟩ := st
  obtain ⟨sl', ow', nx', M', nt', ⟨m, Y, f⟩⟩ := st'
  cases h with
  | mk h1 h2 =>
    cases h2 with
    | mk h2 h3 => exact ⟨h1, h2, h3⟩

/-- The caller's slots that are to be known behind the call. -/
def subSl (st : St) : List (Nat × SV) → Prop
  | [] => True
  | (d, s) :: r => look st.sl d = some s ∧ subSl st r
theorem subSl_mem {st : St} : ∀ {l : List (Nat × SV)}, subSl st l → ∀ {d s}, (d, s) ∈ l → look st.sl d = some s
  | [], _, _, _, h => by cases h
  | (_, _) :: l, ⟨h1, h2⟩, d, s, h => by
    rcases List.mem_cons.1 h with he | h
    · cases he; exact h1
    · exact subSl_mem h2 h
/-- Plain slots. -/
def plSl : List (Nat × Value) → List (Nat × SV)
  | [] => []
  | (d, x) :: r => (d, .v x) :: plSl r
theorem plSl_mem : ∀ {l : List (Nat × Value)} {d : Nat} {s : SV}, (d, s) ∈ plSl l → ∃ x, s = .v x
  | [], _, _, h => by cases h
  | (_, x) :: l, d, s, h => by
    rcases List.mem_cons.1 h with he | h
    · cases he; exact ⟨x, rfl⟩
    · exact plSl_mem h

open Classical in
/-- A call, walked where it stands. -/
theorem VCall.inline {C : VX} (hC : VXOK P C) {f : Nat} {fn : Func} {c : Code} (hf : P.funcs[f]? = some fn) (hb : fn.body = some c) (hname : (fn.name == "runtime.NumGoroutine") = false)
    {st : St} {args : List SV} {K : SV → St → Prop} (hnt : Nat.ble args.length fn.ntmps = true) (slots : List (Nat × SV)) (pls : List (Nat × Value)) (hs1 : subSl st slots) (hs2 : subSl st (plSl pls))
    (h : ∀ (val : Nat → Value) (f0 : Mem), vc C P c ⟨argSV 0 args, ghs val st.nx slots st.ow, st.nx + slots.length, st.M, fn.ntmps, ⟨fun _ => none, none, f0⟩⟩ (finV C fn st val (plSl pls) K)) :
    VCall P f args st K := by
  refine ⟨Go.Proofs.enters_of hf hname hb, fun n₀ w M₀ ρ W hS hsa hss => ?_⟩
  refine (callsIn_wide (n := 100)).1 (callsIn_of_wp_marks hf hb trivial ?_ rfl)
  have hle := Nat.le_of_ble_eq_true hnt
  obtain ⟨val, hval⟩ : ∃ val : Nat → Value, val = fun d => match look st.sl d with | some s => s.den ρ | none => undef := ⟨_, rfl⟩
  obtain ⟨f0, hf0⟩ : ∃ f0 : Mem, f0 = fun b => match st.G.m b with | some o => some o | none => st.G.f b := ⟨_, rfl⟩
  obtain ⟨ρ0, hρ0⟩ : ∃ ρ0 : Env, ρ0 = fun i => if i < st.nx then ρ i else .bool true := ⟨_, rfl⟩
  have hag : Agree st.nx ρ ρ0 := fun i hi => by rw [hρ0]; simp [hi]
  have hf0s : ∀ b o, f0 b = some o → W.heap[b]? = some o ∧ ∀ i e, st.own i = some e → ob (ρ i) ≠ some b := by
    intro b o hb
    rw [hf0] at hb
    simp only at hb
    split at hb
    · rename_i o' hm
      cases hb
      obtain ⟨p1, p2, p3⟩ := hS.pin b o hm
      refine ⟨p2, fun i e hi he => ?_⟩
      obtain ⟨_, _, o2, hh, ho⟩ := (hS.own i e hi).2.2.lt b he
      rw [hh] at p2; cases p2; rw [ho] at p1; cases p1
    · exact hS.fpin b o hb
  obtain ⟨T, hT⟩ : ∃ T : St, T = ⟨argSV 0 args, ghs val st.nx slots st.ow, st.nx + slots.length, st.M, fn.ntmps, ⟨fun _ => none, none, f0⟩⟩ := ⟨_, rfl⟩
  have hvc := h val f0
  rw [← hT] at hvc
  -- the entries of the start: the caller's, and the ghosts
  have hown0 : ∀ i e, T.own i = some e → (i < st.nx ∧ st.own i = some e) ∨ (st.nx ≤ i ∧ i < st.nx + slots.length ∧ ∃ d s, (d, s) ∈ slots ∧ e = .gh d (val d) s) := by
    intro i e hi
    rw [hT] at hi
    unfold St.own at hi
    split at hi
    · rename_i e' hl
      cases hi
      rcases ghs_look val slots st.nx st.ow i _ hl with ⟨h1, h2, d, s, h3, h4⟩ | hl
      · cases h4
        exact .inr ⟨h1, h2, d, s, h3, rfl⟩
      · have : st.own i = some e := by unfold St.own; rw [hl]
        exact .inl ⟨(hS.own i e this).1, this⟩
    · cases hi
  have hs0 : Sat n₀ w M₀ ρ0 T { tmps := (args.map (SV.den ρ)).toArray ++ Array.replicate (fn.ntmps - (args.map (SV.den ρ)).toArray.size) undef, defers := [] } W := by
    refine ⟨⟨hS.below, hS.size, by rw [hT]; exact hS.mem, ?_, ?_, ?_, ?_, by rw [hT]; exact hS.mlow, ?_⟩, by rw [hT]; simp; omega, ?_, by rw [hT]; trivial⟩
    · intro i e hi
      have hTnx : T.nx = st.nx + slots.length := by rw [hT]
      rw [hTnx]
      rcases hown0 i e hi with ⟨h1, h2⟩ | ⟨h1, h2, d, s, h3, rfl⟩
      · obtain ⟨g1, g2, g3⟩ := hS.own i e h2
        exact ⟨by omega, OE.sc_mono (by omega) g2, g3.keep hag g1 g2 fun _ _ => rfl⟩
      · have hl := subSl_mem hs1 h3
        have hsc := hss d s hl
        refine ⟨h2, SV.sc_mono (by omega) hsc, ?_, ?_⟩
        · rw [hρ0]; simp [Nat.not_lt.2 h1, ob]
        · rw [SV.den_agree hag hsc, hval]; simp only [hl]
    · intro i j ei ej hi hj hij b hbi hbj
      rcases hown0 i ei hi with ⟨h1, h2⟩ | ⟨h1, h2, d, s, h3, rfl⟩
      · rcases hown0 j ej hj with ⟨k1, k2⟩ | ⟨k1, k2, d, s, k3, rfl⟩
        · rw [hag i h1] at hbi
          rw [hag j k1] at hbj
          exact hS.sep i j ei ej h2 k2 hij b hbi hbj
        · rw [hρ0] at hbj; simp [Nat.not_lt.2 k1, ob] at hbj
      · rw [hρ0] at hbi; simp [Nat.not_lt.2 h1, ob] at hbi
    · intro i e b hi hbi
      rcases hown0 i e hi with ⟨h1, h2⟩ | ⟨h1, h2, d, s, h3, rfl⟩
      · rw [hag i h1] at hbi
        rw [hT]
        exact hS.msep i e b h2 hbi
      · rw [hρ0] at hbi; simp [Nat.not_lt.2 h1, ob] at hbi
    · intro b o hbo
      rw [hT] at hbo; cases hbo
    · intro b o hbo
      rw [hT] at hbo
      obtain ⟨q1, q2⟩ := hf0s b o hbo
      refine ⟨q1, fun i e hi he => ?_⟩
      rcases hown0 i e hi with ⟨h1, h2⟩ | ⟨h1, h2, d, s, h3, rfl⟩
      · rw [hag i h1] at he
        exact q2 i e h2 he
      · rw [hρ0] at he; simp [Nat.not_lt.2 h1, ob] at he
    · intro d s hd
      rw [hT] at hd
      obtain ⟨h1, h2, h3⟩ := argSV_look args 0 d s hd
      have hmem : s ∈ args := List.mem_of_getElem? h3
      have hsc := hsa s hmem
      refine ⟨by rw [hT]; show d < fn.ntmps; omega, by rw [hT]; exact SV.sc_mono (Nat.le_add_right _ _) hsc, ?_⟩
      simp only [Nat.sub_zero] at h3
      rw [Array.getElem?_append_left (by simp; omega), SV.den_agree hag hsc]
      simp [h3]
  have hY0 : T.G.Y = none := by rw [hT]
  have := vc_sound (r := none) (n := 100) hC (κ := fun Y B => Y = none ∧ B = ⟨n₀, w, M₀⟩) (fun l args rest B M W hκ => by cases hκ.1) (fx := fun _ => False) (tm := #[]) (B := ⟨n₀, w, M₀⟩) c hvc (fun l hl => by cases hl) ⟨hY0, rfl⟩ hs0 (wr_false c) (fun d hd => hd.elim)
  refine wpIn_mono this ?_
  rintro e a' W' ⟨⟨ex, he, B, ρ', st', ⟨_, rfl⟩, h1, h2, h3⟩, _⟩
  have hf' : st'.G.f = f0 := by rw [h2.2, hT]
  have main : (e = .normal ∨ e = .ret) → LeavesInM (Fw none) 100 P fn a'.tmps (fun e W' => ∃ s st' ρ', e = .returned (s.den ρ') ∧ s.sc st'.nx ∧
      SatH n₀ w M₀ ρ' st' W' ∧ (∀ d s', look st'.sl d = some s' → s'.sc st'.nx ∧ ∃ s0, look st.sl d = some s0 ∧ s'.den ρ' = s0.den ρ) ∧ st'.nt = st.nt ∧ st'.G = st.G ∧ K s st') a'.defers .returning W' := by
    intro hcase
    have hsl : ∀ d s, look st'.sl d = some s → s.sc st'.nx ∧ a'.tmps[d]? = some (s.den ρ') := fun d s hd => ⟨(h1.sl d s hd).2.1, (h1.sl d s hd).2.2⟩
    have hend : ∀ (rs : List SV) (s : SV), resSV C st' fn.results.toList = some rs → ret (rs.map (SV.den ρ')) = s.den ρ' → (s.sc st'.nx) → finK st st' val (plSl pls) s K → LeavesInM (Fw none) 100 P fn a'.tmps (fun e W' => ∃ s st' ρ', e = .returned (s.den ρ') ∧ s.sc st'.nx ∧
        SatH n₀ w M₀ ρ' st' W' ∧ (∀ d s', look st'.sl d = some s' → s'.sc st'.nx ∧ ∃ s0, look st.sl d = some s0 ∧ s'.den ρ' = s0.den ρ) ∧ st'.nt = st.nt ∧ st'.G = st.G ∧ K s st') a'.defers .returning W' := by
      intro rs s hrs hret hsc hfin
      obtain ⟨hM, hm, hk⟩ := finK_iff hfin
      obtain ⟨sl2, hK, hsl2⟩ := rst_spec hk
      have hds : a'.defers = [] := marks_nil h1.marks hm
      rw [hds]
      refine ⟨s.den ρ', ?_, s, ⟨sl2, st'.ow, st'.nx, st.M, st.nt, st.G⟩, ρ', rfl, hsc, ?_, ?_, rfl, rfl, hK⟩
      · have hr := (results_run (tmps := a'.tmps) hC h1.h hsl fn.results.toList hrs).1
        have := results_ret fn a'.tmps P _ W' hr
        rw [hret] at this
        exact this
      · refine ⟨h1.h.below, h1.h.size, fun b o hb => h1.h.mem b o (hM b o hb), h1.h.own, h1.h.sep, fun i e b hi hb => ?_, ?_, hS.mlow, ?_⟩
        · have hn := h1.h.msep i e b hi hb
          cases hc : st.M b with
          | none => rfl
          | some o => rw [hM b o hc] at hn; cases hn
        · intro b o hbo
          obtain ⟨p1, p2, p3⟩ := hS.pin b o hbo
          have hfb : st'.G.f b = some o := by
            have hbo' : st.G.m b = some o := hbo
            rw [hf', hf0]; simp only [hbo']
          exact ⟨p1, (h1.h.fpin b o hfb).1, p3⟩
        · intro b o hbo
          have hbo' : st.G.f b = some o := hbo
          have hfb : st'.G.f b = some o := by
            rw [hf', hf0]; simp only
            split
            · rename_i o' hm'
              have q1 := (hS.pin b o' hm').2.1
              have q2 := (hS.fpin b o hbo').1
              rw [q1] at q2; cases q2; rfl
            · exact hbo'
          exact h1.h.fpin b o hfb
      · intro d s' hd
        rcases hsl2 d s' (look_mem hd) with hp | ⟨⟨s0, hs0'⟩, i, hi⟩
        · have hl := subSl_mem hs2 hp
          obtain ⟨x, rfl⟩ := plSl_mem hp
          exact ⟨trivial, _, hl, rfl⟩
        · obtain ⟨_, g2, g3⟩ := h1.h.own i _ hi
          refine ⟨g2, s0, hs0', ?_⟩
          rw [g3.2, hval]; simp only [hs0']
    have h3' : (match resSV C st' fn.results.toList with
      | some [] => finK st st' val (plSl pls) (.v (.tuple #[])) K
      | some [s] => finK st st' val (plSl pls) s K
      | _ => VStuck 181) := by
      rcases hcase with rfl | rfl <;> cases he <;> exact h3
    split at h3'
    · rename_i hrs
      exact hend [] (.v (.tuple #[])) hrs rfl trivial h3'
    · rename_i s hrs
      exact hend [s] s hrs rfl ((results_run (tmps := a'.tmps) hC h1.h hsl fn.results.toList hrs).2 s (by simp)) h3'
    · cases h3'
  cases e with
  | normal => exact main (.inl rfl)
  | ret => exact main (.inr rfl)
  | exit i => cases he; cases h3
  | goto => cases he
  | panic => cases he
  | outgrown => cases he

/-- What is known of the heap, the ids renamed. -/
theorem SatH.ren {n₀ : Nat} {w : World} {M₀ : Mem} {ρ : Env} {st st' : St} {W : World} (h : SatH n₀ w M₀ ρ st W) (r : Nat → Nat) (how : owOK st r st'.nx st'.ow) (hinj : injOK r st'.ow) (hM : st.M = st'.M) (hG : st.G = st'.G) :
    SatH n₀ w M₀ (fun i => ρ (r i)) st' W := by
  let T' : St := ⟨[], st'.ow, st'.nx, st'.M, 0, st.G⟩
  have hwk : SatH n₀ w M₀ (fun i => ρ (r i)) T' W := by
    have hent : ∀ id e, st'.own id = some e → (id, some e) ∈ st'.ow := fun id e he => by
      unfold St.own at he
      split at he
      · rename_i e' hl; cases he; exact look_mem hl
      · cases he
    have hst : ∀ id e, st'.own id = some e → id < st'.nx ∧ e.sc st'.nx ∧ ∃ e0, st.own (r id) = some e0 ∧ (∀ W, OwnOK n₀ ρ W (r id) e0 → OwnOK n₀ (fun i => ρ (r i)) W id e) := fun id e he => by
      obtain ⟨h1, h2⟩ := owOK_mem how (hent id e he)
      cases e with
      | box t cs =>
        simp only [entOK] at h2
        split at h2
        · rename_i t' cs' ho
          obtain ⟨rfl, hc⟩ := h2
          obtain ⟨i1, i2⟩ := cellsOK_spec hc
          refine ⟨h1, i2, _, ho, ?_⟩
          rintro W ⟨B, b1, b2, b3⟩
          refine ⟨B, b1, b2, ?_⟩
          rw [b3, i1, List.map_map]
          have : SV.den ρ ∘ SV.ren r = SV.den (fun i => ρ (r i)) := funext (SV.ren_den ρ r)
          rw [this]
        · exact h2.elim
      | row E sz n xs =>
        simp only [entOK] at h2
        split at h2
        · rename_i E' sz' n' xs' ho
          obtain ⟨rfl, rfl, rfl, rfl⟩ := h2
          exact ⟨h1, trivial, _, ho, fun W hW => hW⟩
        · exact h2.elim
      | gh t v s =>
        simp only [entOK] at h2
        split at h2
        · rename_i t' v' s' ho
          obtain ⟨⟨rfl, rfl⟩, rfl, hs⟩ := h2
          exact ⟨h1, SVB_spec hs, _, ho, fun W hW => ⟨hW.1, by rw [← SV.ren_den]; exact hW.2⟩⟩
        · exact h2.elim
      | vw sz b k n =>
        simp only [entOK] at h2
        split at h2
        · rename_i sz' b' k' n' ho
          obtain ⟨⟨rfl, rfl⟩, ⟨rfl, rfl⟩, hb⟩ := h2
          exact ⟨h1, Nat.le_of_ble_eq_true hb, _, ho, fun W hW => hW⟩
        · exact h2.elim
      | mp P t k e B ks =>
        simp only [entOK] at h2
        split at h2
        · rename_i P' t' k' e' B' ks' ho
          obtain ⟨⟨rfl, rfl, rfl⟩, rfl, rfl, rfl⟩ := h2
          exact ⟨h1, trivial, _, ho, fun W hW => hW⟩
        · exact h2.elim
      | nw B =>
        simp only [entOK] at h2
        split at h2
        · rename_i B' ho
          subst h2
          exact ⟨h1, trivial, _, ho, fun W hW => hW⟩
        · exact h2.elim
    have hin : ∀ id e, st'.own id = some e → id ∈ st'.ow.map (·.1) := fun id e he => List.mem_map.2 ⟨_, hent id e he, rfl⟩
    refine ⟨h.below, h.size, fun b o hb => h.mem b o (by rw [hM]; exact hb), ?_, ?_, ?_, ?_, fun b hb => by show st'.M b = _; rw [← hM]; exact h.mlow b hb, ?_⟩
    · intro id e he
      obtain ⟨h1, h2, e0, h3, h4⟩ := hst id e he
      exact ⟨h1, h2, h4 W (h.own _ _ h3).2.2⟩
    · intro i j ei ej hi hj hij b
      obtain ⟨_, _, e1, h3, _⟩ := hst i ei hi
      obtain ⟨_, _, e2, h4, _⟩ := hst j ej hj
      exact h.sep (r i) (r j) e1 e2 h3 h4 (injOK_spec hinj i j (hin i ei hi) (hin j ej hj) hij) b
    · intro i e b hi hb
      obtain ⟨_, _, e1, h3, _⟩ := hst i e hi
      have := h.msep (r i) e1 b h3 hb
      show st'.M b = none
      rw [← hM]; exact this
    · intro b o hb
      obtain ⟨h1, h2, h3⟩ := h.pin b o hb
      refine ⟨h1, h2, ?_⟩
      show st'.M b = none
      rw [← hM]; exact h3
    · intro b o hb
      obtain ⟨h1, h2⟩ := h.fpin b o hb
      refine ⟨h1, fun i e hi => ?_⟩
      obtain ⟨_, _, e0, h3, _⟩ := hst i e hi
      exact h2 (r i) e0 h3
  exact hwk.same rfl rfl rfl hG.symm

/-- A call, its state looked at in other words; and what it leaves, in other words. -/
theorem VCall.wk {st st1 : St} {f : Nat} {args args1 : List SV} {K : SV → St → Prop} (r : Nat → Nat) (ha : args = args1.map (SV.ren r)) (hab : args1.all (SVB st1.nx) = true) (hsl : slOK st r st1.nx st1.sl) (how : owOK st r st1.nx st1.ow) (hinj : injOK r st1.ow) (hM : st.M = st1.M) (hnt : st.nt = st1.nt) (hG : st.G = st1.G)
    (h : VCall P f args1 st1 K) : VCall P f args st K := by
  refine ⟨h.ent, fun n₀ w M₀ ρ W hS hsa hss => ?_⟩
  have h1 := hS.ren r how hinj hM hG
  have hargs : args.map (SV.den ρ) = args1.map (SV.den fun i => ρ (r i)) := by
    rw [ha, List.map_map]
    exact List.map_congr_left fun s _ => SV.ren_den ρ r s
  rw [hargs]
  have hsl1 : ∀ d s, look st1.sl d = some s → look st.sl d = some (s.ren r) ∧ s.sc st1.nx := fun d s hd => slOK_mem hsl (look_mem hd)
  refine (h.run n₀ w M₀ _ W h1 (fun s hs => SVB_spec (List.all_eq_true.1 hab s hs)) (fun d s hd => (hsl1 d s hd).2)).mono ?_
  rintro e W' ⟨s, st', ρ', rfl, g4, g5, g7, g8, g10, g9⟩
  refine ⟨s, st', ρ', rfl, g4, g5, ?_, by rw [g8, hnt], by rw [g10, hG], g9⟩
  intro d s' hd
  obtain ⟨q1, s0, q2, q3⟩ := g7 d s' hd
  exact ⟨q1, _, (hsl1 d s0 q2).1, by rw [q3, SV.ren_den]⟩
/-- What a call leaves, in other words. -/
structure Left (st' : St) (s : SV) (st2 : St) (s2 : SV) : Prop where
  w : ∃ r : Nat → Nat, s = s2.ren r ∧ SVB st2.nx s2 = true ∧ slOK st' r st2.nx st2.sl ∧ owOK st' r st2.nx st2.ow ∧ injOK r st2.ow
  m : st'.M = st2.M
  nt : st'.nt = st2.nt
  g : st'.G = st2.G
theorem VCall.post {st : St} {f : Nat} {args : List SV} {K : SV → St → Prop} (h : VCall P f args st fun s st' => ∃ s2 st2, Left st' s st2 s2 ∧ K s2 st2) : VCall P f args st K := by
  refine ⟨h.ent, fun n₀ w M₀ ρ W hS hsa hss => ?_⟩
  refine (h.run n₀ w M₀ _ W hS hsa hss).mono ?_
  rintro e W' ⟨s, st', ρ', rfl, g4, g5, g7, g8, g10, s2, st2, ⟨⟨r, h1, h2, h3, h4, h5⟩, hm, hnt, hg⟩, hK⟩
  refine ⟨s2, st2, fun i => ρ' (r i), by rw [h1, SV.ren_den], SVB_spec h2, g5.ren r h4 h5 hm hg, ?_, by rw [← hnt, g8], by rw [← hg, g10], hK⟩
  intro d s' hd
  obtain ⟨q1, q2⟩ := slOK_mem h3 (look_mem hd)
  obtain ⟨_, s0, k2, k3⟩ := g7 d _ q1
  exact ⟨q2, s0, k2, by rw [← k3, SV.ren_den]⟩
end Go.V

/- slices.Compact and slices.Clone, walked where they are called. -/
namespace Go.Proofs.YtegmjmdkhbibjaaGreat
open Go Go.V Go.RowKit
theorem cellsP_length (ps : List Pt) : (cellsP ps).length = ps.length * 2 := cellsP_len ps
set_option maxHeartbeats 1000000 in
theorem Compact_call {n nt : Nat} {xs : List Value} {ps : List Pt} {M : Mem} {G : Gh} {K : SV → St → Prop} (hn : n = ps.length) (hx : xs = cellsP ps) (hsz : ps.length < 4611686018427387904)
    (hK : K (.row 0) ⟨[], [(0, some (.row 46 2 (compactP ps).length (cellsP (compactP ps))))], 1, M, nt, G⟩) :
    VCall Tryz.prog 81 [.row 0] ⟨[], [(0, some (.row 46 2 n xs))], 1, M, nt, G⟩ K := by
  subst hn; subst hx
  refine VCall.post ?_
  refine VCall.inline cxOK Tryz.func81 rfl rfl rfl [] [] trivial trivial ?_
  intro val f0
  repeat (first | refine VIf.tt ?_ | refine VIf.ff ?_)
  refine VIf.mk (fun h => ?_) (fun h => ?_)
  · have h := lt_of_dec h
    repeat (first | refine VIf.tt ?_ | refine VIf.ff ?_)
    refine VFact.mk (fun _ _ h => h) ?_
    repeat (first | refine VIf.tt ?_ | refine VIf.ff ?_)
    refine VFact.mk (fun _ => rfl) ?_
    have e : compactP ps = ps := compactP_short (by omega)
    exact ⟨_, ⟨[], [(0, some (.row 46 2 (compactP ps).length (cellsP (compactP ps))))], 1, M, nt, G⟩, ⟨⟨fun _ => 0, rfl, rfl, trivial, ⟨⟨rfl, rfl, rfl, by rw [e], by rw [e]⟩, trivial⟩, injOK_one _ _ _⟩, rfl, rfl, rfl⟩, hK⟩
  have h := ge_of_dec h
  repeat (first | refine VIf.tt ?_ | refine VIf.ff ?_)
  refine VCode.loopG cxOK (fun m => m = fun _ => none) rfl Nat (fun k => ⟨[(0, .row 0), (3, .v (.int .i64 k))], [(0, some (.row 46 2 ps.length (cellsP ps)))], 1, M, 61, ⟨fun _ => none, none, f0⟩⟩)
    (fun k => 1 ≤ k ∧ k ≤ ps.length ∧ ∀ j, j < k → keepB ps j = true) (fun k => ps.length - k) 1 ⟨Nat.le_refl _, Nat.le_of_succ_le h, fun j (hj : j < 1) => (Nat.lt_one_iff.1 hj).symm ▸ rfl⟩ (Wk.mk' id (by repeat' constructor) (by repeat' constructor) (injOK_id _) rfl rfl rfl) ?_
  rintro k ⟨hk1, hk2, hk3⟩ m rfl
  repeat (first | refine VIf.tt ?_ | refine VIf.ff ?_)
  refine VIf.mk (fun hlt => ?_) (fun hge => ?_)
  · have hlt := lt_of_dec hlt
    repeat (first | refine VIf.tt ?_ | refine VIf.ff ?_)
    refine VDraw.go (by kernel_rfl) ?_
    repeat (first | refine VIf.tt ?_ | refine VIf.ff ?_)
    refine VIdxR.mk k rfl hlt ?_
    repeat (first | refine VIf.tt ?_ | refine VIf.ff ?_)
    refine VCells.mk [.int .i64 (gp ps k).1, .int .i64 (gp ps k).2] rfl (rowP_get ps hlt) ?_
    repeat (first | refine VIf.tt ?_ | refine VIf.ff ?_)
    refine VArith.ok (by first | omega | (simp only; omega)) (by first | omega | (simp only; omega)) ?_
    repeat (first | refine VIf.tt ?_ | refine VIf.ff ?_)
    refine VIdxR.mk (k - 1) (by omega) (by omega) ?_
    repeat (first | refine VIf.tt ?_ | refine VIf.ff ?_)
    refine VCells.mk [.int .i64 (gp ps (k - 1)).1, .int .i64 (gp ps (k - 1)).2] rfl (rowP_get ps (by omega)) ?_
    repeat (first | refine VIf.tt ?_ | refine VIf.ff ?_)
    refine VIf.mk (fun hd => ?_) (fun hd => ?_)
    · -- alike
      have hkk : keepB ps k = false := by
        simp only [eqRes, Bool.and_eq_true, beq_iff_eq] at hd
        simp only [keepB, Bool.or_eq_false_iff, beq_eq_false_iff_ne, bne_eq_false_iff_eq]
        exact ⟨by omega, Prod.ext hd.1 hd.2⟩
      have hm : midP ps (k + 1) = ps := by
        rw [← midP_skip ps hkk]
        unfold midP
        rw [comp_all ps k hk2 hk3, List.length_take, Nat.min_eq_left hk2, List.take_append_drop]
      have hc : (comp ps (k + 1)).length = k := by
        rw [comp_succ, if_neg (by rw [hkk]; exact Bool.false_ne_true), comp_all ps k hk2 hk3, List.length_take, Nat.min_eq_left hk2]
      repeat (first | refine VIf.tt ?_ | refine VIf.ff ?_)
      refine VFact.mk (by omega) ?_
      repeat (first | refine VIf.tt ?_ | refine VIf.ff ?_)
      refine VBnd.mk k rfl hk2 ?_
      repeat (first | refine VIf.tt ?_ | refine VIf.ff ?_)
      refine VFact.mk hlt ?_
      repeat (first | refine VIf.tt ?_ | refine VIf.ff ?_)
      refine VCode.loopG cxOK (fun m => m = fun _ => none) rfl (Nat × Nat × List Value) (fun (⟨kk, k2, ys⟩ : Nat × Nat × List Value) => ⟨[(0, .row 0), (3, .v (.int .i64 kk)), (4, .row 1), (5, .v (.int .i64 k2))], [(0, some (.row 46 2 ps.length ys)), (1, some (.vw 2 0 k (ps.length - k)))], 2, M, 61, ⟨fun _ => none, none, f0⟩⟩)
        (fun (⟨kk, k2, ys⟩ : Nat × Nat × List Value) => 1 ≤ k2 ∧ k + k2 ≤ ps.length ∧ kk = (comp ps (k + k2)).length ∧ ys = cellsP (midP ps (k + k2)) ∧ kk + 1 ≤ k + k2) (fun (⟨_, k2, _⟩ : Nat × Nat × List Value) => ps.length - k2) (k, 1, cellsP ps) ⟨Nat.le_refl _, hlt, hc.symm, by rw [hm], Nat.le_refl _⟩ ?_ ?_
      · refine Wk.mk' (fun i => i) (by repeat' constructor) (by repeat' constructor) (injOK_id _) rfl rfl rfl
      rintro ⟨kk, k2, ys⟩ ⟨h1, h2, h3, h4, h5⟩ m rfl
      subst h4
      have hml := midP_len ps (j := k + k2) h2
      repeat (first | refine VIf.tt ?_ | refine VIf.ff ?_)
      refine VIf.mk (fun hl2 => ?_) (fun hg2 => ?_)
      · have hl2 := lt_of_dec hl2
        have hj : k + k2 < ps.length := by omega
        repeat (first | refine VIf.tt ?_ | refine VIf.ff ?_)
        refine VDraw.go (by kernel_rfl) ?_
        repeat (first | refine VIf.tt ?_ | refine VIf.ff ?_)
        refine VIdxR.mk k2 rfl hl2 ?_
        repeat (first | refine VIf.tt ?_ | refine VIf.ff ?_)
        refine VCells.mk [.int .i64 (gp ps (k + k2)).1, .int .i64 (gp ps (k + k2)).2] rfl ?_ ?_
        · rw [← midP_get ps (j := k + k2) (i := k + k2) (by omega)]
          exact rowP_get _ (by omega)
        repeat (first | refine VIf.tt ?_ | refine VIf.ff ?_)
        refine VArith.ok (by first | omega | (simp only; omega)) (by first | omega | (simp only; omega)) ?_
        repeat (first | refine VIf.tt ?_ | refine VIf.ff ?_)
        refine VIdxR.mk (k2 - 1) (by omega) (by omega) ?_
        repeat (first | refine VIf.tt ?_ | refine VIf.ff ?_)
        refine VCells.mk [.int .i64 (gp ps (k + (k2 - 1))).1, .int .i64 (gp ps (k + (k2 - 1))).2] rfl ?_ ?_
        · rw [← midP_get ps (j := k + k2) (i := k + (k2 - 1)) (by omega)]
          exact rowP_get _ (by omega)
        repeat (first | refine VIf.tt ?_ | refine VIf.ff ?_)
        refine VIf.mk (fun hd => ?_) (fun hd => ?_)
        · have hkj : keepB ps (k + k2) = true := by
            simp only [eqRes, Bool.not_eq_true', Bool.and_eq_false_iff, beq_eq_false_iff_ne] at hd
            simp only [keepB, Bool.or_eq_true, beq_iff_eq, bne_iff_ne]
            refine .inr fun e => ?_
            rw [show k + k2 - 1 = k + (k2 - 1) by omega] at e
            rw [e] at hd
            simp at hd
          repeat (first | refine VIf.tt ?_ | refine VIf.ff ?_)
          refine VIdxR.mk k2 rfl hl2 ?_
          repeat (first | refine VIf.tt ?_ | refine VIf.ff ?_)
          refine VCells.mk [.int .i64 (gp ps (k + k2)).1, .int .i64 (gp ps (k + k2)).2] rfl ?_ ?_
          · rw [← midP_get ps (j := k + k2) (i := k + k2) (by omega)]
            exact rowP_get _ (by omega)
          repeat (first | refine VIf.tt ?_ | refine VIf.ff ?_)
          refine VIdxR.mk kk rfl (by omega) ?_
          have hfit : kk * 2 + 2 ≤ (cellsP (midP ps (k + k2))).length := by rw [cellsP_length, hml]; omega
          repeat (first | refine VIf.tt ?_ | refine VIf.ff ?_)
          refine VFact.mk hfit ?_
          repeat (first | refine VIf.tt ?_ | refine VIf.ff ?_)
          refine VArith.ok (by first | omega | (simp only; omega)) (by first | omega | (simp only; omega)) ?_
          repeat (first | refine VIf.tt ?_ | refine VIf.ff ?_)
          refine VArith.ok (by first | omega | (simp only; omega)) (by first | omega | (simp only; omega)) ?_
          refine ⟨rfl, (kk + 1, k2 + 1, rput (cellsP (midP ps (k + k2))) (kk * 2) [.int .i64 (gp ps (k + k2)).1, .int .i64 (gp ps (k + k2)).2]), ⟨by omega, by omega, ?_, ?_, by omega⟩, ?_, (Wk.mk' id (by repeat' constructor) (by repeat' constructor) (injOK_id _) rfl rfl rfl)⟩
          · rw [show k + (k2 + 1) = k + k2 + 1 by omega, comp_succ, if_pos hkj]
            simp [h3]
          · rw [show k + (k2 + 1) = k + k2 + 1 by omega, ← midP_set ps hj hkj, ← h3, cellsP_put _ _ _ (by omega)]
          · show ps.length - (k2 + 1) < ps.length - k2
            omega
        · have hkj : keepB ps (k + k2) = false := by
            simp only [eqRes, Bool.not_eq_false', Bool.and_eq_true, beq_iff_eq] at hd
            simp only [keepB, Bool.or_eq_false_iff, beq_eq_false_iff_ne, bne_eq_false_iff_eq]
            rw [show k + k2 - 1 = k + (k2 - 1) by omega]
            exact ⟨by omega, Prod.ext hd.1 hd.2⟩
          repeat (first | refine VIf.tt ?_ | refine VIf.ff ?_)
          refine VArith.ok (by first | omega | (simp only; omega)) (by first | omega | (simp only; omega)) ?_
          refine ⟨rfl, (kk, k2 + 1, cellsP (midP ps (k + k2))), ⟨by omega, by omega, ?_, ?_, by omega⟩, ?_, (Wk.mk' id (by repeat' constructor) (by repeat' constructor) (injOK_id _) rfl rfl rfl)⟩
          · rw [show k + (k2 + 1) = k + k2 + 1 by omega, comp_succ, if_neg (by rw [hkj]; exact Bool.false_ne_true)]
            exact h3
          · rw [show k + (k2 + 1) = k + k2 + 1 by omega, ← midP_skip ps hkj]
          · show ps.length - (k2 + 1) < ps.length - k2
            omega
      · have : k + k2 = ps.length := by have := ge_of_dec hg2; omega
        rw [this] at h3 h5 hml ⊢
        have hkn : kk < ps.length := by omega
        repeat (first | refine VIf.tt ?_ | refine VIf.ff ?_)
        refine VFact.mk (by omega) ?_
        repeat (first | refine VIf.tt ?_ | refine VIf.ff ?_)
        refine VBnd.mk kk rfl (by omega) ?_
        repeat (first | refine VIf.tt ?_ | refine VIf.ff ?_)
        refine VFact.mk hkn ?_
        repeat (first | refine VIf.tt ?_ | refine VIf.ff ?_)
        refine VFact.mk ⟨by omega, by rw [cellsP_length, hml]; omega⟩ ?_
        repeat (first | refine VIf.tt ?_ | refine VIf.ff ?_)
        refine VBnd.mk kk rfl (by omega) ?_
        repeat (first | refine VIf.tt ?_ | refine VIf.ff ?_)
        refine VFact.mk (fun _ _ h => h) ?_
        repeat (first | refine VIf.tt ?_ | refine VIf.ff ?_)
        refine VFact.mk (fun _ => rfl) ?_
        refine ⟨_, ⟨[], [(0, some (.row 46 2 (compactP ps).length (cellsP (compactP ps))))], 1, M, nt, G⟩, ⟨⟨fun _ => 3, rfl, rfl, trivial, ⟨⟨rfl, rfl, rfl, ?_, ?_⟩, trivial⟩, injOK_one _ _ _⟩, rfl, rfl, rfl⟩, hK⟩
        · exact h3.symm
        · rw [rput_take_off (by rw [cellsP_length, hml]; omega), cellsP_take, h3]
          unfold midP
          rw [List.take_left]
          rfl
    · have hkk : keepB ps k = true := by
        simp only [eqRes, Bool.and_eq_false_iff, beq_eq_false_iff_ne] at hd
        simp only [keepB, Bool.or_eq_true, beq_iff_eq, bne_iff_ne]
        refine .inr fun e => ?_
        rw [e] at hd
        simp at hd
      repeat (first | refine VIf.tt ?_ | refine VIf.ff ?_)
      refine VArith.ok (by first | omega | (simp only; omega)) (by first | omega | (simp only; omega)) ?_
      refine ⟨rfl, k + 1, ⟨by omega, by omega, fun j hj => ?_⟩, (by first | omega | (simp only; omega)), (Wk.mk' id (by repeat' constructor) (by repeat' constructor) (injOK_id _) rfl rfl rfl)⟩
      by_cases e : j = k
      · subst e; exact hkk
      · exact hk3 j (by omega)
  · have : k = ps.length := by have := ge_of_dec hge; omega
    subst this
    repeat (first | refine VIf.tt ?_ | refine VIf.ff ?_)
    refine VFact.mk (fun _ _ h => h) ?_
    repeat (first | refine VIf.tt ?_ | refine VIf.ff ?_)
    refine VFact.mk (fun _ => rfl) ?_
    have e : compactP ps = ps := by
      unfold compactP
      rw [comp_all ps _ (Nat.le_refl _) hk3, List.take_length]
    exact ⟨_, ⟨[], [(0, some (.row 46 2 (compactP ps).length (cellsP (compactP ps))))], 1, M, nt, G⟩, ⟨⟨fun _ => 0, rfl, rfl, trivial, ⟨⟨rfl, rfl, rfl, by rw [e], by rw [e]⟩, trivial⟩, injOK_one _ _ _⟩, rfl, rfl, rfl⟩, hK⟩
end Go.Proofs.YtegmjmdkhbibjaaGreat

/- Plain geometry: what holds at a polygon's corners holds at its places. -/
namespace Go.Proofs.YtegmjmdkhbibjaaGreat
open Go
theorem cross_flip (p q r : Pt) : crossP q p r = - crossP p q r := by unfold crossP cross; grind
theorem pos_of_mul {t y : Int} (ht : 0 < t) (h : 0 ≤ t * y) : 0 ≤ y := Int.not_lt.1 fun hy => by
  have := Int.mul_neg_of_pos_of_neg ht hy
  omega
end Go.Proofs.YtegmjmdkhbibjaaGreat

/- Plain geometry: the sides of a hull; the chain of corners. -/
namespace Go.Proofs.YtegmjmdkhbibjaaGreat
open Go
/-- Less, by X, then by Y. -/
def lexLt (a b : Pt) : Prop := a.1 < b.1 ∨ a.1 = b.1 ∧ a.2 < b.2
def lexLe (a b : Pt) : Prop := a.1 < b.1 ∨ a.1 = b.1 ∧ a.2 ≤ b.2
theorem lexLt_irrefl (a : Pt) : ¬ lexLt a a := by unfold lexLt; omega
/-! ### Vectors -/
/-! ### The sides of a hull -/
/-- a to b is a side of the hull of S: all of S lies on its left, or on it. -/
def E (S : List Pt) (a b : Pt) : Prop := a ∈ S ∧ b ∈ S ∧ a ≠ b ∧ ∀ y ∈ S, 0 < crossP a b y ∨ crossP a b y = 0 ∧ betwB a b y = true
instance (S : List Pt) (a b : Pt) : Decidable (E S a b) := by unfold E; infer_instance
theorem E_sub {S T : List Pt} {a b : Pt} (h : E S a b) (hT : ∀ x ∈ T, x ∈ S) (ha : a ∈ T) (hb : b ∈ T) : E T a b := ⟨ha, hb, h.2.2.1, fun y hy => h.2.2.2 y (hT y hy)⟩

/-- A side that goes up. -/
def Edge (S : List Pt) (a b : Pt) : Prop := a ∈ S ∧ b ∈ S ∧ lexLt a b ∧ ∀ y ∈ S, 0 < crossP a b y ∨ crossP a b y = 0 ∧ lexLe a y ∧ lexLe y b
theorem betw_of_lex {a b y : Pt} (h : lexLt a b) (hz : crossP a b y = 0) (h1 : lexLe a y) (h2 : lexLe y b) : betwB a b y = true := by
  unfold crossP cross at hz
  simp only [betwB, decide_eq_true_eq]
  unfold lexLt at h; unfold lexLe at h1 h2
  rcases h with h | ⟨h, h'⟩
  · have d1 : 0 ≤ y.1 - a.1 := by omega
    have d2 : 0 ≤ b.1 - y.1 := by omega
    have d3 : 0 < b.1 - a.1 := by omega
    have key : ∀ z : Int, 0 ≤ (b.1 - a.1) * z → 0 ≤ z := fun z hz => pos_of_mul d3 hz
    by_cases hs : a.2 ≤ b.2
    · have e1 := key (y.2 - a.2) (by
        have := Int.mul_nonneg (show 0 ≤ b.2 - a.2 by omega) d1
        omega)
      have e2 := key (b.2 - y.2) (by
        have := Int.mul_nonneg (show 0 ≤ b.2 - a.2 by omega) d2
        have e : (b.1 - a.1) * (b.2 - y.2) = (b.2 - a.2) * (b.1 - y.1) := by
          have : (b.1 - a.1) * (b.2 - y.2) = (b.1 - a.1) * (b.2 - a.2) - (b.1 - a.1) * (y.2 - a.2) := by grind
          rw [this]
          have : (b.2 - a.2) * (b.1 - y.1) = (b.1 - a.1) * (b.2 - a.2) - (b.2 - a.2) * (y.1 - a.1) := by grind
          rw [this]; omega
        rw [e]; exact this)
      omega
    · have e1 := key (a.2 - y.2) (by
        have := Int.mul_nonneg (show 0 ≤ a.2 - b.2 by omega) d1
        have e : (b.1 - a.1) * (a.2 - y.2) = - ((b.1 - a.1) * (y.2 - a.2)) := by grind
        have e' : (a.2 - b.2) * (y.1 - a.1) = - ((b.2 - a.2) * (y.1 - a.1)) := by grind
        omega)
      have e2 := key (y.2 - b.2) (by
        have := Int.mul_nonneg (show 0 ≤ a.2 - b.2 by omega) d2
        have e : (b.1 - a.1) * (y.2 - b.2) = (a.2 - b.2) * (b.1 - y.1) := by
          have : (b.1 - a.1) * (y.2 - b.2) = (b.1 - a.1) * (y.2 - a.2) - (b.1 - a.1) * (b.2 - a.2) := by grind
          rw [this]
          have : (a.2 - b.2) * (b.1 - y.1) = (b.2 - a.2) * (y.1 - a.1) - (b.1 - a.1) * (b.2 - a.2) := by grind
          rw [this]; omega
        rw [e]; exact this)
      omega
  · omega
theorem Edge.e {S : List Pt} {a b : Pt} (h : Edge S a b) : E S a b := by
  obtain ⟨h1, h2, h3, h4⟩ := h
  refine ⟨h1, h2, fun e => lexLt_irrefl _ (e ▸ h3), fun y hy => ?_⟩
  rcases h4 y hy with h | ⟨h, k1, k2⟩
  · exact .inl h
  · exact .inr ⟨h, betw_of_lex h3 h k1 k2⟩

/-! ### The chain -/
/-- All neighbours on a reversed chain are sides. -/
def Lnk (S : List Pt) : List Pt → Prop
  | b :: a :: r => Edge S a b ∧ Lnk S (a :: r)
  | _ => True
theorem Lnk.tail {S : List Pt} {b : Pt} {l : List Pt} (h : Lnk S (b :: l)) : Lnk S l := by
  cases l with
  | nil => trivial
  | cons a r => exact h.2
end Go.Proofs.YtegmjmdkhbibjaaGreat

/- Plain geometry: the two chains together are a polygon; there is but one. -/
namespace Go.Proofs.YtegmjmdkhbibjaaGreat
open Go
/-- The corners of p follow each other round the hull of S. -/
structure Cyc (S p : List Pt) : Prop where
  two : 2 ≤ p.length
  fst : ∀ y ∈ S, lexLe (gp p 0) y
  inj : ∀ i j, i < j → j < p.length → gp p i ≠ gp p j
  side : ∀ i, i < p.length → E S (gp p i) (gp p ((i + 1) % p.length))
theorem gp_mem {l : List Pt} {i : Nat} (h : i < l.length) : gp l i ∈ l := by
  unfold gp; simp [List.getD_eq_getElem?_getD, List.getElem?_eq_getElem h]
theorem mem_gp {l : List Pt} {x : Pt} (h : x ∈ l) : ∃ i, i < l.length ∧ gp l i = x := by
  obtain ⟨i, hi, e⟩ := List.getElem_of_mem h
  exact ⟨i, hi, by unfold gp; simp [List.getD_eq_getElem?_getD, List.getElem?_eq_getElem hi, e]⟩
end Go.Proofs.YtegmjmdkhbibjaaGreat

/- slices.Clone and hull.chain.push, walked where they are called. -/
namespace Go.Proofs.YtegmjmdkhbibjaaGreat
open Go Go.V Go.RowKit
end Go.Proofs.YtegmjmdkhbibjaaGreat

/- Contract: hull.around. -/
namespace Go.Proofs.YtegmjmdkhbibjaaGreat
open Go Go.V Go.RowKit
theorem SlAt.some {M : Mem} {sz n c : Nat} {ad : Option Addr} {xs : List Value} (h : SlAt M sz (.slice ad n c) n xs) (hn : 0 < n) : ∃ a, ad = .some a := by
  obtain ⟨a', c1, e, h1, h2, h3, h4, h5⟩ := h
  cases e
  obtain ⟨a, e, _⟩ := h5 hn
  exact ⟨a, e⟩
/-- The slice of all but the last corner. -/
theorem SlAt.pre {M M' : Mem} (hM : M.le M') {ad : Option Addr} {c : Nat} {A : List Pt} (h : SlAt M 2 (.slice ad A.length c) A.length (cellsP A.reverse)) (hA : 0 < A.length) :
    A.length ≤ c ∧ ∀ c', (c' = A.length - 1 ∨ c' = c) → SlAt M' 2 (.slice ad (A.length - 1) c') (A.length - 1) (cellsP A.tail.reverse) := by
  obtain ⟨a', c1, e, h1, h2, h3, h4, h5⟩ := h
  cases e
  refine ⟨h1, fun c' hc' => ?_⟩
  have hle : A.length - 1 ≤ c' := by omega
  have e : cellsP A.tail.reverse = (cellsP A.reverse).take ((A.length - 1) * 2) := by
    rw [cellsP_take]
    cases A with
    | nil => rfl
    | cons x r => simp
  refine ⟨ad, c', rfl, hle, by omega, by rw [cellsP_length]; simp, fun v hv => h4 v (by rw [e] at hv; exact List.mem_of_mem_take hv), fun hpos => ?_⟩
  obtain ⟨ad', rfl, hrd⟩ := h5 (by omega)
  refine ⟨ad', rfl, fun j v hj => Mem.cell_le hM (hrd j v ?_)⟩
  rw [e, List.getElem?_take] at hj
  split at hj
  · exact hj
  · cases hj
end Go.Proofs.YtegmjmdkhbibjaaGreat

/- Plain geometry: what a hull is, and what it has. -/
namespace Go.Proofs.YtegmjmdkhbibjaaGreat
open Go
/-- p is the hull of S. -/
inductive Hl (S p : List Pt) : Prop
  | one (a : Pt) (hp : p = [a]) (hS : ∀ y ∈ S, y = a) (ha : a ∈ S)
  | many (h : Cyc S p)
theorem Hl.mem {S p : List Pt} (h : Hl S p) {i : Nat} (hi : i < p.length) : gp p i ∈ S := by
  cases h with
  | one a hp hS ha => subst hp; simp at hi; subst hi; exact ha
  | many h => exact (h.side i hi).1
theorem Hl.sub {S p : List Pt} (h : Hl S p) : ∀ x ∈ p, x ∈ S := fun x hx => by
  obtain ⟨i, hi, rfl⟩ := mem_gp hx
  exact h.mem hi
theorem Cyc.restrict {S T p : List Pt} (h : Cyc S p) (hT : ∀ x ∈ T, x ∈ S) (hp : ∀ x ∈ p, x ∈ T) : Cyc T p :=
  ⟨h.two, fun y hy => h.fst y (hT y hy), h.inj, fun i hi => E_sub (h.side i hi) hT (hp _ (gp_mem hi)) (hp _ (gp_mem (Nat.mod_lt _ (by omega))))⟩
theorem Hl.restrict {S T p : List Pt} (h : Hl S p) (hT : ∀ x ∈ T, x ∈ S) (hp : ∀ x ∈ p, x ∈ T) : Hl T p := by
  cases h with
  | one a hp' hS ha => exact .one a hp' (fun y hy => hS y (hT y hy)) (hp a (by rw [hp']; simp))
  | many h => exact .many (h.restrict hT hp)
theorem Hl.congr {S T p : List Pt} (h : Hl S p) (hT : ∀ x, x ∈ T ↔ x ∈ S) : Hl T p := h.restrict (fun x hx => (hT x).1 hx) fun x hx => (hT x).2 (h.sub x hx)
/-- A hull has what it is the hull of. -/
theorem Hl.has {S p : List Pt} (h : Hl S p) {x : Pt} (hx : x ∈ S) : hasB p x = true := by
  cases h with
  | one a hp hS' ha => subst hp; simp [hasB, gp, hS' x hx]
  | many h =>
    have hn := h.two
    unfold hasB
    rw [if_neg (by omega)]
    have hs : ∀ i, i < p.length → 0 < crossP (gp p i) (gp p ((i + 1) % p.length)) x ∨ crossP (gp p i) (gp p ((i + 1) % p.length)) x = 0 ∧ betwB (gp p i) (gp p ((i + 1) % p.length)) x = true := fun i hi => (h.side i hi).2.2.2 x hx
    by_cases h2 : p.length = 2
    · rw [if_pos h2]
      have s0 := hs 0 (by omega)
      have s1 := hs 1 (by omega)
      rw [Nat.mod_eq_of_lt (by omega)] at s0
      rw [h2] at s1
      have e : crossP (gp p 1) (gp p ((1 + 1) % 2)) x = - crossP (gp p 0) (gp p 1) x := cross_flip _ _ _
      rw [e] at s1
      rw [Nat.zero_add] at s0
      simp only [Bool.and_eq_true, decide_eq_true_eq]
      rcases s0 with s0 | ⟨s0, b0⟩
      · rcases s1 with s1 | ⟨s1, _⟩ <;> omega
      · exact ⟨s0, b0⟩
    · rw [if_neg h2]
      refine all_true fun i hi => ?_
      simp only [sideB, decide_eq_true_eq]
      rcases hs i hi with g | ⟨g, _⟩ <;> omega
end Go.Proofs.YtegmjmdkhbibjaaGreat

/- Plain geometry: a polygon that has some places, its corners among them, is their hull; areas. -/
namespace Go.Proofs.YtegmjmdkhbibjaaGreat
open Go
theorem place_bd {p : Pt} (h : placeB p = true) : -500000 ≤ p.1 ∧ p.1 ≤ 500000 ∧ -500000 ≤ p.2 ∧ p.2 ≤ 500000 := by
  simp only [placeB, Bool.and_eq_true] at h
  have h1 := isCb_iff.1 h.1
  have h2 := isCb_iff.1 h.2
  unfold isC at *
  exact ⟨h1.1, h1.2, h2.1, h2.2⟩
end Go.Proofs.YtegmjmdkhbibjaaGreat

/- Plain geometry: areas; a further place; the middle of two places. -/
namespace Go.Proofs.YtegmjmdkhbibjaaGreat
open Go
/-- A sum. -/
def sm (f : Nat → Int) : Nat → Int
  | 0 => 0
  | n + 1 => sm f n + f n
/-! ### Sums over lists -/
end Go.Proofs.YtegmjmdkhbibjaaGreat

/- The hull that the program makes is the hull. -/
namespace Go.Proofs.YtegmjmdkhbibjaaGreat
open Go
end Go.Proofs.YtegmjmdkhbibjaaGreat

/- Contracts: hull.Hull, hull.Area. -/
namespace Go.Proofs.YtegmjmdkhbibjaaGreat
open Go Go.V Go.RowKit
end Go.Proofs.YtegmjmdkhbibjaaGreat

/- Plain geometry: the eight-sided hull. -/
namespace Go.Proofs.YtegmjmdkhbibjaaGreat
open Go
def fX (p : Pt) : Int := p.1
def fY (p : Pt) : Int := p.2
def fS (p : Pt) : Int := p.1 + p.2
def fD (p : Pt) : Int := p.1 - p.2
/-- Eight bounds. -/
structure B8 where
  (a b c d s t u v : Int)
def b8 (p : List Pt) : B8 := ⟨loB fX p, hiB fX p, loB fY p, hiB fY p, loB fS p, hiB fS p, loB fD p, hiB fD p⟩
def B8.has (B : B8) (x : Pt) : Prop := B.a ≤ x.1 ∧ x.1 ≤ B.b ∧ B.c ≤ x.2 ∧ x.2 ≤ B.d ∧ B.s ≤ x.1 + x.2 ∧ x.1 + x.2 ≤ B.t ∧ B.u ≤ x.1 - x.2 ∧ x.1 - x.2 ≤ B.v
/-- The bounds are met. -/
structure B8.Met (B : B8) : Prop where
  a : ∃ x, B.has x ∧ x.1 = B.a
  b : ∃ x, B.has x ∧ x.1 = B.b
  c : ∃ x, B.has x ∧ x.2 = B.c
  d : ∃ x, B.has x ∧ x.2 = B.d
  s : ∃ x, B.has x ∧ x.1 + x.2 = B.s
  t : ∃ x, B.has x ∧ x.1 + x.2 = B.t
  u : ∃ x, B.has x ∧ x.1 - x.2 = B.u
  v : ∃ x, B.has x ∧ x.1 - x.2 = B.v
/-- The corners of the eight sides. -/
def B8.pts (B : B8) : List Pt := [(B.a, B.s - B.a), (B.a, B.a - B.u), (B.b, B.b - B.v), (B.b, B.t - B.b), (B.s - B.c, B.c), (B.c + B.v, B.c), (B.d + B.u, B.d), (B.t - B.d, B.d)]
/-- The same, as the program reckons them. -/
def B8.ptsP (B : B8) : List Pt := [(B.a, max (max B.c (B.s - B.a)) (B.a - B.v)), (B.a, min (min B.d (B.t - B.a)) (B.a - B.u)), (B.b, max (max B.c (B.s - B.b)) (B.b - B.v)), (B.b, min (min B.d (B.t - B.b)) (B.b - B.u)),
  (max (max B.a (B.s - B.c)) (B.c + B.u), B.c), (min (min B.b (B.t - B.c)) (B.c + B.v), B.c), (max (max B.a (B.s - B.d)) (B.d + B.u), B.d), (min (min B.b (B.t - B.d)) (B.d + B.v), B.d)]
/-- What the bounds say of one another. -/
structure B8.In (B : B8) : Prop where
  h1 : B.a ≤ B.b ∧ B.c ≤ B.d ∧ B.s ≤ B.t ∧ B.u ≤ B.v
  h2 : B.a + B.c ≤ B.s ∧ 2 * B.a ≤ B.s + B.v ∧ B.s ≤ B.a + B.d
  h3 : B.a ≤ B.d + B.u ∧ 2 * B.a ≤ B.t + B.u ∧ B.c ≤ B.a - B.u
  h4 : B.c + B.v ≤ B.b ∧ B.s + B.v ≤ 2 * B.b ∧ B.b - B.v ≤ B.d
  h5 : B.t - B.d ≤ B.b ∧ B.t + B.u ≤ 2 * B.b ∧ B.b + B.c ≤ B.t
  h6 : 2 * B.c ≤ B.s - B.u ∧ B.s - B.c ≤ B.b
  h7 : 2 * B.c ≤ B.t - B.v ∧ B.a ≤ B.c + B.v
  h8 : B.s - B.u ≤ 2 * B.d ∧ B.d + B.u ≤ B.b
  h9 : B.t - B.v ≤ 2 * B.d ∧ B.a ≤ B.t - B.d
  h10 : B.s + B.u ≤ 2 * B.a ∧ 2 * B.b ≤ B.t + B.v
  h11 : B.s - B.v ≤ 2 * B.c ∧ 2 * B.d ≤ B.t - B.u
theorem B8.Met.in {B : B8} (h : B.Met) : B.In := by
  obtain ⟨⟨xa, ha, ea⟩, ⟨xb, hb, eb⟩, ⟨xc, hc, ec⟩, ⟨xd, hd, ed⟩, ⟨xs, hs, es⟩, ⟨xt, ht, et⟩, ⟨xu, hu, eu⟩, ⟨xv, hv, ev⟩⟩ := h
  unfold B8.has at *
  constructor <;> omega
theorem B8.In.eq {B : B8} (h : B.In) : B.ptsP = B.pts := by
  obtain ⟨h1, h2, h3, h4, h5, h6, h7, h8, h9, h10, h11⟩ := h
  unfold B8.ptsP B8.pts
  have e1 : max (max B.c (B.s - B.a)) (B.a - B.v) = B.s - B.a := by omega
  have e2 : min (min B.d (B.t - B.a)) (B.a - B.u) = B.a - B.u := by omega
  have e3 : max (max B.c (B.s - B.b)) (B.b - B.v) = B.b - B.v := by omega
  have e4 : min (min B.d (B.t - B.b)) (B.b - B.u) = B.t - B.b := by omega
  have e5 : max (max B.a (B.s - B.c)) (B.c + B.u) = B.s - B.c := by omega
  have e6 : min (min B.b (B.t - B.c)) (B.c + B.v) = B.c + B.v := by omega
  have e7 : max (max B.a (B.s - B.d)) (B.d + B.u) = B.d + B.u := by omega
  have e8 : min (min B.b (B.t - B.d)) (B.d + B.v) = B.t - B.d := by omega
  rw [e1, e2, e3, e4, e5, e6, e7, e8]
end Go.Proofs.YtegmjmdkhbibjaaGreat

/- Contract: hull.Eight. -/
namespace Go.Proofs.YtegmjmdkhbibjaaGreat
open Go Go.V Go.RowKit
end Go.Proofs.YtegmjmdkhbibjaaGreat

/- Contracts: the reference's hull. -/
namespace Go.Proofs.YtegmjmdkhbibjaaGreat
open Go Go.V Go.RowKit
end Go.Proofs.YtegmjmdkhbibjaaGreat

/- Contracts: the reference's hull, joined. -/
namespace Go.Proofs.YtegmjmdkhbibjaaGreat
open Go Go.V Go.RowKit
end Go.Proofs.YtegmjmdkhbibjaaGreat

/- Contracts: the reference's Hull, Has, Box, Eight, Area. -/
namespace Go.Proofs.YtegmjmdkhbibjaaGreat
open Go Go.V Go.RowKit
end Go.Proofs.YtegmjmdkhbibjaaGreat

/- Contracts: the reference's Corners, Box, Octagon, Eight, Area. -/
namespace Go.Proofs.YtegmjmdkhbibjaaGreat
open Go Go.V Go.RowKit
end Go.Proofs.YtegmjmdkhbibjaaGreat

/- Contracts: the same, with the value given; the statements' examples. -/
namespace Go.Proofs.YtegmjmdkhbibjaaGreat
open Go Go.V Go.RowKit
def two : List Pt := [(0, 0), (5, 1)]
end Go.Proofs.YtegmjmdkhbibjaaGreat

/- Plain geometry in rational numbers: a place slides along a line, up to the first edge. -/
namespace Go.Proofs.YtegmjmdkhbibjaaGreat
open Go
/-- An affine function. -/
structure Lin where
  (a b c : Rat)
abbrev P2 := Rat × Rat
def Lin.at (f : Lin) (z : P2) : Rat := f.a * z.1 + f.b * z.2 + f.c
def mvP (z v : P2) (t : Rat) : P2 := (z.1 + t * v.1, z.2 + t * v.2)
def q2 (p : Pt) : P2 := ((p.1 : Rat), (p.2 : Rat))
/-- A side. -/
def vecQ (a b : Pt) : P2 := ((b.1 : Rat) - a.1, (b.2 : Rat) - a.2)
def segQ (a b : Pt) (s : Rat) : P2 := mvP (q2 a) (vecQ a b) s
end Go.Proofs.YtegmjmdkhbibjaaGreat

/- Contract: the examples at the head of the hull's laws. -/
namespace Go.Proofs.YtegmjmdkhbibjaaGreat
open Go Go.V Go.RowKit
end Go.Proofs.YtegmjmdkhbibjaaGreat

/- HullMatchesReference: all functions of package hull return what the reference returns. No conditions beyond the statement's own. -/
namespace Go.Proofs.YtegmjmdkhbibjaaGreat
open Go Go.V Go.RowKit
end Go.Proofs.YtegmjmdkhbibjaaGreat
namespace Go.Proofs.YtegmjmdkhbibjaaGreat.hullMatchesReference
open Go Go.V Go.RowKit
end Go.Proofs.YtegmjmdkhbibjaaGreat.hullMatchesReference

/- What a hull's result says; more contracts with the value given. -/
namespace Go.Proofs.YtegmjmdkhbibjaaGreat
open Go Go.V Go.RowKit
end Go.Proofs.YtegmjmdkhbibjaaGreat

/- Plain geometry in rational numbers: polygons and their edges; what two polygons have in common, and what a half-plane leaves of one. -/
namespace Go.Proofs.YtegmjmdkhbibjaaGreat
open Go
def nx (p : List Pt) (i : Nat) : Pt := gp p ((i + 1) % p.length)
/-! ### Two corners -/
end Go.Proofs.YtegmjmdkhbibjaaGreat

/- Plain geometry: what two polygons have in common is in the hull of the corners and crossings that they share; what a half-plane leaves of one. -/
namespace Go.Proofs.YtegmjmdkhbibjaaGreat
open Go
def crossesB (s t : Int) : Bool := (decide (s < 0) && decide (0 < t)) || (decide (0 < s) && decide (t < 0))
/-- Sides of two polygons cross. -/
def crossIJ (p q : List Pt) (i j : Nat) : Bool := crossesB (crossP (gp p i) (nx p i) (gp q j)) (crossP (gp p i) (nx p i) (nx q j)) && crossesB (crossP (gp q j) (nx q j) (gp p i)) (crossP (gp q j) (nx q j) (nx p i))
theorem crossIJ_comm (p q : List Pt) (i j : Nat) : crossIJ p q i j = crossIJ q p j i := Bool.and_comm _ _
/-- Where a slide along a side ends. -/
structure EndOf (p q : List Pt) (f : Lin) : Prop where
  no1 : ∀ y ∈ p, hasB q y = true → ¬ f.at (q2 y) < 0
  no2 : ∀ y ∈ q, hasB p y = true → ¬ f.at (q2 y) < 0
  no3 : ∀ i j, i < p.length → j < q.length → crossIJ p q i j = true → ∀ r s, segQ (gp p i) (nx p i) s = segQ (gp q j) (nx q j) r → ¬ f.at (segQ (gp p i) (nx p i) s) < 0
theorem EndOf.symm {p q : List Pt} {f : Lin} (h : EndOf p q f) : EndOf q p f :=
  ⟨h.no2, h.no1, fun i j hi hj hc r s e => by rw [e]; exact h.no3 j i hj hi (by rw [crossIJ_comm]; exact hc) s r e.symm⟩
end Go.Proofs.YtegmjmdkhbibjaaGreat

/- Plain geometry: the places around a crossing; hulls of places, or their octagons. -/
namespace Go.Proofs.YtegmjmdkhbibjaaGreat
open Go
/-- A quotient, rounded down. -/
def flr (a b : Int) : Int := if 0 < b then a / b else (-a) / (-b)
def hi1 (x y s t : Int) : Int := x - flr (-((y - x) * s)) (s - t)
end Go.Proofs.YtegmjmdkhbibjaaGreat

/- Hulls with any number of corners, plainly; the bounds of lists. -/
namespace Go.Proofs.YtegmjmdkhbibjaaGreat
open Go
end Go.Proofs.YtegmjmdkhbibjaaGreat

/- Package cut, plainly: what is kept, what is shared, and its hull or octagon. -/
namespace Go.Proofs.YtegmjmdkhbibjaaGreat
open Go
end Go.Proofs.YtegmjmdkhbibjaaGreat

/- Package cut, plainly: what a half-plane keeps of a polygon; what two polygons share. -/
namespace Go.Proofs.YtegmjmdkhbibjaaGreat
open Go
/-! ### Two polygons -/
end Go.Proofs.YtegmjmdkhbibjaaGreat

/- Tides, plainly: editions, what holds in a block and a slot, the least bounds of several. -/
namespace Go.Proofs.YtegmjmdkhbibjaaGreat
open Go
structure FlowS where
  x : Int
  y : Int
  s : Int
  ul : Int
  uh : Int
  vl : Int
  vh : Int
  hl : Int
  hh : Int
def zeroF : FlowS := ⟨0, 0, 0, 0, 0, 0, 0, 0, 0⟩
def spB (m lo hi : Int) : Bool := decide (lo ≤ hi ∧ -m ≤ lo ∧ hi ≤ m)
def bndB (f : FlowS) : Bool := spB 5000 f.ul f.uh && spB 5000 f.vl f.vh && spB 2000 f.hl f.hh
def gf (l : List FlowS) (i : Nat) : FlowS := l.getD i zeroF
/-! ### Order of flows -/
/-! ### The least bounds of several -/
structure IsJ (S : FlowS → Prop) (f : FlowS) : Prop where
  x : f.x = 0
  y : f.y = 0
  s : f.s = 0
  ul : (∀ g, S g → f.ul ≤ g.ul) ∧ ∃ g, S g ∧ g.ul = f.ul
  uh : (∀ g, S g → g.uh ≤ f.uh) ∧ ∃ g, S g ∧ g.uh = f.uh
  vl : (∀ g, S g → f.vl ≤ g.vl) ∧ ∃ g, S g ∧ g.vl = f.vl
  vh : (∀ g, S g → g.vh ≤ f.vh) ∧ ∃ g, S g ∧ g.vh = f.vh
  hl : (∀ g, S g → f.hl ≤ g.hl) ∧ ∃ g, S g ∧ g.hl = f.hl
  hh : (∀ g, S g → g.hh ≤ f.hh) ∧ ∃ g, S g ∧ g.hh = f.hh
theorem lo_unique {α : Type} {S T : α → Prop} {c : α → Int} {a b : Int} (hT : ∀ g, T g → S g) (h : (∀ g, S g → a ≤ c g) ∧ ∃ g, S g ∧ c g = a) (k : (∀ g, T g → b ≤ c g) ∧ ∃ g, T g ∧ c g = b) : a ≤ b := by
  obtain ⟨g, hg, e⟩ := k.2
  have := h.1 g (hT g hg)
  omega
theorem hi_unique {α : Type} {S T : α → Prop} {c : α → Int} {a b : Int} (hT : ∀ g, T g → S g) (h : (∀ g, S g → c g ≤ a) ∧ ∃ g, S g ∧ c g = a) (k : (∀ g, T g → c g ≤ b) ∧ ∃ g, T g ∧ c g = b) : b ≤ a := by
  obtain ⟨g, hg, e⟩ := k.2
  have := h.1 g (hT g hg)
  omega
/-- Bounds within others. -/
def inF (a b : FlowS) : Prop := b.ul ≤ a.ul ∧ a.uh ≤ b.uh ∧ b.vl ≤ a.vl ∧ a.vh ≤ b.vh ∧ b.hl ≤ a.hl ∧ a.hh ≤ b.hh
theorem IsJ.le {S T : FlowS → Prop} {f g : FlowS} (h : IsJ S f) (k : IsJ T g) (hT : ∀ x, T x → S x) : inF g f :=
  ⟨lo_unique hT h.ul k.ul, hi_unique hT h.uh k.uh, lo_unique hT h.vl k.vl, hi_unique hT h.vh k.vh, lo_unique hT h.hl k.hl, hi_unique hT h.hh k.hh⟩
theorem IsJ.mem {S : FlowS → Prop} {f g : FlowS} (h : IsJ S f) (hg : S g) : inF g f := ⟨h.ul.1 g hg, h.uh.1 g hg, h.vl.1 g hg, h.vh.1 g hg, h.hl.1 g hg, h.hh.1 g hg⟩
theorem IsJ.congr {S T : FlowS → Prop} {f : FlowS} (h : IsJ S f) (hT : ∀ x, T x ↔ S x) : IsJ T f := by
  have : T = S := funext fun x => propext (hT x)
  rw [this]; exact h
theorem IsJ.one {f : FlowS} (hx : f.x = 0) (hy : f.y = 0) (hs : f.s = 0) : IsJ (· = f) f :=
  ⟨hx, hy, hs, ⟨fun _ h => by rw [h]; exact Int.le_refl _, _, rfl, rfl⟩, ⟨fun _ h => by rw [h]; exact Int.le_refl _, _, rfl, rfl⟩, ⟨fun _ h => by rw [h]; exact Int.le_refl _, _, rfl, rfl⟩, ⟨fun _ h => by rw [h]; exact Int.le_refl _, _, rfl, rfl⟩, ⟨fun _ h => by rw [h]; exact Int.le_refl _, _, rfl, rfl⟩, ⟨fun _ h => by rw [h]; exact Int.le_refl _, _, rfl, rfl⟩⟩
theorem IsJ.bnd {S : FlowS → Prop} {f : FlowS} (h : IsJ S f) (hS : ∀ g, S g → bndB g = true) : bndB f = true := by
  obtain ⟨g1, k1, e1⟩ := h.ul.2
  obtain ⟨g2, k2, e2⟩ := h.uh.2
  obtain ⟨g3, k3, e3⟩ := h.vl.2
  obtain ⟨g4, k4, e4⟩ := h.vh.2
  obtain ⟨g5, k5, e5⟩ := h.hl.2
  obtain ⟨g6, k6, e6⟩ := h.hh.2
  have b1 := hS _ k1; have b2 := hS _ k2; have b3 := hS _ k3; have b4 := hS _ k4; have b5 := hS _ k5; have b6 := hS _ k6
  have c1 := h.uh.1 _ k1; have c3 := h.vh.1 _ k3; have c5 := h.hh.1 _ k5
  simp only [bndB, spB, Bool.and_eq_true, decide_eq_true_eq] at b1 b2 b3 b4 b5 b6 ⊢
  omega

/-! ### What holds -/
end Go.Proofs.YtegmjmdkhbibjaaGreat

/- Contracts of exact, span, and of the leaves of tide. -/
namespace Go.Proofs.YtegmjmdkhbibjaaGreat
open Go Go.V Go.RowKit
end Go.Proofs.YtegmjmdkhbibjaaGreat

/- Contracts of package cut: half-planes, sides, frames. -/
namespace Go.Proofs.YtegmjmdkhbibjaaGreat
open Go Go.V Go.RowKit
def hv (A B C : Int) : Value := .agg #[.int .i64 A, .int .i64 B, .int .i64 C]
end Go.Proofs.YtegmjmdkhbibjaaGreat

/- Rays, plainly: 64 directions, and what lies between two of them. -/
namespace Go.Proofs.YtegmjmdkhbibjaaGreat
open Go
end Go.Proofs.YtegmjmdkhbibjaaGreat

/- The verification-condition framework, part T: a region that draws its order, more than one of whose operations make memory, in any order. -/
namespace Go.V
open Go Go.RowKit
variable {P : Program}

/-- It has not been taken, and whom it waits for has been. -/
def rdyB (ops : List Oper) (D : List Nat) (i : Nat) : Bool :=
  !D.any (Nat.beq i) && match ops[i]? with | some o => (bindsOn o).all (fun k => D.any (Nat.beq k)) | none => false
def nextV (ops : List Oper) (vs D : List Nat) : Option Nat := vs.find? (rdyB ops D)
def cands (ops : List Oper) (D : List Nat) : List Nat := (List.range ops.length).filter (rdyB ops D)
/-- Two operations of which neither waits for the other are apart. -/
def pairS (ops : Array Oper) (tab : List Nat) (i j : Nat) : Bool :=
  match ops[i]?, ops[j]? with
  | some o, some o' => dstNe o o' && (anc tab j i || anc tab i j || (!dstIn (o'.looksAt ops) o && !dstIn (o.looksAt ops) o'))
  | _, _ => false
def statOK (ops : Array Oper) (vs tab : List Nat) : Bool :=
  tabOK ops.toList tab && (ops.toList.all plainOp) && (vs.all fun i => (List.range ops.size).all fun j => Nat.beq i j || pairS ops tab i j)
theorem any_beq {D : List Nat} {i : Nat} : D.any (Nat.beq i) = true ↔ i ∈ D := by
  rw [List.any_eq_true]
  constructor
  · rintro ⟨x, hx, h⟩
    rw [Nat.eq_of_beq_eq_true h]; exact hx
  · exact fun h => ⟨i, h, Nat.beq_refl i⟩
theorem rdyB_iff {ops : Array Oper} {D : List Nat} {i : Nat} : rdyB ops.toList D i = true ↔ i ∉ D ∧ ∃ o, ops[i]? = some o ∧ ∀ k ∈ bindsOn o, k ∈ D := by
  unfold rdyB
  rw [Bool.and_eq_true, Bool.not_eq_true', ← Bool.not_eq_true, any_beq]
  constructor
  · rintro ⟨h1, h2⟩
    refine ⟨h1, ?_⟩
    split at h2
    · rename_i o ho
      refine ⟨o, by simpa using ho, fun k hk => any_beq.1 (List.all_eq_true.1 h2 k hk)⟩
    · cases h2
  · rintro ⟨h1, o, ho, hk⟩
    refine ⟨h1, ?_⟩
    have ho' : ops.toList[i]? = some o := by simpa using ho
    rw [ho']
    exact List.all_eq_true.2 fun k hk' => any_beq.2 (hk k hk')
/-- The operations, what yields a value as soon as it can; of the others any that can. -/
def eagT (R : WR) (F : Fence) (n : Nat) (P : Program) (ops : Array Oper) (vs : List Nat) (Q : Exit → Act → World → Prop) : Nat → List Nat → Act → World → Prop
  | 0, _, a, w => Q .normal a w
  | f + 1, D, a, w => match nextV ops.toList vs D with
    | some i => ∃ o, ops[i]? = some o ∧ ∃ v, (∀ W, R.r w W → Yv P ops o a v W) ∧ (∀ W g, R.r w W → o.about P W a.eval = some g → F.fn g) ∧ eagT R F n P ops vs Q f (i :: D) (a.put o.dst v) w
    | none => ∀ i ∈ cands ops.toList D, wpOpIn F n P ops Q i (fun a' w' => R.r w w' ∧ eagT R F n P ops vs Q f (i :: D) a' w') a w
theorem statOK_spec {ops : Array Oper} {vs tab : List Nat} (h : statOK ops vs tab = true) : tabOK ops.toList tab = true ∧ (∀ (i : Nat) (o : Oper), ops[i]? = some o → plainOp o = true) ∧ ∀ i ∈ vs, ∀ j, j < ops.size → i ≠ j → pairS ops tab i j = true := by
  simp only [statOK, Bool.and_eq_true, List.all_eq_true, List.mem_range, Bool.or_eq_true] at h
  obtain ⟨⟨h1, h2⟩, h3⟩ := h
  refine ⟨h1, fun i o ho => h2 o ?_, fun i hi j hj hne => ?_⟩
  · exact List.mem_of_getElem? (by simpa using ho : ops.toList[i]? = some o)
  · rcases h3 i hi j hj with h | h
    · exact absurd (Nat.eq_of_beq_eq_true h) hne
    · exact h
theorem pairS_pair {ops : Array Oper} {tab : List Nat} {i j : Nat} (h : pairS ops tab i j = true) (hn : anc tab i j = false) : pairOK ops tab (i, 0) (j, 0) = true := by
  unfold pairS at h
  unfold pairOK
  split at h
  · rename_i o o' h1 h2
    simp only [h1, h2]
    rw [hn, Bool.or_false] at h
    simpa using h
  · cases h
theorem all_lt_len : ∀ (n : Nat) (D : List Nat), (∀ i, i < n → i ∈ D) → n ≤ D.length
  | 0, _, _ => Nat.zero_le _
  | n + 1, D, h => by
    have hn := h n (Nat.lt_succ_self n)
    have ih := all_lt_len n (D.erase n) fun i hi => (List.mem_erase_of_ne (by omega)).2 (h i (by omega))
    rw [List.length_erase_of_mem hn] at ih
    have := List.length_pos_of_mem hn
    omega
theorem nodup_le_len : ∀ (n : Nat) (E : List Nat), (∀ x ∈ E, x < n) → E.Nodup → E.length ≤ n
  | 0, E, hE, _ => by
    cases E with
    | nil => exact Nat.le_refl _
    | cons x E => have := hE x List.mem_cons_self; omega
  | n + 1, E, hE, hn => by
    by_cases hm : n ∈ E
    · have := nodup_le_len n (E.erase n) (fun x hx => by
        have h1 := hE x (List.mem_of_mem_erase hx)
        have h2 := (hn.mem_erase_iff.1 hx).1
        omega) (hn.erase n)
      rw [List.length_erase_of_mem hm] at this
      omega
    · have := nodup_le_len n E (fun x hx => by
        have h1 := hE x hx
        have : x ≠ n := fun e => hm (e ▸ hx)
        omega) hn
      omega
theorem bindsOn_lt {ops : Array Oper} {tab : List Nat} (h : tabOK ops.toList tab = true) {i : Nat} {o : Oper} (ho : ops[i]? = some o) {k : Nat} (hk : k ∈ bindsOn o) : k < i := by
  have ho' : ops.toList[i]? = some o := by simpa using ho
  have hi : i < ops.toList.length := (List.getElem?_eq_some_iff.1 ho').1
  simp only [tabOK, List.all_eq_true, List.mem_range] at h
  have h1 := h i hi
  rw [ho'] at h1
  simp only [Bool.and_eq_true, List.all_eq_true] at h1
  exact Nat.le_of_ble_eq_true (h1.1 k hk)
/-- The state of such a region under way. -/
structure WayT (R : WR) (F : Fence) (n : Nat) (P : Program) (ops : Array Oper) (vs : List Nat) (Q : Exit → Act → World → Prop) (tab : List Nat) (us : List Nat) (listed : Array Bool) (a la : Act) (w : World) (pend : List PE) (D : List Nat) (f : Nat) : Prop where
  und : us.Nodup
  size : listed.size = ops.size
  uiff : ∀ i, i < ops.size → (listed.getD i true = false ↔ i ∈ us)
  ult : ∀ i ∈ us, i < ops.size
  dnd : D.Nodup
  len : D.length + f = ops.size
  dA : ∀ i, i < ops.size → i ∉ us → i ∈ D
  dP : ∀ i ∈ D, i ∈ us → ∃ p ∈ pend, p.i = i
  dlt : ∀ i ∈ D, i < ops.size
  punl : ∀ p ∈ pend, p.i ∈ us ∧ p.i ∈ D ∧ p.i ∈ vs
  pnd : (pend.map PE.i).Nodup
  closedD : ∀ i o, ops[i]? = some o → i ∈ D → ∀ k ∈ bindsOn o, k ∈ D
  closed : ∀ i o, ops[i]? = some o → listed.getD i false = true → ∀ k ∈ bindsOn o, listed.getD k false = true
  defers : a.defers = la.defers
  tsize : a.tmps.size = la.tmps.size
  agree : ∀ d, (∀ p ∈ pend, p.o.dst ≠ some d) → a.tmps[d]? = la.tmps[d]?
  inv : PInv R F P ops tab a la w pend
  rest : eagT R F n P ops vs Q f D la w
theorem way_anyT {R : WR} {F : Fence} {n : Nat} {ops : Array Oper} {Q : Exit → Act → World → Prop} {vs tab : List Nat} (hok : statOK ops vs tab = true) (hQ : ∀ c a w, ¬ Q (.panic c) a w) :
    ∀ (fuel : Nat) {us : List Nat} {listed : Array Bool} {a la : Act} {w : World} {pend : List PE} {D : List Nat} {f : Nat}, us.length = fuel → WayT R F n P ops vs Q tab us listed a la w pend D f → wpAnyIn F n P .any ops Q fuel listed a w := by
  obtain ⟨htab, hplain, hstat⟩ := statOK_spec hok
  have fin : ∀ {listed : Array Bool} {a la : Act} {w : World} {pend : List PE} {D : List Nat} {f : Nat}, WayT R F n P ops vs Q tab [] listed a la w pend D f → Q .normal a w := by
    intro listed a la w pend D f h
    have hp : pend = [] := by
      cases pend with
      | nil => rfl
      | cons p l => have := (h.punl p List.mem_cons_self).1; cases this
    subst hp
    have hf : f = 0 := by
      have := all_lt_len ops.size D fun i hi => h.dA i hi (fun hx => by cases hx)
      have := h.len
      omega
    subst hf
    have hal : a = la := by
      have h1 := h.defers
      have h2 : a.tmps = la.tmps := Array.ext_getElem? (fun d => h.agree d (fun p hp => by cases hp))
      cases a; cases la
      simp only at h1 h2
      subst h1; subst h2; rfl
    rw [hal]; exact h.rest
  -- something can come up: the least of those that are left
  have some_ready : ∀ {us : List Nat} {listed : Array Bool} {a la : Act} {w : World} {pend : List PE} {D : List Nat} {f : Nat}, WayT R F n P ops vs Q tab us listed a la w pend D f → Region.ready .any ops listed = [] → us = [] := by
    intro us listed a la w pend D f h hr
    cases hus : us with
    | nil => rfl
    | cons i0 us' =>
      exfalso
      obtain ⟨i, hi, hmin⟩ : ∃ i, i ∈ us ∧ ∀ k, k < i → k ∉ us := by
        obtain ⟨m, hm1, hm2⟩ := least_of (p := fun i => i ∈ us) i0 (by rw [hus]; exact List.mem_cons_self)
        exact ⟨m, hm1, fun k hk hku => by have := hm2 k hku; omega⟩
      have hlt := h.ult i hi
      have ho : ops[i]? = some ops[i] := Array.getElem?_eq_getElem hlt
      have : i ∈ Region.ready .any ops listed := ready_iff.2 ⟨hlt, (h.uiff i hlt).2 hi, _, ho, fun k hk => by
        have hki : k < i := bindsOn_lt htab ho hk
        have hnk := mt (h.uiff k (by omega)).1 (hmin k hki)
        rw [getD_tf (by rw [h.size]; omega)] at hnk
        simpa using hnk⟩
      rw [hr] at this; cases this
  intro fuel
  induction fuel with
  | zero =>
    intro us listed a la w pend D f hlen h
    have hus : us = [] := List.length_eq_zero_iff.1 hlen
    subst hus
    refine ⟨?_, fin h⟩
    cases hr : Region.ready .any ops listed with
    | nil => rfl
    | cons i l =>
      have hi : i ∈ Region.ready .any ops listed := by rw [hr]; exact List.mem_cons_self
      obtain ⟨h1, h2, _⟩ := ready_iff.1 hi
      have := (h.uiff i h1).1 h2
      cases this
  | succ fuel ih =>
    intro us listed a la w pend D f hlen h
    refine ⟨fun hr => ?_, fun i hi => ?_⟩
    · have := some_ready h hr
      subst this
      exact fin h
    · obtain ⟨hilt, hil, oi, hoi, hib⟩ := ready_iff.1 hi
      have hius : i ∈ us := (h.uiff i hilt).1 hil
      have hlen' : (us.erase i).length = fuel := by rw [List.length_erase_of_mem hius, hlen]; rfl
      have noanc : ∀ k, k ∈ us → anc tab i k = false := by
        intro k hk
        cases ha : anc tab i k with
        | false => rfl
        | true =>
          exfalso
          have := anc_done htab (Ls := fun k => listed.getD k false = true) h.closed i k oi hoi hib ha (fun k hk => by rw [← h.size]; exact getD_lt hk)
          have h2 := (h.uiff k (h.ult k hk)).2 hk
          rw [getD_tf (by rw [h.size]; exact h.ult k hk)] at h2
          rw [h2] at this; cases this
      have hsz' : (listed.setIfInBounds i true).size = ops.size := by simp [h.size]
      have huiff' : ∀ k, k < ops.size → ((listed.setIfInBounds i true).getD k true = false ↔ k ∈ us.erase i) := by
        intro k hk
        rw [getD_set (by rw [h.size]; exact hilt), h.und.mem_erase_iff]
        by_cases hik : i = k
        · subst hik; simp
        · rw [if_neg hik, h.uiff k hk]
          exact ⟨fun h1 => ⟨fun e => hik e.symm, h1⟩, fun h1 => h1.2⟩
      have hclosed' : ∀ j o, ops[j]? = some o → (listed.setIfInBounds i true).getD j false = true → ∀ k ∈ bindsOn o, (listed.setIfInBounds i true).getD k false = true := by
        intro j o hj hl k hk
        rw [getD_set (by rw [h.size]; exact hilt)] at hl ⊢
        split
        · rfl
        · split at hl
          · rename_i e; subst e
            rw [hoi] at hj; cases hj
            exact hib k hk
          · exact h.closed j o hj hl k hk
      have hpl : plainOp oi = true := hplain i oi hoi
      have hibus : ∀ k ∈ bindsOn oi, k < ops.size ∧ k ∉ us := fun k hk => by
        have h1 := hib k hk
        have hks : k < ops.size := by rw [← h.size]; exact getD_lt h1
        refine ⟨hks, fun hku => ?_⟩
        have h2 := (h.uiff k hks).2 hku
        rw [getD_tf (by rw [h.size]; exact hks)] at h2
        rw [h2] at h1; cases h1
      clear hi hil
      have hund' := h.und.erase i
      have hult' : ∀ k ∈ us.erase i, k < ops.size := fun k hk => h.ult k (List.mem_of_mem_erase hk)
      have hmem' : ∀ k ∈ us, k ≠ i → k ∈ us.erase i := fun k hk hne => (h.und.mem_erase_iff).2 ⟨hne, hk⟩
      have hne' : ∀ k ∈ us.erase i, k ≠ i := fun k hk => ((h.und.mem_erase_iff).1 hk).1
      -- one that was taken ahead
      have doP : ∀ {la : Act} {pend : List PE} {D : List Nat} {f : Nat}, WayT R F n P ops vs Q tab us listed a la w pend D f → (∃ p ∈ pend, p.i = i) → wpOpIn F n P ops Q i (wpAnyIn F n P .any ops Q fuel (listed.setIfInBounds i true)) a w := by
        rintro la pend D f h ⟨p, hp, hpi⟩
        obtain ⟨l', hpe, hl'⟩ := h.inv.get p hp
        have hpo : p.o = oi := by have := hpe.ho; rw [hpi, hoi] at this; exact (Option.some.inj this).symm
        have hsee : Sees ops oi a p.b := by
          intro d hd
          rw [← hpo] at hd
          rcases hpe.see d hd with ⟨q, hq, hqd, _⟩ | ⟨_, h4⟩
          · have hqp := hl' q hq
            have := pair_spec (p := (q.i, 0)) (q := (p.i, 0)) (h.inv.ho q hqp) hpe.ho (hpe.pair q hq)
            exact absurd hd ((this.2 (by rw [hpi]; exact noanc q.i (h.punl q hqp).1)).2.2.1 d hqd)
          · exact h4.symm
        have hval := h.inv.val p hp
        have next : wpAnyIn F n P .any ops Q fuel (listed.setIfInBounds i true) (a.put oi.dst p.v) w := by
          refine ih (us := us.erase i) (la := la) (pend := pend.filter fun q => !Nat.beq q.i i) (D := D) (f := f) hlen' ⟨hund', hsz', huiff', hult', h.dnd, h.len, ?_, ?_, h.dlt, ?_, ?_, h.closedD, hclosed', by rw [put_defers]; exact h.defers, by rw [put_size]; exact h.tsize, ?_, ?_, h.rest⟩
          · intro k hk hku
            by_cases e : k = i
            · subst e; rw [← hpi]; exact (h.punl p hp).2.1
            · exact h.dA k hk fun hx => hku (hmem' k hx e)
          · intro k hkD hku
            obtain ⟨q, hq, hqk⟩ := h.dP k hkD (List.mem_of_mem_erase hku)
            refine ⟨q, List.mem_filter.2 ⟨hq, ?_⟩, hqk⟩
            cases hb : Nat.beq q.i i with
            | false => rfl
            | true => exact absurd ((Nat.eq_of_beq_eq_true hb).symm.trans hqk).symm (hne' k hku)
          · intro q hq
            obtain ⟨hq1, hq2⟩ := List.mem_filter.1 hq
            exact ⟨hmem' q.i (h.punl q hq1).1 (fun he => by rw [he, Nat.beq_refl] at hq2; cases hq2), (h.punl q hq1).2⟩
          · exact List.Nodup.sublist (List.Sublist.map _ List.filter_sublist) h.pnd
          · intro d hd
            by_cases hdd : oi.dst = some d
            · rw [hdd, put_get, if_pos rfl, hval d (by rw [hpo]; exact hdd), h.tsize]
            · rw [put_other _ _ hdd]
              refine h.agree d fun q hq hqd => ?_
              by_cases hqi : q.i = i
              · have := h.inv.ho q hq
                rw [hqi, hoi] at this
                cases this
                exact hdd hqd
              · refine hd q (List.mem_filter.2 ⟨hq, ?_⟩) hqd
                cases hb : Nat.beq q.i i with
                | false => rfl
                | true => exact absurd (Nat.eq_of_beq_eq_true hb) hqi
          · have := PInv.exec (j := p) (tab := tab) hpe.ho h.tsize hval h.inv (fun q hq _ => by rw [hpi]; exact noanc q.i (h.punl q hq).1) h.pnd (.inl hp)
            rw [hpo, hpi] at this
            exact this
        have hyv := hpe.yv w hpe.bel
        have hab := fun f => hpe.ab w f hpe.bel
        rw [hpo] at hyv hab
        unfold wpOpIn
        simp only [hoi]
        rw [hsee.wanted]
        rcases hyv with ⟨hw, hrun⟩ | ⟨hw, hv⟩
        · rw [if_pos hw]
          unfold Oper.wpIn
          rw [hsee.about]
          refine ⟨hab, ?_⟩
          rw [Oper.semAt_plain _ _ _ (plain_defer hpl), hsee.exec hpl, hrun]
          exact next
        · rw [if_neg (by rw [hw]; exact Bool.false_ne_true)]
          rw [hsee.about]
          exact ⟨hab, by rw [← hv]; exact next⟩
      have main : ∀ (f : Nat) {la : Act} {pend : List PE} {D : List Nat}, WayT R F n P ops vs Q tab us listed a la w pend D f → wpOpIn F n P ops Q i (wpAnyIn F n P .any ops Q fuel (listed.setIfInBounds i true)) a w := by
        intro f
        induction f with
        | zero =>
          intro la pend D h
          have hD : i ∈ D := by
            refine Classical.byContradiction fun hno => ?_
            have h1 := nodup_le_len ops.size (i :: D) (fun x hx => by
              rcases List.mem_cons.1 hx with rfl | hx
              · exact hilt
              · exact h.dlt x hx) (List.nodup_cons.2 ⟨hno, h.dnd⟩)
            have h2 := h.len
            rw [List.length_cons] at h1
            omega
          exact doP h (h.dP i hD hius)
        | succ f ihf =>
          intro la pend D h
          by_cases hp : ∃ p ∈ pend, p.i = i
          · exact doP h hp
          have hiD : i ∉ D := fun hD => hp (h.dP i hD hius)
          have hr := h.rest
          unfold eagT at hr
          have notD : ∀ {p : PE}, p ∈ pend → ∀ {j : Nat} {o : Oper}, j ∉ D → anc tab p.i j = false := by
            intro p hp j o hj
            cases ha : anc tab p.i j with
            | false => rfl
            | true =>
              exfalso
              have hpD := (h.punl p hp).2.1
              have hpo := h.inv.ho p hp
              exact hj (anc_done htab (Ls := fun k => k ∈ D) (fun i o ho hi k hk => h.closedD i o ho hi k hk) p.i j p.o hpo (h.closedD p.i p.o hpo hpD) ha (fun k hk => h.dlt k hk))
          split at hr
          · rename_i k hk
            have hkr : rdyB ops.toList D k = true := List.find?_some hk
            have hkv : k ∈ vs := List.mem_of_find?_eq_some hk
            obtain ⟨hkD, ok, hok0, hkb⟩ := rdyB_iff.1 hkr
            obtain ⟨ok1, hok', v, hv, hab, he⟩ := hr
            have eok : ok = ok1 := by rw [hok0] at hok'; exact Option.some.inj hok'
            subst eok
            have hkus : k ∈ us := Classical.byContradiction fun hno => hkD (h.dA k (Array.getElem?_eq_some_iff.1 hok0).1 hno)
            have hpk : ∀ p ∈ pend, p.i ≠ k := fun p hp he => hkD (he ▸ (h.punl p hp).2.1)
            have hpair : ∀ p ∈ pend, pairOK ops tab (p.i, 0) (k, 0) = true := fun p hp =>
              pairS_pair (hstat p.i (h.punl p hp).2.2 k (Array.getElem?_eq_some_iff.1 hok0).1 (hpk p hp)) (notD hp (o := ok) hkD)
            have hdst : ∀ p ∈ pend, ∀ d, p.o.dst = some d → ok.dst ≠ some d := fun p hp => (pair_spec (p := (p.i, 0)) (q := (k, 0)) (h.inv.ho p hp) hok0 (hpair p hp)).1
            refine ihf (la := la.put ok.dst v) (pend := ⟨k, ok, v, la, w⟩ :: pend) (D := k :: D) ⟨h.und, h.size, h.uiff, h.ult, List.nodup_cons.2 ⟨hkD, h.dnd⟩, by rw [List.length_cons]; have := h.len; omega, fun j hj hju => List.mem_cons_of_mem _ (h.dA j hj hju), ?_, ?_, ?_, ?_, ?_, h.closed, by rw [put_defers]; exact h.defers, by rw [put_size]; exact h.tsize, ?_, ⟨⟨hok0, hv, hab, R.refl _, ?_, ?_, hpair⟩, ?_⟩, he⟩
            · intro j hj hju
              rcases List.mem_cons.1 hj with rfl | hj
              · exact ⟨_, List.mem_cons_self, rfl⟩
              · obtain ⟨p, hp, hpj⟩ := h.dP j hj hju
                exact ⟨p, List.mem_cons_of_mem _ hp, hpj⟩
            · intro j hj
              rcases List.mem_cons.1 hj with rfl | hj
              · exact (Array.getElem?_eq_some_iff.1 hok0).1
              · exact h.dlt j hj
            · intro p hp
              rcases List.mem_cons.1 hp with rfl | hp
              · exact ⟨hkus, List.mem_cons_self, hkv⟩
              · exact ⟨(h.punl p hp).1, List.mem_cons_of_mem _ (h.punl p hp).2.1, (h.punl p hp).2.2⟩
            · refine List.nodup_cons.2 ⟨fun hm => ?_, h.pnd⟩
              obtain ⟨p, hp, hpi⟩ := List.mem_map.1 hm
              exact hpk p hp hpi
            · intro j o ho hj q hq
              rcases List.mem_cons.1 hj with rfl | hj
              · rw [hok0] at ho; cases ho
                exact List.mem_cons_of_mem _ (hkb q hq)
              · exact List.mem_cons_of_mem _ (h.closedD j o ho hj q hq)
            · intro d hd
              rw [put_other _ _ (hd _ List.mem_cons_self)]
              exact h.agree d fun p hp => hd p (List.mem_cons_of_mem _ hp)
            · intro d hd
              simp only at hd
              rw [hd, put_get, if_pos rfl]
              have := put_size la (some d) v
              rw [this]
            · intro d hd
              by_cases hx : ∃ p ∈ pend, p.o.dst = some d
              · obtain ⟨p, hp, hpd⟩ := hx
                exact .inl ⟨p, hp, hpd, by rw [put_other _ _ (hdst p hp d hpd)]⟩
              · exact .inr ⟨fun p hp hpd => hx ⟨p, hp, hpd⟩, (h.agree d fun p hp hpd => hx ⟨p, hp, hpd⟩).symm⟩
            · exact PInv.step (by rw [put_size]) h.inv (fun p hp d hd => by rw [put_other _ _ (hdst p hp d hd)]) (fun p hp d hd => rfl) (R.refl _)
          · -- an effect: the one that comes up is among those that can
            have hcand : i ∈ cands ops.toList D := by
              unfold cands
              refine List.mem_filter.2 ⟨List.mem_range.2 (by simpa using hilt), rdyB_iff.2 ⟨hiD, oi, hoi, fun k hk => ?_⟩⟩
              obtain ⟨h1, h2⟩ := hibus k hk
              exact h.dA k h1 h2
            have hop := hr i hcand
            have hap : ∀ p ∈ pend, (∀ d, p.o.dst = some d → d ∉ oi.looksAt ops) ∧ (∀ d, oi.dst = some d → d ∉ p.o.looksAt ops) ∧ ∀ d, p.o.dst = some d → oi.dst ≠ some d := by
              intro p hp'
              have hne : p.i ≠ i := fun e => hp ⟨p, hp', e⟩
              have h1 := pair_spec (p := (p.i, 0)) (q := (i, 0)) (h.inv.ho p hp') hoi (pairS_pair (hstat p.i (h.punl p hp').2.2 i hilt hne) (notD hp' (o := oi) hiD))
              have h2 := h1.2 (noanc p.i (h.punl p hp').1)
              exact ⟨h2.2.2.1, h2.2.2.2, h1.1⟩
            have hsee : Sees ops oi a la := fun d hd => h.agree d fun p hp hpd => (hap p hp).1 d hpd hd
            refine op_move hoi hpl hsee h.defers hQ hop ?_
            intro v w' ds hk
            obtain ⟨hb, he⟩ := hk
            refine ih (us := us.erase i) (la := { la with defers := ds }.put oi.dst v) (pend := pend) (D := i :: D) (f := f) hlen' ⟨hund', hsz', huiff', hult', List.nodup_cons.2 ⟨hiD, h.dnd⟩, by rw [List.length_cons]; have := h.len; omega, ?_, ?_, ?_, ?_, h.pnd, ?_, hclosed', by rw [put_defers, put_defers], by rw [put_size, put_size]; exact h.tsize, ?_, ?_, he⟩
            · intro k hk hku
              by_cases e : k = i
              · subst e; exact List.mem_cons_self
              · exact List.mem_cons_of_mem _ (h.dA k hk fun hx => hku (hmem' k hx e))
            · intro k hkD hku
              rcases List.mem_cons.1 hkD with rfl | hkD
              · exact absurd rfl (hne' _ hku)
              · exact h.dP k hkD (List.mem_of_mem_erase hku)
            · intro j hj
              rcases List.mem_cons.1 hj with rfl | hj
              · exact hilt
              · exact h.dlt j hj
            · intro p hp'
              exact ⟨hmem' p.i (h.punl p hp').1 (fun e => hp ⟨p, hp', e⟩), List.mem_cons_of_mem _ (h.punl p hp').2.1, (h.punl p hp').2.2⟩
            · intro j o ho hj q hq
              rcases List.mem_cons.1 hj with rfl | hj
              · rw [hoi] at ho; cases ho
                obtain ⟨h1, h2⟩ := hibus q hq
                exact List.mem_cons_of_mem _ (h.dA q h1 h2)
              · exact List.mem_cons_of_mem _ (h.closedD j o ho hj q hq)
            · intro d hd
              by_cases hdd : oi.dst = some d
              · rw [hdd, put_get, put_get, if_pos rfl, if_pos rfl]
                show (if d < a.tmps.size then some v else none) = if d < la.tmps.size then some v else none
                rw [h.tsize]
              · rw [put_other _ _ hdd, put_other _ _ hdd]
                exact h.agree d hd
            · refine PInv.step (by rw [put_size]) h.inv (fun p hp d hd => ?_) (fun p hp d hd => ?_) hb
              · rw [put_other _ _ ((hap p hp).2.2 d hd)]
              · rw [put_other _ _ (fun hx => (hap p hp).2.1 d hx hd)]
      exact main f h

/-- **A region that draws its order: whatever makes memory in any order.** -/
theorem wpIn_region_eagT {R : WR} {F : Fence} {n : Nat} {ops : Array Oper} {Q : Exit → Act → World → Prop} {vs tab : List Nat} {id : Nat} {a : Act} {w : World} (hm : P.follows .mixedOrders = true) (hok : statOK ops vs tab = true) (hQ : ∀ c a w, ¬ Q (.panic c) a w)
    (h : eagT R F n P ops vs Q ops.size [] a { w with drawn := w.drawn + 1 }) : (Code.region id ops true).wpIn F n P Q a w := by
  refine wpIn_region_any hm ?_
  refine way_anyT hok hQ ops.size (us := List.range ops.size) (la := a) (pend := []) (D := []) (f := ops.size) (by simp) ⟨List.nodup_range, by simp, ?_, (fun i hi => List.mem_range.1 hi), List.nodup_nil, by simp, (fun i hi hn => absurd (List.mem_range.2 hi) hn), (fun i hi => (by cases hi)), (fun i hi => (by cases hi)), (fun p hp => (by cases hp)), List.nodup_nil, (fun i o ho hi => (by cases hi)), ?_, rfl, rfl, fun _ _ => rfl, trivial, h⟩
  · intro i hi
    simp [Array.getD, hi]
  · intro i o ho hl
    simp [Array.getD] at hl

/-! ### Its verification condition -/
/-- Two things to show. -/
inductive VBoth (A B : Prop) : Prop
  | mk (h : A) (k : B)
def allC : List Nat → (Nat → Prop) → Prop
  | [], _ => VStuck 220
  | i :: r, p => match r with
    | [] => p i
    | _ => VBoth (p i) (allC r p)
theorem allC_mem : ∀ {l : List Nat} {p : Nat → Prop}, allC l p → ∀ i ∈ l, p i
  | [], _, h, _, _ => by cases h
  | [j], p, h, i, hi => by simp at hi; subst hi; exact h
  | j :: k :: r, p, h, i, hi => by
    cases h with
    | mk h1 h2 =>
      rcases List.mem_cons.1 hi with rfl | hi
      · exact h1
      · exact allC_mem (l := k :: r) h2 i hi
def vcT (C : VX) (P : Program) (ops : List Oper) (vs es : List Nat) (M0 : Mem) : Nat → List Nat → St → (St → Prop) → Prop
  | 0, _, st, k => k st
  | f + 1, D, st, k => match nextV ops vs D with
    | some i => match ops[i]? with
      | some o => guardV ops st o (fun st => barV C P M0 st o fun s => st.putv o.dst s fun st' => vcT C P ops vs es M0 f (i :: D) st' k) (fun st => st.putv o.dst (.v (.tuple #[])) fun st' => vcT C P ops vs es M0 f (i :: D) st' k)
      | none => VStuck 221
    | none => allC (es.filter (rdyB ops D)) fun i => match ops[i]? with
      | some o => guardV ops st o (fun st => step C P st o fun st' => st'.withM fun M' => VFact (M0.le M') (vcT C P ops vs es M0 f (i :: D) st' k)) (fun st => st.putv o.dst (.v (.tuple #[])) fun st' => vcT C P ops vs es M0 f (i :: D) st' k)
      | none => VStuck 222
theorem vcT_sound {C : VX} (hC : VXOK P C) {r : Option Nat} {n : Nat} {κ : Yt → Bs → Prop} {fx : Nat → Prop} {tm : Array Value} {ops : Array Oper} {vs es : List Nat} (hes : ∀ i, i < ops.toList.length → i ∉ vs → i ∈ es) {k : St → Prop} {G : Gh} {Q : Exit → Act → World → Prop} (hQ : ∀ a W, KK κ G k a W → Keep fx tm a → Q .normal a W) (hw : ∀ o ∈ ops.toList, ∀ d, o.dst = some d → ¬ fx d) {B : Bs} {M0 : Mem} (hlow : ∀ b, b < B.n₀ → M0 b = B.M₀ b) :
    ∀ (f : Nat) {D : List Nat} {ρ : Env} {st : St} {a : Act} {W : World}, vcT C P ops.toList vs es M0 f D st k → κ st.G.Y B → Sat B.n₀ B.w B.M₀ ρ st a W → G.lq st.G → Keep fx tm a → M0.le st.M → eagT (WR.keep (KeepW B M0)) (Fw r) n P ops vs Q f D a W := by
  intro f
  induction f with
  | zero => intro D ρ st a W hk hκ h hG hkp _; exact hQ a W ⟨B, ρ, st, hκ, h, hG, hk⟩ hkp
  | succ f ih =>
    intro D ρ st a W hk hκ h hG hkp hle
    have putM : ∀ (st : St) (d : Option Tmp) (s : SV), (st.put d s).M = st.M := fun st d s => by cases d <;> rfl
    have kw : ∀ {ρ' : Env} {st' : St} {a' : Act} {W' : World}, Sat B.n₀ B.w B.M₀ ρ' st' a' W' → M0.le st'.M → KeepW B M0 W' := fun h hl => ⟨h.h.below, h.h.size, fun b o hb => h.h.mem b o (hl b o hb)⟩
    have skip : ∀ {i : Nat} {o : Oper}, (∀ d, o.dst = some d → ¬ fx d) → ∀ {st1 : St}, Sat B.n₀ B.w B.M₀ ρ st1 a W → st1.G = st.G → M0.le st1.M → (st1.putv o.dst (.v (.tuple #[])) fun st' => vcT C P ops.toList vs es M0 f (i :: D) st' k) → eagT (WR.keep (KeepW B M0)) (Fw r) n P ops vs Q f (i :: D) (a.put o.dst undef) W := by
      intro i o hwo st1 h1 hG1 hM1 hB
      obtain ⟨j1, j2⟩ := putv_elim hB h1 (by trivial)
      exact ih j2 (by rw [put_G, hG1]; exact hκ) j1 (by rw [put_G, hG1]; exact hG) (hkp.put hwo _) (by rw [putM]; exact hM1)
    unfold vcT at hk
    unfold eagT
    split at hk
    · rename_i i hn
      split at hk
      · rename_i o ho
        have ho' : ops[i]? = some o := by simpa using ho
        have hwo := hw o (List.mem_of_getElem? ho)
        refine ⟨o, ho', ?_⟩
        obtain ⟨st1, h1, hG1, hM1, hcase⟩ := guard_soundM h hk
        have hM1' : M0.le st1.M := by rw [hM1]; exact hle
        rcases hcase with ⟨hw', hA⟩ | ⟨hw', hB⟩
        · obtain ⟨sl, ow, nx, M1, nt, G1⟩ := st1
          have hbH : ∀ W', KeepW B M0 W' → SatH B.n₀ B.w B.M₀ ρ ⟨sl, [], nx, M0, nt, ⟨fun _ => none, none, fun _ => none⟩⟩ W' := fun W' hk =>
            ⟨hk.1, hk.2.1, hk.2.2, fun id e he => (by cases he), fun i j ei ej hi => (by cases hi), fun i e b hi => (by cases hi), fun b o hb => (by cases hb), hlow, fun b o hb => (by cases hb)⟩
          have hbs : Sat B.n₀ B.w B.M₀ ρ ⟨sl, [], nx, M0, nt, ⟨fun _ => none, none, fun _ => none⟩⟩ { a with defers := [] } W := ⟨hbH W (kw h1 hM1'), h1.nt, h1.sl, trivial⟩
          obtain ⟨_, s, q1, q2, q3⟩ := val_sound hC hA hbs
          obtain ⟨j1, j2⟩ := putv_elim q3 h1 q1
          exact ⟨s.den ρ, fun W' hb => .inl ⟨hw', q2 W' (hbH W' (hb (kw h1 hM1')))⟩, fun _ _ _ _ => trivial, ih j2 (by rw [put_G, hG1]; exact hκ) j1 (by rw [put_G, hG1]; exact hG) (hkp.put hwo _) (by rw [putM]; exact hM1')⟩
        · exact ⟨undef, fun W' hb => .inr ⟨hw', rfl⟩, fun _ _ _ _ => trivial, skip hwo h1 hG1 hM1' hB⟩
      · cases hk
    · rename_i hn
      intro i hi
      have hi' : i ∈ es.filter (rdyB ops.toList D) := by
        obtain ⟨h1, h2⟩ := List.mem_filter.1 hi
        refine List.mem_filter.2 ⟨hes i (List.mem_range.1 h1) fun hv => ?_, h2⟩
        exact absurd h2 (List.find?_eq_none.1 hn i hv)
      have hk := allC_mem hk i hi'
      split at hk
      · rename_i o ho
        have ho' : ops[i]? = some o := by simpa using ho
        have hwo := hw o (List.mem_of_getElem? ho)
        obtain ⟨st1, h1, hG1, hM1, hcase⟩ := guard_soundM h hk
        have hM1' : M0.le st1.M := by rw [hM1]; exact hle
        unfold wpOpIn
        simp only [ho']
        rcases hcase with ⟨hw', hA⟩ | ⟨hw', hB⟩
        · rw [if_pos hw']
          refine Oper.wpIn_mono ?_ (op_keep (step_sound hC hA h1) hwo hkp)
          rintro a' W' ⟨⟨ρ', st', g1, g2, g3⟩, hkp'⟩
          cases withM_iff g3 with
          | mk hle' hk' => exact ⟨fun _ => kw g1 hle', ih hk' (by rw [g2.2, hG1]; exact hκ) g1 (hG.trans (by rw [← hG1]; exact g2.1)) hkp' hle'⟩
        · rw [if_neg (by rw [hw']; exact Bool.false_ne_true)]
          exact ⟨fun _ _ => trivial, fun h => h, skip hwo h1 hG1 hM1' hB⟩
      · cases hk
/-- Which operations yield a value. -/
def valsOf (ops : List Oper) : List Nat := (List.range ops.length).filter fun i => match ops[i]? with | some o => isVal ops o | none => false
/-- A region, its operations in any order; the ways come together in one state. -/
theorem VCode.draws {C : VX} (hC : VXOK P C) {id : Nat} {ops : Array Oper} {st : St} {Q : Ex → St → Prop} (ds : List Nat) (hok : statOK ops (valsOf ops.toList) (tabOf ops.toList) = true) (S : Type) (inv : S → St) (pf : S → Prop)
    (walk : frzSl st ds fun st1 => st1.withM fun M0 => vcT C P ops.toList (valsOf ops.toList) (List.range ops.toList.length) M0 ops.toList.length [] st1 fun st' => ∃ s, pf s ∧ Wk st' (inv s))
    (rest : st.withYf fun _ f => ∀ s m, pf s → (inv s).flatG m f (Q .normal)) : VCode P (.region id ops true) st Q := by
  refine ⟨fun r n κ B ρ a W fx tm hY hr hκ h hwr hkp => ?_⟩
  obtain ⟨st1, h1, hG1, hk⟩ := frzSl_sound h walk
  replace hk := withM_iff hk
  refine wpIn_region_eagT (R := WR.keep (KeepW B st1.M)) (vs := valsOf ops.toList) (tab := tabOf ops.toList) hC.mixed hok ?_ ?_
  · rintro c a' w' ⟨⟨ex, he, _⟩, _⟩; cases he
  · rw [show ops.toList.length = ops.size from Array.length_toList] at hk
    refine vcT_sound hC (fun i hi _ => List.mem_range.2 hi) (G := st1.G) (k := fun st' => ∃ s, pf s ∧ Wk st' (inv s)) (fun a W hK hkp => ⟨⟨.normal, rfl, ?_⟩, hkp⟩) hwr h1.h.mlow _ hk (by rw [hG1]; exact hκ) (h1.grow (W' := { W with drawn := W.drawn + 1 }) (Below.drew (Below.refl _ W)) (M' := st1.M) h1.h.mem (fun _ _ => rfl)) (Gh.lq_refl _) hkp (Mem.le_refl _)
    obtain ⟨B', ρ', st', hκ', g1, g2, s, hp, hwk⟩ := hK
    obtain ⟨ρ1, hs1⟩ := hwk.imp st'.G _ _ _ ρ' a W g1
    have hq := flatG_iff (withYf_iff rest s st'.G.m hp)
    have hf : st'.G.f = st.G.f := by rw [g2.2, hG1]
    refine ⟨B', ρ1, _, ?_, ?_, ?_, hq⟩
    · rw [← hwk.y]; exact hκ'
    · rw [← hwk.y, ← hf]; exact hs1
    · exact ⟨by rw [← hG1]; exact g2.1, rfl⟩
/-- What a join asks of the ways through a code. -/
def joinQ (S : Type) (inv : S → St) (pf : S → Prop) (Q : Ex → St → Prop) : Ex → St → Prop := fun e st' => match e with
  | .normal => ∃ s, pf s ∧ Wk st' (inv s)
  | .ret => Q .ret st'
  | .exit i => Q (.exit i) st'
/-- A state that says less, ahead of a code. -/
theorem VCode.ease {c : Code} {st : St} {Q : Ex → St → Prop} (st' : St) (hw : Wk st st') (rest : st.withYf fun _ f => ∀ m, st'.flatG m f fun st2 => VCode P c st2 Q) : VCode P c st Q := by
  refine ⟨fun r n κ B ρ a W fx tm hY hr hκ h hwr hkp => ?_⟩
  obtain ⟨ρ1, hs1⟩ := hw.imp st.G _ _ _ ρ a W h
  have hq := flatG_iff (withYf_iff rest st.G.m)
  have hG : (⟨st.G.m, st'.G.Y, st.G.f⟩ : Gh) = st.G := by rw [← hw.y]
  rw [hG] at hq
  exact hq.run r n κ B ρ1 a W fx tm hY hr hκ hs1 hwr hkp
/-- What slots hold is frozen ahead of a code: own variables that are only read from here on. -/
theorem VCode.frz {c : Code} {st : St} {Q : Ex → St → Prop} (ds : List Nat) (walk : frzSl st ds fun st1 => VCode P c st1 Q) : VCode P c st Q := by
  refine ⟨fun r n κ B ρ a W fx tm hY hr hκ h hwr hkp => ?_⟩
  obtain ⟨st1, h1, hG1, hk⟩ := frzSl_sound h walk
  have := hk.run r n κ B ρ a W fx tm hY (by rw [hG1]; exact hr) (by rw [hG1]; exact hκ) h1 hwr hkp
  rw [hG1] at this
  exact this
end Go.V

/- Contracts of package ray: leaves, rays, what lies between two. -/
namespace Go.Proofs.YtegmjmdkhbibjaaGreat
open Go Go.V Go.RowKit
end Go.Proofs.YtegmjmdkhbibjaaGreat

/- Contracts of tide: valid editions, searching flows, what holds. -/
namespace Go.Proofs.YtegmjmdkhbibjaaGreat
open Go Go.V Go.RowKit
def flC (f : FlowS) : List Value := [.int .i64 f.x, .int .i64 f.y, .int .i64 f.s, .int .i64 f.ul, .int .i64 f.uh, .int .i64 f.vl, .int .i64 f.vh, .int .i64 f.hl, .int .i64 f.hh]
def FlowD (_ : Mem) (f : FlowS) (r : List Value) : Prop := r = flC f
def FlsV (M : Mem) (v : Value) (l : List FlowS) : Prop := Arr FlowD M 9 v l
theorem FlsV.le {M M' : Mem} {v : Value} {l : List FlowS} (h : FlsV M v l) (hM : M.le M') : FlsV M' v l := Arr.le (fun _ _ _ _ _ h => h) h hM
theorem FlsV.get {M : Mem} {v : Value} {l : List FlowS} (h : FlsV M v l) : ∃ ad c, v = .slice ad l.length c ∧ l.length ≤ 9223372036854775807 ∧ ∀ M', M.le M' → ∀ i, i < l.length → ∃ ad', ad = some ad' ∧ ∀ j v, (flC (gf l i))[j]? = some v → M'.cell ((ad'.add (i * 9)).add j) = some v := by
  obtain ⟨ad, c, h1, h2, h3⟩ := Arr.get h
  refine ⟨ad, c, h1, h2, fun M' hM i hi => ?_⟩
  obtain ⟨ad', r, h4, _, rfl, h6⟩ := h3 i _ (getD_get zeroF hi)
  exact ⟨ad', h4, fun j y hy => h6 M' hM j y hy⟩
end Go.Proofs.YtegmjmdkhbibjaaGreat

/- Contracts of tide: the search for a flow, what holds in a block and a slot. -/
namespace Go.Proofs.YtegmjmdkhbibjaaGreat
open Go Go.V Go.RowKit
end Go.Proofs.YtegmjmdkhbibjaaGreat

/- Contracts of tide: what holds in a block and a slot; at a place and a time; blocks of a rectangle. -/
namespace Go.Proofs.YtegmjmdkhbibjaaGreat
open Go Go.V Go.RowKit
theorem isCb_bd {n : Int} (h : isCb n = true) : -500000 ≤ n ∧ n ≤ 500000 := by simpa [isCb] using h
end Go.Proofs.YtegmjmdkhbibjaaGreat

/- Contracts of tide: the blocks of a rectangle. -/
namespace Go.Proofs.YtegmjmdkhbibjaaGreat
open Go Go.V Go.RowKit
end Go.Proofs.YtegmjmdkhbibjaaGreat

/- Contracts of span.Join and tide.join. -/
namespace Go.Proofs.YtegmjmdkhbibjaaGreat
open Go Go.V Go.RowKit
end Go.Proofs.YtegmjmdkhbibjaaGreat

/- Contracts of tide: bounds of all that is ranged over. -/
namespace Go.Proofs.YtegmjmdkhbibjaaGreat
open Go Go.V Go.RowKit
end Go.Proofs.YtegmjmdkhbibjaaGreat

/- Contracts of tide: Bound. -/
namespace Go.Proofs.YtegmjmdkhbibjaaGreat
open Go Go.V Go.RowKit
end Go.Proofs.YtegmjmdkhbibjaaGreat

/- Contracts of tide: Bound. -/
namespace Go.Proofs.YtegmjmdkhbibjaaGreat
open Go Go.V Go.RowKit
end Go.Proofs.YtegmjmdkhbibjaaGreat

/- Contracts of the tide's reference: what is usable. -/
namespace Go.Proofs.YtegmjmdkhbibjaaGreat
open Go Go.V Go.RowKit
end Go.Proofs.YtegmjmdkhbibjaaGreat

/- Contracts of the tide's reference: bounds, rectangle, few, valid; what the laws look at. -/
namespace Go.Proofs.YtegmjmdkhbibjaaGreat
open Go Go.V Go.RowKit
end Go.Proofs.YtegmjmdkhbibjaaGreat

/- Contracts of the tide's reference: few, valid, usable. -/
namespace Go.Proofs.YtegmjmdkhbibjaaGreat
open Go Go.V Go.RowKit
end Go.Proofs.YtegmjmdkhbibjaaGreat

/- Contracts of the tide's reference: valid editions. -/
namespace Go.Proofs.YtegmjmdkhbibjaaGreat
open Go Go.V Go.RowKit
end Go.Proofs.YtegmjmdkhbibjaaGreat

/- Contracts of the tide's laws: usable. -/
namespace Go.Proofs.YtegmjmdkhbibjaaGreat
open Go Go.V Go.RowKit
end Go.Proofs.YtegmjmdkhbibjaaGreat

/- Contracts of the tide's laws: a place inside. -/
namespace Go.Proofs.YtegmjmdkhbibjaaGreat
open Go Go.V Go.RowKit
end Go.Proofs.YtegmjmdkhbibjaaGreat

/- Contracts of the tide's reference: down, slots, blocks, joins. -/
namespace Go.Proofs.YtegmjmdkhbibjaaGreat
open Go Go.V Go.RowKit
end Go.Proofs.YtegmjmdkhbibjaaGreat

/- Contracts: quotients rounded up; the places around a ray. -/
namespace Go.Proofs.YtegmjmdkhbibjaaGreat
open Go Go.V Go.RowKit
end Go.Proofs.YtegmjmdkhbibjaaGreat

/- The verification-condition framework, part U: contracts of functions that hand back a growing slice. -/
namespace Go.V
open Go Go.RowKit
variable {P : Program}
/-- A contract: what is handed back is a new slice, the caller's own. -/
def FnRow (P : Program) (f : Nat) (args : List Value) (M : Mem) (E sz : Nat) (R : Nat → List Value → Mem → Prop) : Prop :=
  Enters P f ∧ ∀ W, M.ok W → Calls P f args.toArray W fun e W' => ∃ v n xs M', e = .returned v ∧ W'.ownsRow W.heap.size E sz v n xs ∧ (∀ x ∈ xs, x.oneCell' = true) ∧ (∀ b, ob v = some b → M' b = none) ∧
    Below W.heap.size W W' ∧ M.le M' ∧ M'.ok W' ∧ (∀ b, b < W.heap.size → M' b = M b) ∧ R n xs M'
/-- What a function hands back: a slice of its own. -/
def finRow (C : VX) (fn : Func) (E sz : Nat) (R : Nat → List Value → Mem → Prop) (e : Ex) (st : St) : Prop :=
  match e with
  | .exit _ => VStuck 180
  | _ => match resSV C st fn.results.toList with
    | some [.row id] => match st.own id with
      | some (.row E' sz' n xs) => match Nat.beq E' E && Nat.beq sz' sz with
        | true => st.withM fun M => VFact (R n xs M) True
        | false => VStuck 181
      | _ => VStuck 182
    | _ => VStuck 183
theorem FnRow.of_vc {C : VX} (hC : VXOK P C) {f : Nat} {fn : Func} {c : Code} (hf : P.funcs[f]? = some fn) (hb : fn.body = some c) (hname : (fn.name == "runtime.NumGoroutine") = false)
    {args : List Value} (hnt : Nat.ble args.length fn.ntmps = true) {M : Mem} {E sz : Nat} {R : Nat → List Value → Mem → Prop} (h : vc C P c (st0 args M fn.ntmps none) (finRow C fn E sz R)) : FnRow P f args M E sz R := by
  refine ⟨Go.Proofs.enters_of hf hname hb, fun W hW => ?_⟩
  refine (callsIn_wide (n := 100)).1 (callsIn_of_wp_marks hf hb trivial ?_ rfl)
  have hle := Nat.le_of_ble_eq_true hnt
  have hs0 : Sat W.heap.size W M (fun _ => undef) (st0 args M fn.ntmps none) { tmps := args.toArray ++ Array.replicate (fn.ntmps - args.toArray.size) undef, defers := [] } W := by
    refine ⟨⟨Below.refl _ _, Nat.le_refl _, hW, ?_, ?_, ?_, ?_, fun _ _ => rfl, fun b o hb => by cases hb⟩, by simp [st0]; omega, ?_, trivial⟩
    · intro id e he; simp [St.own, st0, look] at he
    · intro i j ei ej hi; simp [St.own, st0, look] at hi
    · intro i e b hi; simp [St.own, st0, look] at hi
    · intro b o hb; cases hb
    · intro d s hd
      obtain ⟨h1, h2, v, h3, rfl⟩ := argSlots_look args 0 d s hd
      refine ⟨by simp [st0]; omega, trivial, ?_⟩
      simp only [Nat.sub_zero] at h3
      rw [Array.getElem?_append_left (by simp; omega)]
      simp only [SV.den, List.getElem?_toArray]
      exact h3
  have := vc_sound (r := none) (n := 100) hC (κ := fun Y B => Y = none ∧ B = ⟨W.heap.size, W, M⟩) (fun l args rest B M W hκ => by cases hκ.1) (fx := fun _ => False) (tm := #[]) (B := ⟨W.heap.size, W, M⟩) c h (fun l hl => by cases hl) ⟨rfl, rfl⟩ hs0 (wr_false c) (fun d hd => hd.elim)
  refine wpIn_mono this ?_
  rintro e a' W' ⟨⟨ex, he, B, ρ, st, ⟨_, rfl⟩, h1, h2, h3⟩, _⟩
  have main : (e = .normal ∨ e = .ret) → LeavesInM (Fw none) 100 P fn a'.tmps (fun e W'' => ∃ v n xs M', e = .returned v ∧ W''.ownsRow W.heap.size E sz v n xs ∧ (∀ x ∈ xs, x.oneCell' = true) ∧ (∀ b, ob v = some b → M' b = none) ∧
    Below W.heap.size W W'' ∧ M.le M' ∧ M'.ok W'' ∧ (∀ b, b < W.heap.size → M' b = M b) ∧ R n xs M') a'.defers .returning W' := by
    intro hcase
    have h3' : (match resSV C st fn.results.toList with
      | some [.row id] => match st.own id with
        | some (.row E' sz' n xs) => match Nat.beq E' E && Nat.beq sz' sz with
          | true => st.withM fun M => VFact (R n xs M) True
          | false => VStuck 181
        | _ => VStuck 182
      | _ => VStuck 183) := by
      rcases hcase with rfl | rfl <;> cases he <;> exact h3
    split at h3'
    · rename_i id hrs
      split at h3'
      · rename_i E' sz' n xs hid
        split at h3'
        · rename_i hb2
          simp only [Bool.and_eq_true] at hb2
          have e1 := Nat.eq_of_beq_eq_true hb2.1
          have e2 := Nat.eq_of_beq_eq_true hb2.2
          subst e1 e2
          obtain ⟨hR, _⟩ := withM_iff h3'
          have hsl : ∀ d s, look st.sl d = some s → s.sc st.nx ∧ a'.tmps[d]? = some (s.den ρ) := fun d s hd => ⟨(h1.sl d s hd).2.1, (h1.sl d s hd).2.2⟩
          have hres := fun (G : Gh) (W'' : World) (hS : SatH W.heap.size W M ρ { st with G := G } W'') => results_run (tmps := a'.tmps) (st := { st with G := G }) hC hS hsl fn.results.toList (r := [.row id]) (by rw [resSV_G]; exact hrs)
          refine leaves_of a'.defers h1.h h1.h rfl (fun b => by rw [h2.2]; rfl) h1.marks ?_
          intro G W'' s1 s2
          obtain ⟨k1, k2, k3, k4⟩ := s2.own id _ hid
          have hv : slOf (ρ id) = ρ id := ownsRow_isSl k3
          refine ⟨slOf (ρ id), ?_, slOf (ρ id), n, xs, st.M, rfl, by rw [hv]; exact k3, k4, ?_, s2.below, ?_, s2.mem, s2.mlow, hR⟩
          · have hr := (hres G W'' s1).1
            exact results_ret fn a'.tmps P [slOf (ρ id)] W'' hr
          · intro b hb
            rw [hv] at hb
            exact s2.msep id _ b hid hb
          · intro b o hb
            have hlt := (Array.getElem?_eq_some_iff.1 (hW b o hb)).1
            rw [s2.mlow b hlt]; exact hb
        · cases h3'
      · cases h3'
    · cases h3'
  cases e with
  | normal => exact main (.inl rfl)
  | ret => exact main (.inr rfl)
  | exit i => cases he; cases h3
  | goto => cases he
  | panic => cases he
  | outgrown => cases he
/-- More is known of memory, and there is one more entry, in a block that is new. -/
theorem SatH.more {n₀ : Nat} {w : World} {M₀ : Mem} {ρ : Env} {st : St} {W W' : World} (h : SatH n₀ w M₀ ρ st W) {E sz n : Nat} {xs : List Value} {v : Value} {M' : Mem} (hb : Below W.heap.size W W') (hrow : W'.ownsRow W.heap.size E sz v n xs) (h1 : ∀ x ∈ xs, x.oneCell' = true)
    (hnone : ∀ b, ob v = some b → M' b = none) (hM : M'.ok W') (hnew : ∀ b, b < W.heap.size → M' b = st.M b) : SatH n₀ w M₀ (upd ρ st.nx v) { st.add (.row E sz n xs) with M := M' } W' := by
  have hob : ∀ b, ob v = some b → W.heap.size ≤ b := fun b hb' => by
    rcases hrow.2 with ⟨rfl, _⟩ | ⟨g, cap, cur, rfl, hg, _⟩
    · cases hb'
    · simp [ob] at hb'; omega
  have hrow' : W'.ownsRow n₀ E sz v n xs := by
    refine ⟨hrow.1, ?_⟩
    rcases hrow.2 with h2 | ⟨g, cap, cur, h2, hg, r⟩
    · exact .inl h2
    · exact .inr ⟨g, cap, cur, h2, Nat.le_trans h.size hg, r⟩
  have key := h.add (.row E sz n xs) v hb trivial (by exact ⟨by rw [upd_same]; exact hrow', h1⟩) hob
  have old : ∀ i ei b, st.own i = some ei → ob (ρ i) = some b → b < W.heap.size := fun i ei b hi hb' => ((h.own i ei hi).2.2.lt b hb').2.1
  refine ⟨key.below, key.size, hM, key.own, key.sep, ?_, ?_, ?_, key.fpin⟩
  · intro i e b hi hbb
    have hi' : (st.add (.row E sz n xs)).own i = some e := hi
    rw [own_add] at hi'
    by_cases e1 : i = st.nx
    · subst e1
      rw [upd_same] at hbb
      exact hnone b hbb
    · rw [if_neg e1] at hi'
      rw [agree_upd ρ st.nx v i (h.own i e hi').1] at hbb
      show M' b = none
      rw [hnew b (old i e b hi' hbb)]
      exact h.msep i e b hi' hbb
  · intro b o hbo
    obtain ⟨k1, k2, k3⟩ := h.pin b o hbo
    have hlt := (Array.getElem?_eq_some_iff.1 k2).1
    refine ⟨k1, (hb.block b hlt).trans k2, ?_⟩
    show M' b = none
    rw [hnew b hlt]; exact k3
  · intro b hb'
    show M' b = M₀ b
    rw [hnew b (Nat.lt_of_lt_of_le hb' h.size)]
    exact h.mlow b hb'
/-- A call of such a function, its arguments plain. -/
theorem VCall.ofRow {f : Nat} {vs : List Value} {st : St} {K : SV → St → Prop} {E sz : Nat} {R : Nat → List Value → Mem → Prop} (hF : FnRow P f vs st.M E sz R)
    (hK : ∀ n xs M', st.M.le M' → R n xs M' → K (.row st.nx) ⟨st.sl, (st.nx, some (.row E sz n xs)) :: st.ow, st.nx + 1, M', st.nt, st.G⟩) : VCall P f (vs.map .v) st K := by
  refine ⟨hF.1, fun n₀ w M₀ ρ W hS hsa hss => ?_⟩
  have e : (vs.map SV.v).map (SV.den ρ) = vs := by rw [List.map_map]; exact (List.map_congr_left fun _ _ => rfl).trans (List.map_id vs)
  rw [e]
  refine (hF.2 W hS.mem).mono ?_
  rintro e W' ⟨v, n, xs, M', rfl, k1, k2, k3, k4, k5, k6, k7, k8⟩
  refine ⟨.row st.nx, _, upd ρ st.nx v, ?_, Nat.lt_succ_self _, hS.more k4 k1 k2 k3 k6 k7, ?_, rfl, rfl, hK n xs M' k5 k8⟩
  · simp only [SV.den, upd_same]
    rw [ownsRow_isSl k1]
  · intro d s hd
    have hs := hss d s hd
    exact ⟨SV.sc_mono (Nat.le_succ _) hs, s, hd, SV.den_agree (agree_upd ρ st.nx _) hs⟩
/-- The same, the memory named. -/
theorem VCall.ofRowM {f : Nat} {vs : List Value} {st : St} {K : SV → St → Prop} {E sz : Nat} {R : Nat → List Value → Mem → Prop} {M : Mem} (hF : FnRow P f vs M E sz R) (hM : st.M = M)
    (hK : ∀ n xs M', M.le M' → R n xs M' → K (.row st.nx) ⟨st.sl, (st.nx, some (.row E sz n xs)) :: st.ow, st.nx + 1, M', st.nt, st.G⟩) : VCall P f (vs.map .v) st K := by
  subst hM
  exact VCall.ofRow hF hK
/-- An own slice becomes immutable: the heap's part alone. -/
theorem SatH.frzRow {n₀ : Nat} {w : World} {M₀ : Mem} {ρ : Env} {st : St} {W : World} (h : SatH n₀ w M₀ ρ st W) {id E sz n : Nat} {xs : List Value} (hid : st.own id = some (.row E sz n xs)) :
    ∃ M', st.M.le M' ∧ SlAt M' sz (slOf (ρ id)) n xs ∧ SatH n₀ w M₀ ρ { st with ow := (id, none) :: st.ow, M := M' } W := by
  obtain ⟨g1, _, ho, h1⟩ := h.own id _ hid
  rcases ho.2 with ⟨hv, h0⟩ | ⟨g, cap, cur, hg, hge, hh, hnc, hcm, hcs, ht⟩
  · subst h0
    exact ⟨st.M, Mem.le_refl _, ⟨none, 0, by rw [hv]; rfl, Nat.le_refl _, by simp [maxLen], ho.1, h1, fun h => absurd h (Nat.lt_irrefl _)⟩, h.kill id⟩
  · have hob : ob (ρ id) = some g := by simp [hg, ob]
    obtain ⟨f1, f2⟩ := h.freeze hid hob hh
    refine ⟨_, f2, ⟨some ⟨g, 0, none⟩, cap, by rw [hg]; rfl, hnc, hcm, ho.1, h1, fun _ => ⟨_, rfl, fun j v hj => ?_⟩⟩, f1⟩
    rw [Addr.add_none]
    have hb : (st.M.with g (.cells cur E (0, 0))) g = some (.cells cur E (0, 0)) := by simp [Mem.with]
    rw [← ht, List.getElem?_take] at hj
    split at hj
    · simp only [Mem.cell, hb, Option.isSome_none, Bool.false_eq_true, if_false, Nat.zero_add]
      simpa using hj
    · cases hj
end Go.V

/- slices.Grow of nil; contract of slices.Concat. -/
namespace Go.Proofs.YtegmjmdkhbibjaaGreat
open Go Go.V Go.RowKit Go.Shelf
/-! ### slices.Concat -/
end Go.Proofs.YtegmjmdkhbibjaaGreat

/- Contract: cut.around, which calls itself. -/
namespace Go.Proofs.YtegmjmdkhbibjaaGreat
open Go Go.V Go.RowKit
theorem Clone_row (v : Value) (ps : List Pt) (M : Mem) (hv : Pts M v ps) (hn : 1 ≤ ps.length) (hn' : ps.length ≤ 100000) : FnRow Tryz.prog 82 [v] M 46 2 fun n xs _ => n = ps.length ∧ xs = cellsP ps := by
  obtain ⟨ad, c, rfl⟩ := hv.shape
  obtain ⟨_, hm, hrd⟩ := hv.cellsOf
  obtain ⟨ad', rfl, _⟩ := hrd M (Mem.le_refl _) 0 (by omega)
  refine FnRow.of_vc cxIOK Tryz.func82 rfl rfl rfl ?_
  repeat (first | refine VIf.tt ?_ | refine VIf.ff ?_)
  refine VSl.mk ps.length (cellsP ps) hv ?_
  repeat (first | refine VIf.tt ?_ | refine VIf.ff ?_)
  refine VFact.mk (by simp only; omega) ?_
  repeat (first | refine VIf.tt ?_ | refine VIf.ff ?_)
  refine VFact.mk ⟨?_, ?_⟩ trivial
  · exact Nat.zero_add _
  · exact List.nil_append _
end Go.Proofs.YtegmjmdkhbibjaaGreat
