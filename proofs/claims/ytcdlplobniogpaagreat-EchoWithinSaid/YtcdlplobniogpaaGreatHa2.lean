/- The verification-condition framework, part J: append; slices of slices. -/
import Derived.Test.YtcdlplobniogpaaGreatHa1
import Derived.ArgAppend
set_option linter.unusedVariables false
set_option linter.unusedSimpArgs false
namespace Go.V
open Go Go.RowKit
variable {P : Program}
inductive VSl (M : Mem) (sz : Nat) (x : Value) (K : Nat → List Value → Prop) : Prop
 | mk (n : Nat) (xs : List Value) (h : SlAt M sz x n xs) (hk : K n xs)
inductive VBnd (i : Int) (hi : Nat) (K : Nat → Prop) : Prop
 | mk (n : Nat) (h : i = (n : Int)) (hn : n ≤ hi) (hk : K n)
def appSrc (st : St) (sz : Nat) (x : SV) (k : Nat → List Value → Prop) : Prop :=
 match x with
 | .row id => match st.own id with
  | some (.row _ s n xs) => match Nat.beq s sz with | true => k n xs | false => VStuck 80
  | _ => VStuck 81
 | .v x => st.withM fun M => VSl M sz x k
 | _ => VStuck 82
def SrcOK (W : World) (sz : Nat) (v : Value) (m : Nat) (ys : List Value) : Prop :=
 ∃ a c, v = .slice a m c ∧ ys.length = m * sz ∧ (∀ y ∈ ys, y.oneCell' = true) ∧ ((a = none ∧ m = 0) ∨ ∃ ad : Addr, a = some ad ∧ ∀ j u, ys[j]? = some u → W.cell? (ad.add j) = some u)
theorem appSrc_sound {n₀ : Nat} {w : World} {M₀ : Mem} {ρ : Env} {st : St} {W : World} (h : SatH n₀ w M₀ ρ st W) {sz : Nat} {x : SV} {k : Nat → List Value → Prop} (hk : appSrc st sz x k) :
  ∃ m ys, SrcOK W sz (x.den ρ) m ys ∧ k m ys := by
 unfold appSrc at hk
 split at hk
 ·rename_i id
  split at hk
  ·rename_i E s n xs hid
   split at hk
   ·rename_i hs
    have hs := Nat.eq_of_beq_eq_true hs
    subst hs
    obtain ⟨_, _, ho, h1⟩ := h.own id _ hid
    refine ⟨n, xs, ?_, hk⟩
    rcases ho.2 with ⟨hv, h0⟩ | ⟨g, cap, cur, hg, _⟩
    ·exact ⟨none, 0, by simp [SV.den, hv, slOf, h0], ho.1, h1, .inl ⟨rfl, h0⟩⟩
    ·exact ⟨some ⟨g, 0, none⟩, cap, by simp [SV.den, hg, slOf], ho.1, h1, .inr ⟨_, rfl, ho.cells (by simp [hg, Value.ownBlock])⟩⟩
   ·cases hk
  ·cases hk
 ·rename_i x
  replace hk := withM_iff hk
  obtain ⟨n, xs, ⟨a, c, rfl, h2, h3, h4, h5, h6⟩, hk⟩ := hk
  refine ⟨n, xs, ⟨a, c, rfl, h4, h5, ?_⟩, hk⟩
  rcases Nat.eq_zero_or_pos n with h0 | h0
  ·subst h0
   cases a with
   | none => exact .inl ⟨rfl, rfl⟩
   | some ad =>
    refine .inr ⟨ad, rfl, fun j u hj => ?_⟩
    have : xs = [] := List.eq_nil_of_length_eq_zero (by simpa using h4)
    subst this
    simp at hj
  ·obtain ⟨ad, h7, h8⟩ := h6 h0
   exact .inr ⟨ad, h7, fun j u hj => Mem.cell_ok h.mem (h8 j u hj)⟩
 ·cases hk
theorem run_append_none_src (t ty e : TypeId) (i : TypeInfo) (ht : P.underlying t = some (.slice e)) (hi : P.info? e = some i) (W : World) (s : Option Addr) (n cap c : Nat) (hn : n ≤ cap) :
  (Builtin.append_ #[t, t] ty #[.slice s n cap, .slice none 0 c]).run P W = .ok (.slice s n cap) W := by
 cases s with
 | none => simp [Builtin.append_, run_underlying ht, sizeOf, typeInfo, hi, Builtin.lenOf, Builtin.firstCells, hn]
 | some a => simp [Builtin.append_, run_underlying ht, sizeOf, typeInfo, hi, Builtin.lenOf, Builtin.firstCells, hn, storeCells]
theorem run_append_empty_src (t ty e : TypeId) (i : TypeInfo) (ht : P.underlying t = some (.slice e)) (hi : P.info? e = some i) (W : World) (s : Option Addr) (n cap c : Nat) (hn : n ≤ cap) (a : Addr) :
  (Builtin.append_ #[t, t] ty #[.slice s n cap, .slice (some a) 0 c]).run P W = .ok (.slice s n cap) W := by
 cases s with
 | none => simp [Builtin.append_, run_underlying ht, sizeOf, typeInfo, hi, Builtin.lenOf, Builtin.firstCells, hn, loadCells, loadCellsFrom]
 | some b => simp [Builtin.append_, run_underlying ht, sizeOf, typeInfo, hi, Builtin.lenOf, Builtin.firstCells, hn, storeCells, loadCells, loadCellsFrom]
def St.more (st : St) (id : Nat) (e : OE) : St := { ow := (st.nx, some e) :: (id, none) :: st.ow, sl := st.sl, nx := st.nx + 1, M := st.M, nt := st.nt, G := st.G }
def St.moreK (st : St) (id : Nat) (e : OE) (k : St → Nat → Prop) : Prop :=
 match st with
 | ⟨sl, ow, nx, M, nt, G⟩ => k ⟨sl, (nx, some e) :: (id, none) :: ow, nx + 1, M, nt, G⟩ nx
theorem moreK_iff {st : St} {id : Nat} {e : OE} {k : St → Nat → Prop} (h : st.moreK id e k) : k (st.more id e) st.nx := by cases st; exact h
def app (C : VX) (st : St) (t : TypeId) (s x : SV) (k : St → SV → Prop) : Prop :=
 match look C.te t with
 | some ⟨.sl e, _, _⟩ => match look C.te e with
  | some ei => match Nat.blt 0 ei.zero.length && Nat.blt 0 ei.bytes with
   | true => match s with
    | .row id => match st.own id with
     | some (.row E sz n xs) => match Nat.beq E e && Nat.beq sz ei.zero.length && (match x with | .row j => !(Nat.beq j id) | _ => true) with
      | true => appSrc st ei.zero.length x fun m ys => VFact ((n + m) * ei.bytes ≤ 140737488355328)
        (st.moreK id (.row e ei.zero.length (n + m) (xs ++ ys)) fun st' i => k st' (.row i))
      | false => VStuck 83
     | _ => VStuck 84
    | .v (.slice none 0 0) => appSrc st ei.zero.length x fun m ys => VFact (m * ei.bytes ≤ 140737488355328) (st.addK (.row e ei.zero.length m ys) fun st' i => k st' (.row i))
    | .v (.slice a n c) => st.withM fun M => VSl M ei.zero.length (.slice a n c) fun _ xs => VFact (n = c) (appSrc st ei.zero.length x fun m ys => VFact ((n + m) * ei.bytes ≤ 140737488355328)
      (VFact (m = 0 → k st (.v (.slice a n c))) (0 < m → st.addK (.row e ei.zero.length (n + m) (xs ++ ys)) fun st' i => k st' (.row i))))
    | _ => VStuck 85
   | false => VStuck 86
  | none => VStuck 87
 | _ => VStuck 88
theorem VFact.both {A B : Prop} (h : VFact A B) : A ∧ B := by cases h; exact ⟨‹_›, ‹_›⟩
theorem SatH.add2 {n₀ : Nat} {w : World} {M₀ : Mem} {ρ : Env} {st : St} {W W' : World} (h : SatH n₀ w M₀ ρ st W) {id : Nat} {e0 : OE} (hid : st.own id = some e0) (e : OE) (v : Value) (hb : W.grownBy W' (ob (ρ id))) (hsc : e.sc st.nx)
  (hown : OwnOK n₀ (upd ρ st.nx v) W' st.nx e) (hob : ∀ b, ob v = some b → ob (ρ id) = some b ∨ W.heap.size ≤ b) :
  SatH n₀ w M₀ (upd ρ st.nx v) { ow := (st.nx, some e) :: (id, none) :: st.ow, sl := st.sl, nx := st.nx + 1, M := st.M, nt := st.nt, G := st.G } W' := by
 have hid1 := (h.own id e0 hid).1
 have hne : id ≠ st.nx := by omega
 have hown' : ∀ j, (St.own { ow := (st.nx, some e) :: (id, none) :: st.ow, sl := st.sl, nx := st.nx + 1, M := st.M, nt := st.nt, G := st.G } j) = if j = st.nx then some e else if j = id then none else st.own j := by
  intro j
  unfold St.own
  simp only [look_cons]
  by_cases h1 : j = st.nx
  ·simp [h1]
  ·by_cases h2 : j = id
   ·subst h2; simp [hne]
   ·simp [h1, h2]
 have lt : ∀ k ek, st.own k = some ek → ∀ b, ob (upd ρ st.nx v k) = some b → ob (ρ k) = some b ∧ b < W.heap.size := fun k ek hk b hb' => by
  obtain ⟨h1, _, h3⟩ := h.own k ek hk
  rw [agree_upd ρ st.nx v k h1] at hb'
  exact ⟨hb', (h3.lt b hb').2.1⟩
 -- an old entry (not id) is apart from the new value
 have apart : ∀ k ek, st.own k = some ek → k ≠ id → ∀ b, ob (upd ρ st.nx v k) = some b → ob v ≠ some b := fun k ek hk hkid b hb' hv => by
  obtain ⟨l1, l2⟩ := lt k ek hk b hb'
  rcases hob b hv with h1 | h1
  ·exact h.sep k id ek e0 hk hid hkid b l1 h1
  ·omega
 refine ⟨h.below.grown hb h.size (fun k hk => ((h.own id e0 hid).2.2.lt k hk).1), Nat.le_trans h.size hb.size, ?_, ?_, ?_, ?_, ?_, h.mlow, ?_⟩
 ·intro b o hm
  have hm' := h.mem b o hm
  rw [hb.block b (Array.getElem?_eq_some_iff.1 hm').1 ?_]; exact hm'
  intro hc
  have := h.msep id e0 b hid hc.symm
  rw [this] at hm; cases hm
 ·intro i ei hi
  rw [hown'] at hi
  split at hi
  ·rename_i h1
   cases hi
   subst h1
   exact ⟨Nat.lt_succ_self _, e.sc_mono (Nat.le_succ _) hsc, hown⟩
  ·split at hi
   ·cases hi
   ·rename_i h1 h2
    obtain ⟨g1, g2, g3⟩ := h.own i ei hi
    refine ⟨Nat.lt_succ_of_lt g1, ei.sc_mono (Nat.le_succ _) g2, g3.keep (agree_upd ρ st.nx v) g1 g2 fun b hbb => hb.block b (g3.lt b hbb).2.1 ?_⟩
    intro hc
    exact h.sep i id ei e0 hi hid h2 b hbb hc.symm
 ·intro i j ei ej hi hj hij b hbi hbj
  rw [hown'] at hi hj
  split at hi
  ·rename_i h1
   split at hj
   ·rename_i h2; omega
   ·split at hj
    ·cases hj
    ·rename_i h2 h3
     subst h1
     rw [upd_same] at hbi
     exact apart j ej hj h3 b hbj hbi
  ·split at hi
   ·cases hi
   ·rename_i h1 h1'
    split at hj
    ·rename_i h2
     subst h2
     rw [upd_same] at hbj
     exact apart i ei hi h1' b hbi hbj
    ·split at hj
     ·cases hj
     ·exact h.sep i j ei ej hi hj hij b (lt i ei hi b hbi).1 (lt j ej hj b hbj).1
 ·intro i ei b hi hbb
  rw [hown'] at hi
  split at hi
  ·rename_i h1
   subst h1
   rw [upd_same] at hbb
   rcases hob b hbb with h2 | h2
   ·exact h.msep id e0 b hid h2
   ·show st.M b = none
    cases hm : st.M b with
    | none => rfl
    | some o =>
     have := (Array.getElem?_eq_some_iff.1 (h.mem b o hm)).1
     omega
  ·split at hi
   ·cases hi
   ·exact h.msep i ei b hi (lt i ei hi b hbb).1
 ·intro b o hbo
  obtain ⟨h1, h2, h3⟩ := h.pin b o hbo
  refine ⟨h1, (hb.block b (Array.getElem?_eq_some_iff.1 h2).1 (fun hc => ?_)).trans h2, h3⟩
  obtain ⟨_, _, o', hh, ho⟩ := (h.own id e0 hid).2.2.lt b hc.symm
  rw [hh] at h2; cases h2; rw [ho] at h1; cases h1
 ·intro b o hbo
  obtain ⟨h2, h3⟩ := h.fpin b o hbo
  have hlt := (Array.getElem?_eq_some_iff.1 h2).1
  refine ⟨(hb.block b hlt (fun hc => h3 id e0 hid hc.symm)).trans h2, fun i ei hi hbb => ?_⟩
  rw [hown'] at hi
  split at hi
  ·rename_i h1
   subst h1
   rw [upd_same] at hbb
   rcases hob b hbb with h4 | h4
   ·exact h3 id e0 hid h4
   ·omega
  ·split at hi
   ·cases hi
   ·exact h3 i ei hi (lt i ei hi b hbb).1
theorem grownBy_none_below {W W' : World} (h : W.grownBy W' none) : Below W.heap.size W W' :=
 ⟨h.os, h.tape, h.output, h.size, fun k hk => h.block k hk (by simp)⟩
theorem ownsRow_mono {W : World} {b b' : Nat} {e : TypeId} {sz : Nat} {v : Value} {n : Nat} {xs : List Value} (h : W.ownsRow b e sz v n xs) (hb : b' ≤ b) : W.ownsRow b' e sz v n xs := by
 refine ⟨h.1, ?_⟩
 rcases h.2 with h2 | ⟨g, cap, cur, h1, h2, r⟩
 ·exact .inl h2
 ·exact .inr ⟨g, cap, cur, h1, Nat.le_trans hb h2, r⟩
theorem ownsRow_isSl {W : World} {b : Nat} {e : TypeId} {sz : Nat} {v : Value} {n : Nat} {xs : List Value} (h : W.ownsRow b e sz v n xs) : slOf v = v := by
 rcases h.2 with ⟨rfl, _⟩ | ⟨g, cap, cur, rfl, _⟩ <;> rfl
theorem ob_ownBlock {W : World} {b : Nat} {e : TypeId} {sz : Nat} {v : Value} {n : Nat} {xs : List Value} (h : W.ownsRow b e sz v n xs) : ob v = v.ownBlock := by
 rcases h.2 with ⟨rfl, _⟩ | ⟨g, cap, cur, rfl, _⟩ <;> rfl
theorem Sat.newRow {n₀ : Nat} {w : World} {M₀ : Mem} {ρ : Env} {st : St} {a : Act} {W W' : World} (h : Sat n₀ w M₀ ρ st a W) {e sz n : Nat} {xs : List Value} {v : Value} (ho : W'.ownsRow W.heap.size e sz v n xs) (hg : W.grownBy W' none) (h1 : ∀ x ∈ xs, x.oneCell' = true) :
  Sat n₀ w M₀ (upd ρ st.nx v) (st.add (.row e sz n xs)) a W' := by
 have hb := grownBy_none_below hg
 refine h.env (h.h.add (.row e sz n xs) v hb trivial ?_ ?_) (agree_upd _ _ _) (by simp [St.add]) rfl rfl rfl
 ·refine ⟨?_, h1⟩
  rw [upd_same]
  exact ownsRow_mono ho h.h.size
 ·intro b hbb
  rw [ob_ownBlock ho] at hbb
  exact (ho.lt b hbb).1
theorem app_sound {C : VX} (hC : VXOK P C) {n₀ : Nat} {w : World} {M₀ : Mem} {ρ : Env} {st : St} {a : Act} {W : World} (h : Sat n₀ w M₀ ρ st a W) {t ty : TypeId} {s x : SV} {k : St → SV → Prop} (hs : s.sc st.nx) (hk : app C st t s x k) :
  ∃ v W' ρ' st' s', (Builtin.append_ #[t, t] ty #[s.den ρ, x.den ρ]).run P W = .ok v W' ∧ v = s'.den ρ' ∧ s'.sc st'.nx ∧ Sat n₀ w M₀ ρ' st' a W' ∧ st'.G = st.G ∧ k st' s' := by
 unfold app at hk
 split at hk
 ·rename_i e z b hl
  obtain ⟨d, hd, hf⟩ := (hC.te _ _ hl).und
  simp only [TK.fits] at hf
  subst hf
  split at hk
  ·rename_i ei hei
   obtain ⟨inf, zv, hi1, hi2, hi3, hi4, hi5⟩ := (hC.te _ _ hei).inf
   have hzs : zv.cells.size = ei.zero.length := by rw [hi4]; simp
   split at hk
   ·rename_i hpos
    simp only [Bool.and_eq_true] at hpos
    have p1 : 0 < ei.zero.length := Nat.le_of_ble_eq_true hpos.1
    have p2 : 0 < ei.bytes := Nat.le_of_ble_eq_true hpos.2
    have small : ∀ q : Nat, q * ei.bytes ≤ 140737488355328 → q ≤ maxLen := fun q hq => by
     have : q ≤ q * ei.bytes := Nat.le_mul_of_pos_right _ p2
     unfold maxLen; omega
    split at hk
    ·
     rename_i id
     split at hk
     ·rename_i E sz n xs hid
      split at hk
      ·rename_i hc
       simp only [Bool.and_eq_true] at hc
       have c1 := Nat.eq_of_beq_eq_true hc.1.1
       have c2 := Nat.eq_of_beq_eq_true hc.1.2
       subst c1; subst c2
       obtain ⟨m, ys, ⟨xa, xc, hx, hy1, hy2, hy3⟩, hk⟩ := appSrc_sound h.h hk
       obtain ⟨hbd, hk⟩ := hk
       replace hk := moreK_iff hk
       obtain ⟨_, _, ho, h1⟩ := h.h.own id _ hid
       have hv : (SV.row id).den ρ = ρ id := ownsRow_isSl ho
       have hcells : ∀ q ∈ xs ++ ys, q.oneCell' = true := fun q hq => (List.mem_append.1 hq).elim (h1 q) (hy2 q)
       rcases hy3 with ⟨rfl, rfl⟩ | ⟨ad, rfl, hy3⟩
       ·
        have hys : ys = [] := List.eq_nil_of_length_eq_zero (by simpa using hy1)
        subst hys
        obtain ⟨sa, scap, hsl, hsn⟩ : ∃ sa scap, ρ id = .slice sa n scap ∧ n ≤ scap := by
         rcases ho.2 with ⟨hv, h0⟩ | ⟨g, cap, cur, hg, _, _, hnc, _⟩
         ·exact ⟨none, 0, by rw [hv, h0], by omega⟩
         ·exact ⟨_, cap, hg, hnc⟩
        have hr := run_append_none_src (P := P) t ty E inf hd hi1 W sa n scap xc hsn
        refine ⟨ρ id, W, upd ρ st.nx (ρ id), st.more id (.row E ei.zero.length (n + 0) (xs ++ [])), .row st.nx, by rw [hv, hx, hsl]; exact hr, ?_, Nat.lt_succ_self _, ?_, rfl, hk⟩
        ·simp only [SV.den, upd_same]; exact (ownsRow_isSl ho).symm
        ·refine h.env (h.h.add2 hid (.row E ei.zero.length (n + 0) (xs ++ [])) (ρ id) ⟨rfl, rfl, rfl, Nat.le_refl _, fun _ _ _ => rfl⟩ trivial ?_ (fun b hb => .inl hb)) (agree_upd _ _ _) (Nat.le_succ _) rfl rfl rfl
         refine ⟨?_, by simpa using h1⟩
         rw [upd_same]
         simpa using ho
       ·obtain ⟨v', W', hr, r1, r2, _, r3⟩ := run_append_own_at (P := P) W n₀ t ty E inf zv ei.zero.length ei.bytes hd hi1 hi3 hi2 hi5 hzs p1 (ρ id) n xs ho ad m xc ys hy1 hy3 hy2 (small _ hbd) hbd h.h.size
        have hobid : ob (ρ id) = (ρ id).ownBlock := ob_ownBlock ho
        refine ⟨v', W', upd ρ st.nx v', st.more id (.row E ei.zero.length (n + m) (xs ++ ys)), .row st.nx, by rw [hv, hx]; exact hr, ?_, Nat.lt_succ_self _, ?_, rfl, hk⟩
        ·simp only [SV.den, upd_same]; exact (ownsRow_isSl r1).symm
        ·refine h.env (h.h.add2 hid (.row E ei.zero.length (n + m) (xs ++ ys)) v' (by rw [hobid]; exact r2) trivial ?_ ?_) (agree_upd _ _ _) (Nat.le_succ _) rfl rfl rfl
         ·refine ⟨?_, hcells⟩
          rw [upd_same]; exact r1
         ·intro b hb
          rw [ob_ownBlock r1] at hb
          rcases r3 with r3 | r3
          ·left; rw [hobid, ← r3]; exact hb
          ·right; rw [r3] at hb; cases hb; exact Nat.le_refl _
      ·cases hk
     ·cases hk
    ·
     obtain ⟨m, ys, ⟨xa, xc, hx, hy1, hy2, hy3⟩, hk⟩ := appSrc_sound h.h hk
     obtain ⟨hbd, hk⟩ := hk
     replace hk := addK_iff hk
     have ho := World.ownsRow_nil W W.heap.size e ei.zero.length
     rcases hy3 with ⟨rfl, rfl⟩ | ⟨ad, rfl, hy3⟩
     ·have hys : ys = [] := List.eq_nil_of_length_eq_zero (by simpa using hy1)
      subst hys
      have hr := run_append_none_src (P := P) t ty e inf hd hi1 W none 0 0 xc (Nat.le_refl _)
      refine ⟨.slice none 0 0, W, upd ρ st.nx (.slice none 0 0), st.add (.row e ei.zero.length 0 []), .row st.nx, by rw [hx]; exact hr, by simp [SV.den, upd_same, slOf], Nat.lt_succ_self _, ?_, rfl, hk⟩
      exact h.newRow ho ⟨rfl, rfl, rfl, Nat.le_refl _, fun _ _ _ => rfl⟩ (by simp)
     ·obtain ⟨v', W', hr, r1, r2, _⟩ := run_append_own (P := P) W W.heap.size t ty e inf zv ei.zero.length ei.bytes hd hi1 hi3 hi2 hi5 hzs p1 (.slice none 0 0) 0 [] ho ad m xc ys hy1 hy3 hy2 (by simpa using small _ hbd) (by simpa using hbd) (Nat.le_refl _)
      simp only [Nat.zero_add, List.nil_append] at r1
      refine ⟨v', W', upd ρ st.nx v', st.add (.row e ei.zero.length m ys), .row st.nx, by rw [hx]; exact hr, ?_, Nat.lt_succ_self _, ?_, rfl, hk⟩
      ·simp only [SV.den, upd_same]; exact (ownsRow_isSl r1).symm
      ·exact h.newRow r1 r2 hy2
    ·
     rename_i sa sn sc _
     replace hk := withM_iff hk
     obtain ⟨n', xs, ⟨a0, c0, hsl, q2, q3, q4, q4', q5⟩, hk⟩ := hk
     obtain ⟨hcap, hk⟩ := hk
     simp only [Value.slice.injEq] at hsl
     obtain ⟨rfl, rfl, rfl⟩ := hsl
     subst hcap
     obtain ⟨m, ys, ⟨xa, xc, hx, hy1, hy2, hy3⟩, hk⟩ := appSrc_sound h.h hk
     obtain ⟨hbd, hk⟩ := hk
     obtain ⟨hk0, hk1⟩ := hk.both
     replace hk1 := fun h => addK_iff (hk1 h)
     rcases Nat.eq_zero_or_pos m with h0 | h0
     ·subst h0
      refine ⟨.slice sa sn sn, W, ρ, st, .v (.slice sa sn sn), ?_, rfl, trivial, h, rfl, hk0 rfl⟩
      rw [hx]
      rcases hy3 with ⟨rfl, _⟩ | ⟨ad, rfl, _⟩
      ·exact run_append_none_src (P := P) t ty e inf hd hi1 W sa sn sn xc (Nat.le_refl _)
      ·exact run_append_empty_src (P := P) t ty e inf hd hi1 W sa sn sn xc (Nat.le_refl _) ad
     ·rcases hy3 with ⟨_, h00⟩ | ⟨ad, rfl, hy3⟩
      ·omega
      ·have hcells : ∀ q ∈ xs ++ ys, q.oneCell' = true := fun q hq => (List.mem_append.1 hq).elim (q4' q) (hy2 q)
       cases sa with
       | none =>
        have hn0 : sn = 0 := by
         rcases Nat.eq_zero_or_pos sn with h2 | h2
         ·exact h2
         ·obtain ⟨ad', h3, _⟩ := q5 h2; cases h3
        subst hn0
        have hxs : xs = [] := List.eq_nil_of_length_eq_zero (by simpa using q4)
        subst hxs
        have ho := World.ownsRow_nil W W.heap.size e ei.zero.length
        obtain ⟨v', W', hr, r1, r2, _⟩ := run_append_own (P := P) W W.heap.size t ty e inf zv ei.zero.length ei.bytes hd hi1 hi3 hi2 hi5 hzs p1 (.slice none 0 0) 0 [] ho ad m xc ys hy1 hy3 hy2 (small _ hbd) hbd (Nat.le_refl _)
        refine ⟨v', W', upd ρ st.nx v', st.add (.row e ei.zero.length (0 + m) ([] ++ ys)), .row st.nx, by rw [hx]; exact hr, ?_, Nat.lt_succ_self _, ?_, rfl, hk1 h0⟩
        ·simp only [SV.den, upd_same]; exact (ownsRow_isSl r1).symm
        ·exact h.newRow r1 r2 hcells
       | some sb =>
        have hold : ∀ j u, xs[j]? = some u → W.cell? (sb.add j) = some u := fun j u hj => by
         rcases Nat.eq_zero_or_pos sn with h2 | h2
         ·subst h2
          have hxs : xs = [] := List.eq_nil_of_length_eq_zero (by simpa using q4)
          subst hxs; simp at hj
         ·obtain ⟨ad', h3, h4⟩ := q5 h2
          cases h3
          exact Mem.cell_ok h.h.mem (h4 j u hj)
        obtain ⟨v', W', hr, r1, r2⟩ := run_append_arg_grows (P := P) W t ty e inf zv ei.zero.length ei.bytes hd hi1 hi3 hi2 hi5 hzs p1 sb sn sn xs q4 hold ad m xc ys hy1 hy3 (by omega) (small _ hbd) hbd
        refine ⟨v', W', upd ρ st.nx v', st.add (.row e ei.zero.length (sn + m) (xs ++ ys)), .row st.nx, by rw [hx]; exact hr, ?_, Nat.lt_succ_self _, ?_, rfl, hk1 h0⟩
        ·simp only [SV.den, upd_same]; exact (ownsRow_isSl r1).symm
        ·exact h.newRow r1 r2 hcells
    ·cases hk
   ·cases hk
  ·cases hk
 ·cases hk
end Go.V
namespace Go.V
open Go Go.RowKit
variable {P : Program}
theorem MapSays.nil : MapSays (.map []) [] := ⟨Maps.isMap_empty, fun x => ⟨by simp [DataW.atKey], rfl⟩⟩
theorem MapSays.put {D : DataW Unit} {ks : List Int} (h : MapSays D ks) (x : Int) : MapSays (D.put (.int .i64 x) (.lit (.bool true))) (x :: ks) := by
 refine ⟨h.1.put _ _, fun y => ?_⟩
 by_cases hy : y = x
 ·subst hy
  rw [Maps.atKey_put_same h.1 (show WideAt.IsKeyLit (.int .i64 y) from trivial), Maps.has_put_same h.1 (show WideAt.IsKeyLit (.int .i64 y) from trivial), decide_eq_true (List.mem_cons_self)]
  exact ⟨rfl, rfl⟩
 ·have hne : (Lit.int .i64 y) ≠ .int .i64 x := fun e => hy (by cases e; rfl)
  obtain ⟨h1, h2⟩ := h.2 y
  rw [Maps.atKey_put_other hne, Maps.has_put_other hne, h1, h2]
  have : decide (y ∈ x :: ks) = decide (y ∈ ks) := by simp [hy]
  rw [this]
  exact ⟨rfl, rfl⟩
theorem lit_i64 {x : Int} (h : -9223372036854775808 ≤ x ∧ x ≤ 9223372036854775807) : (Lit.int .i64 x).wf = true := by
 simp [Lit.wf, IntKind.min, IntKind.max, IntKind.signed, IntKind.bits]
 omega
theorem key_i64 {k : TypeId} (hk : P.underlying k = some (.int .i64)) {x : Int} (h : -9223372036854775808 ≤ x ∧ x ≤ 9223372036854775807) : keyOf P k (.int .i64 x) = some (.int .i64 x) := by
 simp [keyOf, hk, mapKey, lit_i64 h]
theorem plainElem_bool_inv {e : TypeId} (he : P.underlying e = some .bool) {v : Value} {b : Bool} {ps : List MemPlace} (h : plainElem (H := Unit) P e v = some (.lit (.bool b), ps)) : v = .bool b := by
 unfold plainElem at h
 rw [he] at h
 cases v <;> simp at h
 exact congrArg _ h.1
theorem zero_bool {e : TypeId} (he : (P.info? e).bind (·.zero) = some (.bool false)) (W : World) : (zeroValue e).run P W = .ok (.bool false) W := by
 cases hi : P.info? e with
 | none => rw [hi] at he; cases he
 | some i =>
  rw [hi] at he
  simp only [Option.bind_some] at he
  simp [zeroValue, typeInfo, hi, he]
theorem MapOK.look {W : World} {t k e B : Nat} {ks : List Int} (h : MapOK W P t k e B ks) {x : Int} (hx : -9223372036854775808 ≤ x ∧ x ≤ 9223372036854775807) :
  (Instr.lookup t (.map (some B)) (.int .i64 x) false).run P W = .ok (.bool (decide (x ∈ ks))) W := by
 obtain ⟨⟨h1, h2, h3, h4⟩, D, hD, hS⟩ := h
 obtain ⟨v, ps, hrun, hv⟩ := hD.lookup (Maps.int_keyed h2) h1 (zero_bool h4 W) (plainElem_bool h3 false) (key_i64 h2 hx)
 rw [(hS.2 x).1] at hv
 rw [hrun, plainElem_bool_inv h3 hv]
theorem MapOK.set {W : World} {t k e B : Nat} {ks : List Int} (h : MapOK W P t k e B ks) {x : Int} (hx : -9223372036854775808 ≤ x ∧ x ≤ 9223372036854775807) (hn : ks.length < maxLen) :
  ∃ W', (Instr.mapUpdate t (.map (some B)) (.int .i64 x) (.bool true)).run P W = .ok () W' ∧ MapOK W' P t k e B (x :: ks) ∧ W.grownBy W' (some B) := by
 obtain ⟨⟨h1, h2, h3, h4⟩, D, hD, hS⟩ := h
 obtain ⟨W', g1, g2, g3⟩ := hD.update (Maps.int_keyed h2) h1 hn (key_i64 h2 hx) (plainElem_bool h3 true)
 exact ⟨W', g1, ⟨⟨h1, h2, h3, h4⟩, _, g2, hS.put x⟩, g3⟩
theorem MapOK.made (W : World) {t k e : Nat} (h : P.underlying t = some (.map k e) ∧ P.underlying k = some (.int .i64) ∧ P.underlying e = some .bool ∧ (P.info? e).bind (·.zero) = some (.bool false)) : MapOK (W.alloc (.map #[] 0)) P t k e W.heap.size [] :=
 ⟨h, _, World.ownsMap_made W P k _, MapSays.nil⟩
inductive VMapMk (P : Program) (t : TypeId) (K : TypeId → TypeId → Nat → Prop) : Prop
 | mk (k e : TypeId) (h1 : P.underlying t = some (.map k e)) (h2 : P.underlying k = some (.int .i64)) (h3 : P.underlying e = some .bool) (h4 : (P.info? e).bind (·.zero) = some (.bool false)) (hk : ∀ B, K k e B)
def findMp : List (Nat × Option OE) → Option Nat
 | [] => none
 | (i, some (.mp ..)) :: _ => some i
 | _ :: r => findMp r
def mapMk (P : Program) (st : St) (t : TypeId) (kk : St → SV → Prop) : Prop :=
 VMapMk P t fun k e B => st.addK (.mp P t k e B []) fun st' _ => kk st' (.v (.map (some B)))
def mapLook (P : Program) (st : St) (t : TypeId) (m x : SV) (kk : SV → Prop) : Prop :=
 match m, x with
 | .v (.map (some B)), .v (.int .i64 x) => match findMp st.ow with
  | some id => match st.own id with
   | some (.mp P' t' _ _ B' ks) => VFact ((P' = P ∧ t' = t ∧ B' = B) ∧ -9223372036854775808 ≤ x ∧ x ≤ 9223372036854775807) (kk (.v (.bool (decide (x ∈ ks)))))
   | _ => VStuck 241
  | none => VStuck 242
 | _, _ => VStuck 243
def mapSet (P : Program) (st : St) (t : TypeId) (m x v : SV) (kk : St → Prop) : Prop :=
 match m, x, v with
 | .v (.map (some B)), .v (.int .i64 x), .v (.bool true) => match findMp st.ow with
  | some id => match st.own id with
   | some (.mp P' t' k e B' ks) => VFact ((P' = P ∧ t' = t ∧ B' = B) ∧ (-9223372036854775808 ≤ x ∧ x ≤ 9223372036854775807) ∧ ks.length < maxLen)
     (match st with | ⟨sl, ow, nx, M, nt, G⟩ => kk ⟨sl, (id, some (.mp P' t' k e B' (x :: ks))) :: ow, nx, M, nt, G⟩)
   | _ => VStuck 244
  | none => VStuck 245
 | _, _, _ => VStuck 246
theorem mapMk_sound {n₀ : Nat} {w : World} {M₀ : Mem} {ρ : Env} {st : St} {a : Act} {W : World} {t : TypeId} {kk : St → SV → Prop} (h : Sat n₀ w M₀ ρ st a W) (hk : mapMk P st t kk) :
  ∃ v ρ' st' s, (Instr.makeMap t none).run P W = .ok v (W.alloc (.map #[] 0)) ∧ v = s.den ρ' ∧ s.sc st'.nx ∧ Sat n₀ w M₀ ρ' st' a (W.alloc (.map #[] 0)) ∧ st'.G = st.G ∧ kk st' s := by
 obtain ⟨k, e, h1, h2, h3, h4, hk⟩ := hk
 have hk := addK_iff (hk W.heap.size)
 have hb : Below W.heap.size W (W.alloc (.map #[] 0)) := (Below.refl _ W).alloc (Nat.le_refl _) _
 refine ⟨_, upd ρ st.nx (.map (some W.heap.size)), st.add (.mp P t k e W.heap.size []), .v (.map (some W.heap.size)), RowKit.run_makeMap t W, rfl, trivial, ?_, rfl, hk⟩
 refine h.env (h.h.add (.mp P t k e W.heap.size []) _ hb trivial ?_ ?_) (agree_upd _ _ _) (by simp [St.add]) rfl rfl rfl
 ·exact ⟨upd_same _ _ _, h.h.size, MapOK.made W ⟨h1, h2, h3, h4⟩⟩
 ·intro b hbb
  simp [ob] at hbb
  omega
theorem mapLook_sound {n₀ : Nat} {w : World} {M₀ : Mem} {ρ : Env} {st : St} {t : TypeId} {m x : SV} {kk : SV → Prop} (hk : mapLook P st t m x kk) :
  ∃ s, s.sc st.nx ∧ (∀ W, SatH n₀ w M₀ ρ st W → (Instr.lookup t (m.den ρ) (x.den ρ) false).run P W = .ok (s.den ρ) W) ∧ kk s := by
 unfold mapLook at hk
 split at hk
 ·rename_i B x
  cases hf : findMp st.ow with
  | none => simp only [hf] at hk; cases hk
  | some id =>
   simp only [hf] at hk
   split at hk
   ·rename_i P' t' k e B' ks ho
    obtain ⟨⟨⟨rfl, rfl, rfl⟩, hx⟩, hk⟩ := hk
    refine ⟨.v (.bool (decide (x ∈ ks))), trivial, fun W hW => ?_, hk⟩
    exact (hW.own id _ ho).2.2.2.2.look hx
   ·cases hk
 ·cases hk
theorem mapSet_sound {n₀ : Nat} {w : World} {M₀ : Mem} {ρ : Env} {st : St} {a : Act} {W : World} {t : TypeId} {m x v : SV} {kk : St → Prop} (h : Sat n₀ w M₀ ρ st a W) (hk : mapSet P st t m x v kk) :
  ∃ W' st', (Instr.mapUpdate t (m.den ρ) (x.den ρ) (v.den ρ)).run P W = .ok () W' ∧ Sat n₀ w M₀ ρ st' a W' ∧ st'.G = st.G ∧ kk st' := by
 unfold mapSet at hk
 split at hk
 ·rename_i B x
  cases hf : findMp st.ow with
  | none => simp only [hf] at hk; cases hk
  | some id =>
   simp only [hf] at hk
   split at hk
   ·rename_i P' t' k e B' ks ho
    obtain ⟨⟨⟨rfl, rfl, rfl⟩, hx, hn⟩, hk⟩ := hk
    obtain ⟨_, _, o1, o2, o3⟩ := h.h.own id _ ho
    obtain ⟨W', g1, g2, g3⟩ := o3.set hx hn
    refine ⟨W', { st with ow := (id, some (.mp P' t' k e B' (x :: ks))) :: st.ow }, g1, ?_, rfl, hk⟩
    exact h.env (h.h.set (e' := .mp P' t' k e B' (x :: ks)) ho (by rw [o1]; exact g3) trivial ⟨o1, o2, g2⟩) (Agree.refl _ _) (Nat.le_refl _) rfl rfl rfl
   ·cases hk
 ·cases hk
end Go.V
namespace Go.V
open Go Go.RowKit
variable {P : Program}
structure VCall (P : Program) (f : Nat) (args : List SV) (st : St) (K : SV → St → Prop) : Prop where
 ent : Enters P f
 run : ∀ n₀ w M₀ ρ W, SatH n₀ w M₀ ρ st W → (∀ s ∈ args, s.sc st.nx) → (∀ d s, look st.sl d = some s → s.sc st.nx) → Calls P f (args.map (SV.den ρ)).toArray W fun e W' => ∃ s st' ρ', e = .returned (s.den ρ') ∧ s.sc st'.nx ∧
  SatH n₀ w M₀ ρ' st' W' ∧ (∀ d s', look st'.sl d = some s' → s'.sc st'.nx ∧ ∃ s0, look st.sl d = some s0 ∧ s'.den ρ' = s0.den ρ) ∧ st'.nt = st.nt ∧ st'.G = st.G ∧ K s st'
def KOf (n₀ : Nat) (w : World) (M₀ : Mem) (G : Gh) (k : St → Prop) : Act → World → Prop := fun a W => ∃ ρ st, Sat n₀ w M₀ ρ st a W ∧ G.le st.G ∧ k st
def At.ref (bx : Bool) : At → Option Nat
 | .v _ => none
 | .row id => some id
 | .box id _ => match bx with | true => some id | false => none
def firstAt (bx : Bool) : List At → Option Nat
 | [] => none
 | a :: r => match a.ref bx with | some id => some id | none => firstAt bx r
def SV.ref (bx : Bool) : SV → Option Nat
 | .v _ => none
 | .row id => some id
 | .box id _ => match bx with | true => some id | false => none
 | .clo _ a b => match firstAt bx a with | some id => some id | none => firstAt bx b
 | .tup l => firstAt bx l
def firstRef (bx : Bool) : List SV → Option Nat
 | [] => none
 | s :: r => match s.ref bx with | some id => some id | none => firstRef bx r
def deep (st : St) : Nat → Nat → Nat
 | 0, id => id
 | n + 1, id => match st.own id with
  | some (.box _ cs) => match firstRef true cs with
   | some j => deep st n j
   | none => id
  | _ => id
def deepK (st : St) (k : Nat → Prop) : Nat → Nat → Prop
 | 0, id => k id
 | n + 1, id => match st.own id with
  | some (.box _ cs) => match firstRef true cs with
   | some j => deepK st k n j
   | none => k id
  | _ => k id
theorem deepK_iff {st : St} {k : Nat → Prop} : ∀ {n id : Nat}, deepK st k n id → k (deep st n id)
 | 0, id, h => h
 | n + 1, id, h => by
  simp only [deepK] at h
  simp only [deep]
  split at h
  ·split at h
   ·exact deepK_iff h
   ·exact h
  ·exact h
def frzAll (bx : Bool) (k : St → List SV → Prop) : Nat → St → List SV → Prop
 | 0, st, as => k st as
 | n + 1, st, as => match firstRef bx as with
  | none => k st as
  | some id0 => deepK st (fun id => match st.own id with
    | some (.row _ sz m xs) => st.withM fun M => VFz M sz m xs fun x B M' => st.subK id x B M' fun st' => svsK (as.map (SV.sub id x B)) fun as' => frzAll bx k n st' as'
    | some (.box t cs) => match vals cs with
     | some vs => st.withM fun M => VFzB M t vs fun x B M' => st.subK id x B M' fun st' => svsK (as.map (SV.sub id x B)) fun as' => frzAll bx k n st' as'
     | none => VStuck 89
    | some (.gh _ _ _) => VStuck 91
    | some (.vw _ _ _ _) => VStuck 92
    | some (.mp ..) => VStuck 93
    | some (.nw _) => VStuck 94
    | none => VStuck 90) 5 id0
theorem frzAll_sound {bx : Bool} {n₀ : Nat} {w : World} {M₀ : Mem} {a : Act} {W : World} {k : St → List SV → Prop} {ρ : Env} : ∀ (n : Nat) {st : St} {as : List SV}, Sat n₀ w M₀ ρ st a W → (∀ s ∈ as, s.sc st.nx) → frzAll bx k n st as →
  ∃ st' as', Sat n₀ w M₀ ρ st' a W ∧ as'.map (SV.den ρ) = as.map (SV.den ρ) ∧ (∀ s ∈ as', s.sc st'.nx) ∧ st'.G = st.G ∧ k st' as'
 | 0, st, as, h, hs, hk => ⟨st, as, h, rfl, hs, rfl, hk⟩
 | n + 1, st, as, h, hs, hk => by
  simp only [frzAll] at hk
  split at hk
  ·exact ⟨st, as, h, rfl, hs, rfl, hk⟩
  ·rename_i id0 _
   replace hk := deepK_iff hk
   generalize deep st 5 id0 = id at hk
   have next : ∀ M', Sat n₀ w M₀ ρ (st.sub id (slOf (ρ id)) (blkOf (ρ id)) M') a W → frzAll bx k n (st.sub id (slOf (ρ id)) (blkOf (ρ id)) M') (as.map (SV.sub id (slOf (ρ id)) (blkOf (ρ id)))) →
     ∃ st' as', Sat n₀ w M₀ ρ st' a W ∧ as'.map (SV.den ρ) = as.map (SV.den ρ) ∧ (∀ s ∈ as', s.sc st'.nx) ∧ st'.G = st.G ∧ k st' as' := by
    intro M' h3 hk
    obtain ⟨st', as', g1, g2, g3, g4, g5⟩ := frzAll_sound n h3 (as := as.map (SV.sub id (slOf (ρ id)) (blkOf (ρ id)))) (fun s hs' => by
     simp only [List.mem_map] at hs'
     obtain ⟨z, hz, rfl⟩ := hs'
     exact SV.sub_sc (hs z hz)) hk
    refine ⟨st', as', g1, ?_, g3, g4, g5⟩
    rw [g2, List.map_map]
    exact List.map_congr_left fun s _ => SV.sub_den rfl rfl s
   split at hk
   ·rename_i E sz m xs hid
    obtain ⟨M', h1, h2, h2', h3⟩ := h.frz hid
    rcases withM_iff hk with ⟨hk⟩ | ⟨hk⟩
    ·exact next M' h3 (svsK_iff (k := fun as' => frzAll bx k n _ as') (subK_iff (hk _ _ _ h1 h2)))
    ·exact next M' h3 (svsK_iff (k := fun as' => frzAll bx k n _ as') (subK_iff (hk _ _ _ h1 h2 h2')))
   ·rename_i t cs hid
    split at hk
    ·rename_i vs hv
     obtain ⟨hk⟩ := withM_iff hk
     obtain ⟨M', h1, h2, h3⟩ := h.frzB hid hv
     exact next M' h3 (svsK_iff (k := fun as' => frzAll bx k n _ as') (subK_iff (hk _ _ _ h1 h2)))
    ·cases hk
   ·cases hk
   ·cases hk
   ·cases hk
   ·cases hk
   ·cases hk
inductive VOwn (A B : Prop) : Prop
 | frz (h : A)
 | own (h : B)
def callFz (P : Program) (st : St) (f : Nat) (as : List SV) (k : SV → St → Prop) : Prop :=
 frzAll false (fun st as => match vals as with
  | some vs => st.withM fun M => VFn P f vs M fun rs M' => st.memK M' (k (retSV rs))
  | none => VOwn (frzAll true (fun st as => match vals as with
    | some vs => st.withM fun M => VFn P f vs M fun rs M' => st.memK M' (k (retSV rs))
    | none => VStuck 88) 12 st as) (VCall P f as st k)) as.length st as
def callF (C : VX) (P : Program) (st : St) (f : Nat) (as : List SV) (k : SV → St → Prop) : Prop :=
 match C.inl with
 | true => VOwn (callFz P st f as k) (VCall P f as st k)
 | false => callFz P st f as k
def atom : SV → Option At
 | .v x => some (.v x)
 | .box id off => some (.box id off)
 | .row id => some (.row id)
 | _ => none
def atoms (st : St) : List Operand → Option (List At)
 | [] => some []
 | x :: r => match st.ev x with
  | some s => match atom s, atoms st r with
   | some a, some l => some (a :: l)
   | _, _ => none
  | none => none
def At.sv : At → SV
 | .v x => .v x
 | .box id off => .box id off
 | .row id => .row id
theorem At.sv_den (ρ : Env) (a : At) : a.sv.den ρ = a.den ρ := by cases a <;> rfl
theorem At.sv_sc {nx : Nat} {a : At} (h : a.sc nx) : a.sv.sc nx := by cases a <;> exact h
theorem atom_spec {ρ : Env} {nx : Nat} {s : SV} {a : At} (h : atom s = some a) (hs : s.sc nx) : a.den ρ = s.den ρ ∧ a.sc nx := by
 cases s <;> simp only [atom, reduceCtorEq, Option.some.injEq] at h <;> subst h <;> exact ⟨rfl, hs⟩
theorem atoms_spec {n₀ : Nat} {w : World} {M₀ : Mem} {ρ : Env} {st : St} {a : Act} {W : World} (h : Sat n₀ w M₀ ρ st a W) : ∀ {l : List Operand} {r : List At}, atoms st l = some r → r.map (At.den ρ) = l.map a.eval ∧ ∀ x ∈ r, x.sc st.nx
 | [], r, hr => by simp only [atoms, Option.some.injEq] at hr; subst hr; simp
 | x :: l, r, hr => by
  simp only [atoms] at hr
  split at hr
  ·rename_i s hs
   obtain ⟨e1, e2⟩ := h.ev hs
   split at hr
   ·rename_i t q ht hq
    simp only [Option.some.injEq] at hr
    subst hr
    obtain ⟨g1, g2⟩ := atom_spec (ρ := ρ) ht e2
    obtain ⟨i1, i2⟩ := atoms_spec h hq
    refine ⟨by simp [g1, e1, i1], ?_⟩
    intro y hy
    rcases List.mem_cons.1 hy with rfl | hy
    ·exact g2
    ·exact i2 y hy
   ·cases hr
  ·cases hr
def evs (st : St) : List Operand → Option (List SV)
 | [] => some []
 | x :: r => match st.ev x, evs st r with
  | some s, some l => some (s :: l)
  | _, _ => none
theorem evs_spec {n₀ : Nat} {w : World} {M₀ : Mem} {ρ : Env} {st : St} {a : Act} {W : World} (h : Sat n₀ w M₀ ρ st a W) : ∀ {l : List Operand} {r : List SV}, evs st l = some r → l.map a.eval = r.map (SV.den ρ) ∧ ∀ x ∈ r, x.sc st.nx
 | [], r, hr => by simp only [evs, Option.some.injEq] at hr; subst hr; simp
 | x :: l, r, hr => by
  simp only [evs] at hr
  split at hr
  ·rename_i s q hs hq
   simp only [Option.some.injEq] at hr
   subst hr
   obtain ⟨e1, e2⟩ := h.ev hs
   obtain ⟨i1, i2⟩ := evs_spec h hq
   refine ⟨by simp [e1, i1], ?_⟩
   intro y hy
   rcases List.mem_cons.1 hy with rfl | hy
   ·exact e2
   ·exact i2 y hy
  ·cases hr
def callee (f : SV) (args : List SV) : Option (Nat × List SV) :=
 match f with
 | .clo g fst cap => some (g, fst.map At.sv ++ args ++ cap.map At.sv)
 | .v (.func (.func g) fst cap) => some (g, fst.toList.map .v ++ args ++ cap.toList.map .v)
 | _ => none
theorem calls_fw {r : Option Nat} {n : Nat} {f : Nat} {args : Array Value} {W : World} {R : Ending → World → Prop} (h : Calls P f args W R) : CallsIn (Fw r) n P f args W R := by
 cases r with
 | none => exact callsIn_wide.2 h
 | some l => exact CallsIn.inRound l (callsIn_wide.2 h)
theorem callF_sound {C : VX} {n₀ : Nat} {w : World} {M₀ : Mem} {ρ : Env} {st : St} {a : Act} {W : World} (h : Sat n₀ w M₀ ρ st a W) {f : Nat} {as : List SV} (hs : ∀ s ∈ as, s.sc st.nx) {k : SV → St → Prop} (hk : callF C P st f as k) :
  Enters P f ∧ Calls P f (as.map (SV.den ρ)).toArray W fun e W' => ∃ s st' ρ', e = .returned (s.den ρ') ∧ s.sc st'.nx ∧ Sat n₀ w M₀ ρ' st' a W' ∧ st'.G = st.G ∧ k s st' := by
 have plainCall : ∀ {st1 : St} {as1 : List SV} {vs : List Value}, Sat n₀ w M₀ ρ st1 a W → as1.map (SV.den ρ) = as.map (SV.den ρ) → st1.G = st.G → vals as1 = some vs →
   (st1.withM fun M => VFn P f vs M fun rs M' => st1.memK M' (k (retSV rs))) →
   Enters P f ∧ Calls P f (as.map (SV.den ρ)).toArray W fun e W' => ∃ s st' ρ', e = .returned (s.den ρ') ∧ s.sc st'.nx ∧ Sat n₀ w M₀ ρ' st' a W' ∧ st'.G = st.G ∧ k s st' := by
  intro st1 as1 vs h1 e1 t1 hv hk
  obtain ⟨R, ⟨hent, hfn⟩, hk⟩ := withM_iff hk
  refine ⟨hent, ?_⟩
  rw [← e1, vals_den hv]
  refine (hfn W h1.h.mem).mono ?_
  rintro e W' ⟨rs, M', rfl, g2, g3, g4, g5, g6⟩
  exact ⟨retSV rs, { st1 with M := M' }, ρ, by rw [retSV_den], retSV_sc _ _, h1.grow g2 g4 g5, t1, memK_iff (hk rs M' g3 g6)⟩
 have ownCall : ∀ {st1 : St} {as1 : List SV}, Sat n₀ w M₀ ρ st1 a W → as1.map (SV.den ρ) = as.map (SV.den ρ) → (∀ s ∈ as1, s.sc st1.nx) → st1.G = st.G → VCall P f as1 st1 k → Enters P f ∧ Calls P f (as.map (SV.den ρ)).toArray W fun e W' => ∃ s st' ρ', e = .returned (s.den ρ') ∧ s.sc st'.nx ∧ Sat n₀ w M₀ ρ' st' a W' ∧ st'.G = st.G ∧ k s st' := fun {st1 as1} h1 e1 s1 t1 hk => by
  rw [← e1]
  obtain ⟨hent, hrun⟩ := hk
  refine ⟨hent, ?_⟩
  refine (hrun n₀ w M₀ ρ W h1.h s1 (fun d s hd => (h1.sl d s hd).2.1)).mono ?_
  rintro e W' ⟨s, st', ρ', rfl, g4, g5, g7, g8, g10, g9⟩
  refine ⟨s, st', ρ', rfl, g4, ⟨g5, by rw [g8]; exact h1.nt, ?_, by rw [g10]; exact h1.marks⟩, by rw [g10, t1], g9⟩
  intro d s' hd
  obtain ⟨q1, s0, q2, q3⟩ := g7 d s' hd
  obtain ⟨j1, j2, j3⟩ := h1.sl d s0 q2
  exact ⟨by rw [g8]; exact j1, q1, by rw [q3]; exact j3⟩
 have contract : callFz P st f as k → Enters P f ∧ Calls P f (as.map (SV.den ρ)).toArray W fun e W' => ∃ s st' ρ', e = .returned (s.den ρ') ∧ s.sc st'.nx ∧ Sat n₀ w M₀ ρ' st' a W' ∧ st'.G = st.G ∧ k s st' := fun hk => by
  obtain ⟨st1, as1, h1, e1, s1, t1, hk⟩ := frzAll_sound _ h hs hk
  split at hk
  ·rename_i vs hv
   exact plainCall h1 e1 t1 hv hk
  ·cases hk with
   | frz hk =>
    obtain ⟨st2, as2, h2, e2, s2, t2, hk⟩ := frzAll_sound _ h1 s1 hk
    split at hk
    ·rename_i vs hv
     exact plainCall h2 (e2.trans e1) (t2.trans t1) hv hk
    ·cases hk
   | own hk => exact ownCall h1 e1 s1 t1 hk
 unfold callF at hk
 split at hk
 ·cases hk with
  | frz hk => exact contract hk
  | own hk => exact ownCall h rfl hs rfl hk
 ·exact contract hk
theorem op_call {C : VX} {r : Option Nat} {n : Nat} {n₀ : Nat} {w : World} {M₀ : Mem} {ρ : Env} {st : St} {a : Act} {W : World} {o : Oper} {c : Call} {f : Operand} {k : St → Prop} {Q : Exit → Act → World → Prop}
  (ho : o.op = .call c) (hc : c.callee = .value f) (h : Sat n₀ w M₀ ρ st a W) {sf : SV} {g : Nat} {args as : List SV} (hf : st.ev f = some sf) (ha : evs st c.args.toList = some args) (hg : callee sf args = some (g, as))
  (hk : callF C P st g as fun s st' => st'.putv o.dst s k) : o.wpIn (Fw r) n P a W (KOf n₀ w M₀ st.G k) Q := by
 obtain ⟨e1, e2⟩ := h.ev hf
 obtain ⟨i1, i2⟩ := evs_spec h ha
 have hargs : c.args.map a.eval = (args.map (SV.den ρ)).toArray := by
  apply Array.ext'
  rw [Array.toList_map, i1]
 -- the function value, its bound and its captured values
 obtain ⟨fst, cap, hfv, hall, hsc⟩ : ∃ fst cap : Array Value, sf.den ρ = .func (.func g) fst cap ∧ (fst ++ (args.map (SV.den ρ)).toArray ++ cap) = (as.map (SV.den ρ)).toArray ∧ ∀ s ∈ as, s.sc st.nx := by
  unfold callee at hg
  split at hg
  ·rename_i g' fst cap
   simp only [Option.some.injEq, Prod.mk.injEq] at hg
   obtain ⟨rfl, rfl⟩ := hg
   refine ⟨_, _, rfl, ?_, ?_⟩
   ·apply Array.ext'
    have : SV.den ρ ∘ At.sv = At.den ρ := funext (At.sv_den ρ)
    simp [this]
   ·intro s hs
    simp only [List.mem_append, List.mem_map] at hs
    rcases hs with (⟨x, hx, rfl⟩ | hs) | ⟨x, hx, rfl⟩
    ·exact At.sv_sc (e2.1 x hx)
    ·exact i2 s hs
    ·exact At.sv_sc (e2.2 x hx)
  ·rename_i g' fst cap
   simp only [Option.some.injEq, Prod.mk.injEq] at hg
   obtain ⟨rfl, rfl⟩ := hg
   refine ⟨fst, cap, rfl, ?_, ?_⟩
   ·apply Array.ext'
    have : SV.den ρ ∘ SV.v = id := rfl
    simp [this]
   ·intro s hs
    simp only [List.mem_append, List.mem_map] at hs
    rcases hs with (⟨x, hx, rfl⟩ | hs) | ⟨x, hx, rfl⟩
    ·trivial
    ·exact i2 s hs
    ·trivial
  ·cases hg
 obtain ⟨hent, hcalls⟩ := callF_sound h hsc hk
 refine ⟨fun _ _ => trivial, ?_⟩
 have hrun : (execOp a.eval o).run P W = .ok (.enter g (as.map (SV.den ρ)).toArray) W := by
  simp only [execOp, ho, resolve, hc, e1, hfv, Deferred.ofValue, Sem.run_bind, Sem.run_pure, Result.andThen_ok, invoke, hargs]
  rw [hent, ← hall]
 rw [Oper.semAt_plain _ _ _ (fun c' => by rw [ho]; simp), hrun]
 refine ⟨fun h => (by cases h), ?_⟩
 refine (calls_fw hcalls).mono ?_
 rintro e W' ⟨s, st', ρ', rfl, g2, g3, g4, g5⟩
 obtain ⟨j1, j2⟩ := putv_elim g5 g3 g2
 exact ⟨ρ', _, j1, by rw [show (st'.put o.dst s).G = st'.G from by cases o.dst <;> rfl, g4]; exact Gh.le_refl _, j2⟩
def bnd (st : St) (x : Option Operand) (dflt hi : Nat) (k : Nat → Prop) : Prop :=
 match x with
 | none => k dflt
 | some x => match st.ev x with
  | some (.v (.int _ i)) => VBnd i hi k
  | _ => VStuck 91
def slc (C : VX) (st : St) (t : TypeId) (x : SV) (lo hi mx : Option Operand) (k : SV → Prop) : Prop :=
 match look C.te t with
 | some ⟨.sl e, _, _⟩ => match look C.te e with
  | some ei => match x with
   | .v (.slice a len cap) => match lo, hi, mx with
    | none, some hi, none => bnd st (some hi) 0 cap fun h => k (.v (.slice a h cap))
    | some lo, none, none => bnd st (some lo) 0 len fun l => k (.v (.slice (if cap = l then a else a.map (·.add (l * ei.zero.length))) (len - l) (cap - l)))
    | none, some hi, some mx => bnd st (some mx) 0 cap fun m => bnd st (some hi) 0 m fun h => k (.v (.slice a h m))
    | some lo, some hi, some mx => bnd st (some mx) 0 cap fun m => bnd st (some hi) 0 m fun h => bnd st (some lo) 0 h fun l => k (.v (.slice (if m = l then a else a.map (·.add (l * ei.zero.length))) (h - l) (m - l)))
    | _, _, _ => VStuck 92
   | _ => VStuck 93
  | none => VStuck 94
 | _ => VStuck 95
theorem Addr.add_zero (a : Addr) : a.add 0 = a := by simp [Go.Addr.add]
theorem slc_sound {C : VX} (hC : VXOK P C) {n₀ : Nat} {w : World} {M₀ : Mem} {ρ : Env} {st : St} {a : Act} {W : World} (h : Sat n₀ w M₀ ρ st a W) {t : TypeId} {x : SV} {lo hi mx : Option Operand} {k : SV → Prop} (hk : slc C st t x lo hi mx k) :
  ∃ s, s.sc st.nx ∧ (∀ W, (Instr.sliceAt t (x.den ρ) (lo.map a.eval) (hi.map a.eval) (mx.map a.eval)).run P W = .ok (s.den ρ) W) ∧ k s := by
 unfold slc at hk
 split at hk
 ·rename_i e z b hl
  obtain ⟨d, hd, hf⟩ := (hC.te _ _ hl).und
  simp only [TK.fits] at hf
  subst hf
  have hu := fun W => run_underlying (P := P) (w := W) hd
  split at hk
  ·rename_i ei hei
   have hsz := fun W => (hC.te _ _ hei).sizeOf W
   split at hk
   ·rename_i sa len cap
    split at hk
    ·rename_i hi
     unfold bnd at hk
     simp only at hk
     split at hk
     ·rename_i kk i hev
      obtain ⟨m, rfl, hm, hk⟩ := hk
      have e1 := (h.ev hev).1
      refine ⟨.v (.slice sa m cap), trivial, fun W => ?_, hk⟩
      have hb : (0 : Int) ≤ (m : Int) ∧ (m : Int) ≤ (cap : Int) := by omega
      simp only [SV.den] at e1
      simp only [SV.den, Instr.sliceAt, Sem.run_bind, hu, Result.andThen_ok, Instr.slice, Instr.sliceBounds, Option.map_none, Option.map_some, e1, Instr.sliceBound, asIntOf, Sem.run_pure, hb, and_self, if_true, hsz, Int.toNat_natCast]
      cases sa with
      | none => simp
      | some ad => simp [Addr.add_zero]
     ·cases hk
    ·rename_i lo
     unfold bnd at hk
     simp only at hk
     split at hk
     ·rename_i kk i hev
      obtain ⟨m, rfl, hm, hk⟩ := hk
      have e1 := (h.ev hev).1
      refine ⟨.v (.slice (if cap = m then sa else sa.map (·.add (m * ei.zero.length))) (len - m) (cap - m)), trivial, fun W => ?_, hk⟩
      have hb : (0 : Int) ≤ (m : Int) ∧ (m : Int) ≤ (len : Int) := by omega
      simp only [SV.den] at e1
      simp only [SV.den, Instr.sliceAt, Sem.run_bind, hu, Result.andThen_ok, Instr.slice, Instr.sliceBounds, Option.map_none, Option.map_some, e1, Instr.sliceBound, asIntOf, Sem.run_pure, hb, and_self, if_true, hsz, Int.toNat_natCast]
     ·cases hk
    ·rename_i hi mx
     unfold bnd at hk
     simp only at hk
     split at hk
     ·rename_i kk i hev
      obtain ⟨m, rfl, hm, hk⟩ := hk
      split at hk
      ·rename_i kk2 i2 hev2
       obtain ⟨q, rfl, hq, hk⟩ := hk
       have e1 := (h.ev hev).1
       have e2 := (h.ev hev2).1
       refine ⟨.v (.slice sa q m), trivial, fun W => ?_, hk⟩
       have hb : (0 : Int) ≤ (m : Int) ∧ (m : Int) ≤ (cap : Int) := by omega
       have hb2 : (0 : Int) ≤ (q : Int) ∧ (q : Int) ≤ (m : Int) := by omega
       simp only [SV.den] at e1 e2
       simp only [SV.den, Instr.sliceAt, Sem.run_bind, hu, Result.andThen_ok, Instr.slice, Instr.sliceBounds, Option.map_none, Option.map_some, e1, e2, Instr.sliceBound, asIntOf, Sem.run_pure, hb, hb2, and_self, if_true, hsz, Int.toNat_natCast]
       cases sa with
       | none => simp
       | some ad => simp [Addr.add_zero]
      ·cases hk
     ·cases hk
    ·rename_i lo hi mx
     unfold bnd at hk
     simp only at hk
     split at hk
     ·rename_i kk i hev
      obtain ⟨m, rfl, hm, hk⟩ := hk
      split at hk
      ·rename_i kk2 i2 hev2
       obtain ⟨q, rfl, hq, hk⟩ := hk
       split at hk
       ·rename_i kk3 i3 hev3
        obtain ⟨l, rfl, hl3, hk⟩ := hk
        have e1 := (h.ev hev).1
        have e2 := (h.ev hev2).1
        have e3 := (h.ev hev3).1
        refine ⟨.v (.slice (if m = l then sa else sa.map (·.add (l * ei.zero.length))) (q - l) (m - l)), trivial, fun W => ?_, hk⟩
        have hb : (0 : Int) ≤ (m : Int) ∧ (m : Int) ≤ (cap : Int) := by omega
        have hb2 : (0 : Int) ≤ (q : Int) ∧ (q : Int) ≤ (m : Int) := by omega
        have hb3 : (0 : Int) ≤ (l : Int) ∧ (l : Int) ≤ (q : Int) := by omega
        simp only [SV.den] at e1 e2 e3
        simp only [SV.den, Instr.sliceAt, Sem.run_bind, hu, Result.andThen_ok, Instr.slice, Instr.sliceBounds, Option.map_none, Option.map_some, e1, e2, e3, Instr.sliceBound, asIntOf, Sem.run_pure, hb, hb2, hb3, and_self, if_true, hsz, Int.toNat_natCast]
       ·cases hk
      ·cases hk
     ·cases hk
    ·cases hk
   ·cases hk
  ·cases hk
 ·cases hk
def val (C : VX) (P : Program) (st : St) (o : Oper) (k : SV → Prop) : Prop :=
 match o.op with
 | .move x => match st.ev x with | some s => k s | none => VStuck 100
 | .assign x => match st.ev x with | some s => k s | none => VStuck 101
 | .pick c a b => match st.ev c with
  | some (.v (.bool c)) => VIf c (match st.ev a with | some s => k s | none => VStuck 102) (match st.ev b with | some s => k s | none => VStuck 103)
  | _ => VStuck 104
 | .load t x => match st.ev x with | some s => ld C.te st t s k | none => VStuck 108
 | .binOp op t x y _ => match st.ev x, st.ev y with | some u, some v => bin C op t u v k | _, _ => VStuck 110
 | .unOp op _ x => match st.ev x with | some s => un op s k | none => VStuck 111
 | .convert src dst x => match st.ev x with | some s => conv C src dst s k | none => VStuck 112
 | .extract x i => match st.ev x with | some s => extr s i k | none => VStuck 113
 | .fieldAddr t x f => match st.ev x with | some s => fldA C st t s f k | none => VStuck 114
 | .field t x f => match st.ev x with | some s => fldV C t s f k | none => VStuck 115
 | .indexAddr t x i => match st.ev x, st.ev i with | some u, some v => idx C st t u v k | _, _ => VStuck 116
 | .index t x i => match st.ev x, st.ev i with | some u, some v => idxV C t u v k | _, _ => VStuck 233
 | .lookup t x i false => match st.ev x, st.ev i with | some u, some v => mapLook P st t u v k | _, _ => VStuck 234
 | .build t parts => bld C st t parts k
 | .makeFunc (.func f) fst cap => match atoms st fst.toList, atoms st cap.toList with | some a, some b => k (.clo f a b) | _, _ => VStuck 117
 | .nilCheck x => match st.ev x with
  | some (.box id off) => k (.box id off)
  | some (.v (.pointer (some ad))) => k (.v (.pointer (some ad)))
  | _ => VStuck 118
 | .slice t x lo hi mx => match st.ev x with | some s => slc C st t s lo hi mx k | none => VStuck 119
 | .call c => match c.callee with
  | .builtin .len => match c.args.toList, c.argTypes.toList with
   | [x], [t] => match look C.te t, st.ev x with
    | some ⟨.sl _, _, _⟩, some s => lenOf st s k
    | _, _ => VStuck 120
   | _, _ => VStuck 121
  | .builtin .max => match evs st c.args.toList with
   | some l => match intsOf l with
    | some (kk, x :: r) => k (.v (.int kk (r.foldl max x)))
    | _ => VStuck 122
   | none => VStuck 123
  | .builtin .min => match evs st c.args.toList with
   | some l => match intsOf l with
    | some (kk, x :: r) => k (.v (.int kk (r.foldl min x)))
    | _ => VStuck 124
   | none => VStuck 125
  | _ => VStuck 130
 | _ => VStuck 131
def shr (C : VX) (st : St) (t : TypeId) (id : Nat) (hi : Operand) (k : St → SV → Prop) : Prop :=
 match look C.te t with
 | some ⟨.sl e, _, _⟩ => match look C.te e with
  | some _ => match st.own id with
   | some (.row E sz n xs) => bnd st (some hi) 0 n fun h => st.moreK id (.row E sz h (xs.take (h * sz))) fun st' i => k st' (.row i)
   | _ => VStuck 200
  | none => VStuck 201
 | _ => VStuck 202
theorem shr_sound {C : VX} (hC : VXOK P C) {n₀ : Nat} {w : World} {M₀ : Mem} {ρ : Env} {st : St} {a : Act} {W : World} (h : Sat n₀ w M₀ ρ st a W) {t : TypeId} {id : Nat} {hi : Operand} {k : St → SV → Prop} (hk : shr C st t id hi k) :
  ∃ v ρ' st' s, (Instr.sliceAt t ((SV.row id).den ρ) none (some (a.eval hi)) none).run P W = .ok v W ∧ v = s.den ρ' ∧ s.sc st'.nx ∧ Sat n₀ w M₀ ρ' st' a W ∧ st'.G = st.G ∧ k st' s := by
 unfold shr at hk
 split at hk
 ·rename_i e z b hl
  obtain ⟨d, hd, hf⟩ := (hC.te _ _ hl).und
  simp only [TK.fits] at hf
  subst hf
  have hu := fun W => run_underlying (P := P) (w := W) hd
  split at hk
  ·rename_i ei hei
   have hsz := fun W => (hC.te _ _ hei).sizeOf W
   split at hk
   ·rename_i E sz n xs hid
    unfold bnd at hk
    simp only at hk
    split at hk
    ·rename_i kk i hev
     obtain ⟨m, rfl, hm, hk⟩ := hk
     have e1 := (h.ev hev).1
     replace hk := moreK_iff hk
     obtain ⟨_, _, ⟨hlen, hcase⟩, h1⟩ := h.h.own id _ hid
     have h1' : ∀ q ∈ xs.take (m * sz), q.oneCell' = true := fun q hq => h1 q (List.mem_of_mem_take hq)
     have hlen' : (xs.take (m * sz)).length = m * sz := by
      rw [List.length_take, hlen]
      exact Nat.min_eq_left (Nat.mul_le_mul_right _ hm)
     have hb : (0 : Int) ≤ (m : Int) ∧ (m : Int) ≤ (n : Int) := by omega
     simp only [SV.den] at e1
     rcases hcase with ⟨hv, h0⟩ | ⟨g, cap, cur, hv, hg, hh, hnc, hcm, hcs, hct⟩
     ·have hm0 : m = 0 := by omega
      subst hm0
      refine ⟨.slice none 0 0, upd ρ st.nx (.slice none 0 0), st.more id (.row E sz 0 (xs.take (0 * sz))), .row st.nx, ?_, by simp [SV.den, upd_same, slOf], Nat.lt_succ_self _, ?_, rfl, hk⟩
      ·simp only [SV.den, hv, slOf, Instr.sliceAt, Sem.run_bind, hu, hsz, Result.andThen_ok, Instr.slice, Instr.sliceBounds, e1, Instr.sliceBound, asIntOf, Sem.run_pure]
       simp
      ·refine h.env (h.h.add2 hid _ (.slice none 0 0) ⟨rfl, rfl, rfl, Nat.le_refl _, fun _ _ _ => rfl⟩ trivial ?_ (fun b hb => by simp [ob] at hb)) (agree_upd _ _ _) (Nat.le_succ _) rfl rfl rfl
       refine ⟨⟨hlen', .inl ⟨upd_same _ _ _, rfl⟩⟩, h1'⟩
     ·refine ⟨.slice (some ⟨g, 0, none⟩) m cap, upd ρ st.nx (.slice (some ⟨g, 0, none⟩) m cap), st.more id (.row E sz m (xs.take (m * sz))), .row st.nx, ?_, by simp [SV.den, upd_same, slOf], Nat.lt_succ_self _, ?_, rfl, hk⟩
      ·have hb' : (0 : Int) ≤ (m : Int) ∧ (m : Int) ≤ (cap : Int) := by omega
       simp only [SV.den, hv, slOf, Instr.sliceAt, Sem.run_bind, hu, hsz, Result.andThen_ok, Instr.slice, Instr.sliceBounds, Option.map_none, Option.map_some, e1, Instr.sliceBound, asIntOf, Sem.run_pure, hb', and_self, if_true]
       simp [Addr.add_zero]
      ·refine h.env (h.h.add2 hid _ (.slice (some ⟨g, 0, none⟩) m cap) ⟨rfl, rfl, rfl, Nat.le_refl _, fun _ _ _ => rfl⟩ trivial ?_ (fun b hb => .inl (by rw [hv]; exact hb))) (agree_upd _ _ _) (Nat.le_succ _) rfl rfl rfl
       refine ⟨⟨hlen', .inr ⟨g, cap, cur, upd_same _ _ _, hg, hh, by omega, hcm, hcs, ?_⟩⟩, h1'⟩
       rw [← hct, List.take_take, Nat.min_eq_left (Nat.mul_le_mul_right _ hm)]
    ·cases hk
   ·cases hk
  ·cases hk
 ·cases hk
def vws (C : VX) (st : St) (t : TypeId) (id : Nat) (lo : Operand) (k : St → SV → Prop) : Prop :=
 match look C.te t with
 | some ⟨.sl e, _, _⟩ => match look C.te e with
  | some ei => match st.own id with
   | some (.row _ sz n _) => match Nat.beq sz ei.zero.length with
    | true => VFact (0 < n) (bnd st (some lo) 0 n fun h => VFact (h < n) (st.addK (.vw sz id h (n - h)) fun st' i => k st' (.row i)))
    | false => VStuck 206
   | _ => VStuck 203
  | none => VStuck 204
 | _ => VStuck 205
theorem vws_sound {C : VX} (hC : VXOK P C) {n₀ : Nat} {w : World} {M₀ : Mem} {ρ : Env} {st : St} {a : Act} {W : World} (h : Sat n₀ w M₀ ρ st a W) {t : TypeId} {id : Nat} {lo : Operand} {k : St → SV → Prop} (hk : vws C st t id lo k) :
  ∃ v ρ' st' s, (Instr.sliceAt t ((SV.row id).den ρ) (some (a.eval lo)) none none).run P W = .ok v W ∧ v = s.den ρ' ∧ s.sc st'.nx ∧ Sat n₀ w M₀ ρ' st' a W ∧ st'.G = st.G ∧ k st' s := by
 unfold vws at hk
 split at hk
 ·rename_i e z b hl
  obtain ⟨d, hd, hf⟩ := (hC.te _ _ hl).und
  simp only [TK.fits] at hf
  subst hf
  have hu := fun W => run_underlying (P := P) (w := W) hd
  split at hk
  ·rename_i ei hei
   have hsz := fun W => (hC.te _ _ hei).sizeOf W
   split at hk
   ·rename_i E sz n xs hid
    split at hk
    ·rename_i hbs
     have hbs := Nat.eq_of_beq_eq_true hbs
     cases hk with
     | mk hn0 hk =>
     unfold bnd at hk
     simp only at hk
     split at hk
     ·rename_i kk i hev
      obtain ⟨m, rfl, hm, hk⟩ := hk
      cases hk with
      | mk hlt hk =>
      have e1 := (h.ev hev).1
      replace hk := addK_iff hk
      obtain ⟨hidn, _, ⟨hlen, hcase⟩, h1⟩ := h.h.own id _ hid
      simp only [SV.den] at e1
      rcases hcase with ⟨hv, h0⟩ | ⟨g, cap, cur, hv, hg, hh, hnc, hcm, hcs, hct⟩
      ·omega
      ·have hb' : (0 : Int) ≤ (m : Int) ∧ (m : Int) ≤ (n : Int) := by omega
       have hcapm : ¬ cap = m := by omega
       refine ⟨.slice (some ⟨g, m * sz, none⟩) (n - m) (cap - m), upd ρ st.nx (.tuple #[.slice (some ⟨g, m * sz, none⟩) (n - m) (cap - m)]), st.add (.vw sz id m (n - m)), .row st.nx, ?_, by simp [SV.den, upd_same, slOf], Nat.lt_succ_self _, ?_, rfl, hk⟩
       ·have hadd := Addr.add_none g 0 (m * ei.zero.length)
        simp only [SV.den, hv, slOf, Instr.sliceAt, Sem.run_bind, hu, hsz, Result.andThen_ok, Instr.slice, Instr.sliceBounds, Option.map_none, Option.map_some, e1, Instr.sliceBound, asIntOf, Sem.run_pure, hb', and_self, if_true, Int.toNat_natCast, hcapm, if_false, hadd, hbs, Nat.zero_add]
       ·refine h.env (h.h.add (.vw sz id m (n - m)) (.tuple #[.slice (some ⟨g, m * sz, none⟩) (n - m) (cap - m)]) (Below.refl _ W) hidn ?_ (fun b hb => by simp [ob] at hb)) (agree_upd _ _ _) (Nat.le_succ _) rfl rfl rfl
        refine ⟨by simp [upd_same, ob], g, n, cap, cap - m, ?_, by simp [upd_same, slOf]⟩
        simp only [upd]
        rw [if_neg (by omega)]
        exact hv
     ·cases hk
    ·cases hk
   ·cases hk
  ·cases hk
 ·cases hk
def zcells (z : List Value) : Nat → List Value
 | 0 => []
 | n + 1 => z ++ zcells z n
theorem zcells_length (z : List Value) : ∀ n, (zcells z n).length = n * z.length
 | 0 => by simp [zcells]
 | n + 1 => by simp [zcells, zcells_length z n, Nat.add_mul]; omega
theorem zcells_mem {z : List Value} {q : Value} : ∀ {n}, q ∈ zcells z n → q ∈ z
 | 0, h => by cases h
 | n + 1, h => by
  rcases List.mem_append.1 h with h | h
  ·exact h
  ·exact zcells_mem h
theorem zcells_get {z : List Value} (hz : 0 < z.length) : ∀ (n i : Nat), i < n * z.length → (zcells z n)[i]? = z[i % z.length]?
 | 0, i, h => by simp at h
 | n + 1, i, h => by
  simp only [zcells]
  by_cases hi : i < z.length
  ·rw [List.getElem?_append_left hi, Nat.mod_eq_of_lt hi]
  ·rw [List.getElem?_append_right (by omega), zcells_get hz n (i - z.length) (by rw [Nat.add_mul] at h; omega), Nat.mod_eq_sub_mod (by omega : i ≥ z.length)]
theorem zeroCells_eq {z : List Value} (hz : 0 < z.length) (n : Nat) : (Builtin.zeroCells z.toArray n).toList = zcells z n := by
 apply List.ext_getElem?
 intro i
 by_cases hi : i < n * z.length
 ·rw [zcells_get hz n i hi]
  have hm := Nat.mod_lt i hz
  simp [Builtin.zeroCells, hi, hm]
 ·rw [List.getElem?_eq_none (by simpa [Builtin.zeroCells] using Nat.le_of_not_lt hi), List.getElem?_eq_none (by rw [zcells_length]; omega)]
def clr (C : VX) (st : St) (t : TypeId) (id : Nat) (k : St → Prop) : Prop :=
 match look C.te t with
 | some ⟨.sl e, _, _⟩ => match look C.te e with
  | some ei => match st.own id with
   | some (.vw sz b q n) => match Nat.beq sz ei.zero.length && Nat.ble 1 sz && allOneV ei.zero with
    | true => match st.own b with
     | some (.row E sz' m xs) => VFact (0 < n ∧ q * sz + n * sz ≤ xs.length) (match st with | ⟨sl, ow, nx, M, nt, G⟩ => k ⟨sl, (b, some (.row E sz' m (rput xs (q * sz) (zcells ei.zero n)))) :: ow, nx, M, nt, G⟩)
     | _ => VStuck 207
    | false => VStuck 208
   | _ => VStuck 209
  | none => VStuck 210
 | _ => VStuck 211
theorem clr_sound {C : VX} (hC : VXOK P C) {n₀ : Nat} {w : World} {M₀ : Mem} {ρ : Env} {st : St} {a : Act} {W : World} (h : Sat n₀ w M₀ ρ st a W) {t ty : TypeId} {id : Nat} {k : St → Prop} (hk : clr C st t id k) :
  ∃ W' st', (Builtin.clear_ #[t] ty #[(SV.row id).den ρ]).run P W = .ok (.tuple #[]) W' ∧ Sat n₀ w M₀ ρ st' a W' ∧ st'.G = st.G ∧ k st' := by
 unfold clr at hk
 split at hk
 ·rename_i e z b hl
  obtain ⟨d, hd, hf⟩ := (hC.te _ _ hl).und
  simp only [TK.fits] at hf
  subst hf
  split at hk
  ·rename_i ei hei
   split at hk
   ·rename_i sz b q n hid
    split at hk
    ·rename_i hbs
     simp only [Bool.and_eq_true] at hbs
     obtain ⟨⟨hb1, hb2⟩, hb3⟩ := hbs
     have hb1 := Nat.eq_of_beq_eq_true hb1
     have hb2 := Nat.le_of_ble_eq_true hb2
     split at hk
     ·rename_i E sz' m xs hb
      cases hk with
      | mk hf hk =>
      obtain ⟨hn, hlen⟩ := hf
      replace hk : k { st with ow := (b, some (.row E sz' m (rput xs (q * sz) (zcells ei.zero n)))) :: st.ow } := by cases st; exact hk
      obtain ⟨_, _, _, B, mb, cb, c, h2, h3⟩ := h.h.own id _ hid
      obtain ⟨zv, hz1, hz2⟩ := (hC.te _ _ hei).zeroValue W
      have hzl : (zcells ei.zero n).length = n * sz := by rw [zcells_length, ← hb1]
      have hpos : 0 < n * sz := Nat.mul_pos hn hb2
      obtain ⟨W', e1, e2⟩ := h.putRow (P := P) (ys := zcells ei.zero n) (off := q * sz) hb (by rw [hzl]; exact hpos) (by rw [hzl]; exact hlen) (fun y hy => allOneV_spec hb3 y (zcells_mem hy))
      refine ⟨W', _, ?_, e2, rfl, hk⟩
      have hzc : (Builtin.zeroCells zv.cells n).toList = zcells ei.zero n := by
       rw [hz2]
       exact zeroCells_eq (by omega) n
      rw [h2] at e1
      simp only [blkOf] at e1
      obtain ⟨n', rfl⟩ : ∃ n', n = n' + 1 := ⟨n - 1, by omega⟩
      simp [Builtin.clear_, SV.den, h3, run_underlying hd, hz1, hzc, e1]
     ·cases hk
    ·cases hk
   ·cases hk
  ·cases hk
 ·cases hk
def frzOps (st : St) (xs : List Operand) (k : St → Prop) : Prop :=
 match evs st xs with
 | some as => frzAll true (fun st' _ => k st') 12 st as
 | none => VStuck 197
theorem frzOps_sound {n₀ : Nat} {w : World} {M₀ : Mem} {a : Act} {W : World} {k : St → Prop} {ρ : Env} {st : St} {xs : List Operand} (h : Sat n₀ w M₀ ρ st a W) (hk : frzOps st xs k) : ∃ st', Sat n₀ w M₀ ρ st' a W ∧ st'.G = st.G ∧ k st' := by
 unfold frzOps at hk
 split at hk
 ·rename_i as ha
  obtain ⟨st', as', g1, _, _, g4, g5⟩ := frzAll_sound _ h (evs_spec h ha).2 hk
  exact ⟨st', g1, g4, g5⟩
 ·cases hk
def step (C : VX) (P : Program) (st : St) (o : Oper) (k : St → Prop) : Prop :=
 match o.op with
 | .alloc t => match look C.te t with
  | some i => st.addK (.box t (i.zero.map .v)) fun st' id => st'.putv o.dst (.box id 0) k
  | none => VStuck 105
 | .box t x => match st.ev x with
  | some s => match s.cells with
   | some cs => st.addK (.box t cs) fun st' id => st'.putv o.dst (.box id 0) k
   | none => VStuck 106
  | none => VStuck 107
 | .store t x y => match st.ev x, st.ev y, o.dst with | some p, some v, none => sto C.te st t p v k | _, _, _ => VStuck 109
 | .makeMap t none => mapMk P st t fun st' s => st'.putv o.dst s k
 | .mapUpdate t m x v => match st.ev m, st.ev x, st.ev v, o.dst with | some m, some x, some v, none => mapSet P st t m x v k | _, _, _, _ => VStuck 235
 | .buildSlice t n parts => frzOps st (parts.toList.map (·.2)) fun st => bldS C st t n parts fun st' id => st'.putv o.dst (.row id) k
 | .build t parts => frzOps st (parts.toList.map (·.2)) fun st => bld C st t parts fun s => st.putv o.dst s k
 | .slice t x none (some hi) none => match st.ev x with
  | some (.row id) => shr C st t id hi fun st' s => st'.putv o.dst s k
  | _ => val C P st o fun s => st.putv o.dst s k
 | .slice t x (some lo) none none => match st.ev x with
  | some (.row id) => vws C st t id lo fun st' s => st'.putv o.dst s k
  | _ => val C P st o fun s => st.putv o.dst s k
 | .load t x => match st.ev x with
  | some (.box id off) => match look C.te t, st.own id with
   | some ⟨.st _, z, _⟩, some (.box _ cs) => frzAll true (fun st _ => val C P st o fun s => st.putv o.dst s k) 12 st ((cs.drop off).take z.length)
   | _, _ => val C P st o fun s => st.putv o.dst s k
  | _ => val C P st o fun s => st.putv o.dst s k
 | .call c => match c.callee with
  | .builtin .append => match c.args.toList, c.argTypes.toList with
   | [s, x], [t, t'] => match Nat.beq t t', st.ev s, st.ev x with
    | true, some u, some v => app C st t u v fun st' r => st'.putv o.dst r k
    | _, _, _ => VStuck 126
   | _, _ => VStuck 127
  | .builtin .clear => match c.args.toList, c.argTypes.toList with
   | [s], [t] => match st.ev s with
    | some (.row id) => clr C st t id fun st' => st'.putv o.dst (.v (.tuple #[])) k
    | _ => VStuck 133
   | _, _ => VStuck 132
  | .value f => match st.ev f, evs st c.args.toList with
   | some sf, some args => match callee sf args with
    | some (g, as) => callF C P st g as fun s st' => st'.putv o.dst s k
    | none => VStuck 128
   | _, _ => VStuck 129
  | _ => val C P st o fun s => st.putv o.dst s k
 | _ => val C P st o fun s => st.putv o.dst s k
end Go.V
namespace Go.V
open Go Go.RowKit
variable {P : Program}
theorem val_sound {C : VX} (hC : VXOK P C) {n₀ : Nat} {w : World} {M₀ : Mem} {ρ : Env} {st : St} {a : Act} {W0 : World} {o : Oper} {k : SV → Prop} (hk : val C P st o k) (h : Sat n₀ w M₀ ρ st a W0) :
  (∀ c, o.op ≠ .defer c) ∧ ∃ s, s.sc st.nx ∧ (∀ W, SatH n₀ w M₀ ρ st W → (execOp a.eval o).run P W = .ok (.value (s.den ρ)) W) ∧ k s := by
 unfold val at hk
 split at hk
 ·rename_i x ho
  refine ⟨fun c => by rw [ho]; simp, ?_⟩
  split at hk
  ·rename_i s hs
   obtain ⟨e1, e2⟩ := h.ev hs
   exact ⟨s, e2, fun W _ => by simp [execOp, ho, e1], hk⟩
  ·cases hk
 ·rename_i x ho
  refine ⟨fun c => by rw [ho]; simp, ?_⟩
  split at hk
  ·rename_i s hs
   obtain ⟨e1, e2⟩ := h.ev hs
   exact ⟨s, e2, fun W _ => by simp [execOp, ho, e1], hk⟩
  ·cases hk
 ·rename_i c x y ho
  refine ⟨fun c => by rw [ho]; simp, ?_⟩
  split at hk
  ·rename_i b hc
   have e0 := (h.ev hc).1
   obtain ⟨h1, h2⟩ := hk
   cases b with
   | true =>
    have hk := h1 rfl
    split at hk
    ·rename_i s hs
     obtain ⟨e1, e2⟩ := h.ev hs
     exact ⟨s, e2, fun W _ => by simp [execOp, ho, e0, e1, SV.den, asBool], hk⟩
    ·cases hk
   | false =>
    have hk := h2 rfl
    split at hk
    ·rename_i s hs
     obtain ⟨e1, e2⟩ := h.ev hs
     exact ⟨s, e2, fun W _ => by simp [execOp, ho, e0, e1, SV.den, asBool], hk⟩
    ·cases hk
  ·cases hk
 ·rename_i t x ho
  refine ⟨fun c => by rw [ho]; simp, ?_⟩
  split at hk
  ·rename_i s hs
   obtain ⟨e1, e2⟩ := h.ev hs
   obtain ⟨q, q1, q2, q3⟩ := ld_sound hC.te h.h e2 hk
   exact ⟨q, q1, fun W hW => by simp [execOp, ho, e1, q2 W hW], q3⟩
  ·cases hk
 ·rename_i op t x y yt ho
  refine ⟨fun c => by rw [ho]; simp, ?_⟩
  split at hk
  ·rename_i u v hu hv
   obtain ⟨e1, _⟩ := h.ev hu
   obtain ⟨f1, _⟩ := h.ev hv
   obtain ⟨q, q1, q2, q3⟩ := bin_sound (nx := st.nx) (ρ := ρ) hC hk x y
   refine ⟨q, q1, fun W _ => ?_, q3⟩
   simp only [execOp, ho, e1, f1]
   rw [Sem.run_bind, q2]
   rfl
  ·cases hk
 ·rename_i op t x ho
  refine ⟨fun c => by rw [ho]; simp, ?_⟩
  split at hk
  ·rename_i s hs
   obtain ⟨e1, e2⟩ := h.ev hs
   obtain ⟨q, q1, q2, q3⟩ := un_sound (P := P) (nx := st.nx) (ρ := ρ) hk
   exact ⟨q, q1, fun W _ => by simp [execOp, ho, e1, q2], q3⟩
  ·cases hk
 ·rename_i src dst x ho
  refine ⟨fun c => by rw [ho]; simp, ?_⟩
  split at hk
  ·rename_i s hs
   obtain ⟨e1, e2⟩ := h.ev hs
   obtain ⟨q, q1, q2, q3⟩ := conv_sound (nx := st.nx) (ρ := ρ) hC hk
   exact ⟨q, q1, fun W _ => by simp [execOp, ho, e1, q2], q3⟩
  ·cases hk
 ·rename_i x i ho
  refine ⟨fun c => by rw [ho]; simp, ?_⟩
  split at hk
  ·rename_i s hs
   obtain ⟨e1, e2⟩ := h.ev hs
   obtain ⟨q, q1, q2, q3⟩ := extr_sound (P := P) (ρ := ρ) hk e2
   exact ⟨q, q1, fun W _ => by simp [execOp, ho, e1, q2], q3⟩
  ·cases hk
 ·rename_i t x f ho
  refine ⟨fun c => by rw [ho]; simp, ?_⟩
  split at hk
  ·rename_i s hs
   obtain ⟨e1, e2⟩ := h.ev hs
   obtain ⟨q, q1, q2, q3⟩ := fldA_sound (ρ := ρ) hC hk e2
   exact ⟨q, q1, fun W _ => by simp [execOp, ho, e1, q2], q3⟩
  ·cases hk
 ·rename_i t x f ho
  refine ⟨fun c => by rw [ho]; simp, ?_⟩
  split at hk
  ·rename_i s hs
   obtain ⟨e1, e2⟩ := h.ev hs
   obtain ⟨q, q1, q2, q3⟩ := fldV_sound (nx := st.nx) (ρ := ρ) hC hk
   exact ⟨q, q1, fun W _ => by simp [execOp, ho, e1, q2], q3⟩
  ·cases hk
 ·rename_i t x i ho
  refine ⟨fun c => by rw [ho]; simp, ?_⟩
  split at hk
  ·rename_i u v hu hv
   obtain ⟨e1, e2⟩ := h.ev hu
   obtain ⟨f1, _⟩ := h.ev hv
   obtain ⟨q, q1, q2, q3⟩ := idx_sound hC h.h hk e2
   exact ⟨q, q1, fun W hW => by simp [execOp, ho, e1, f1, q2 W hW], q3⟩
  ·cases hk
 ·rename_i t x i ho
  refine ⟨fun c => by rw [ho]; simp, ?_⟩
  split at hk
  ·rename_i u v hu hv
   obtain ⟨e1, e2⟩ := h.ev hu
   obtain ⟨f1, _⟩ := h.ev hv
   obtain ⟨q, q1, q2, q3⟩ := idxV_sound (nx := st.nx) (ρ := ρ) hC hk
   exact ⟨q, q1, fun W hW => by simp [execOp, ho, e1, f1, q2 W], q3⟩
  ·cases hk
 ·rename_i t x i ho
  refine ⟨fun c => by rw [ho]; simp, ?_⟩
  split at hk
  ·rename_i u v hu hv
   obtain ⟨e1, e2⟩ := h.ev hu
   obtain ⟨f1, _⟩ := h.ev hv
   obtain ⟨q, q1, q2, q3⟩ := mapLook_sound (n₀ := n₀) (w := w) (M₀ := M₀) (ρ := ρ) hk
   exact ⟨q, q1, fun W hW => by simp [execOp, ho, e1, f1, q2 W hW], q3⟩
  ·cases hk
 ·rename_i t parts ho
  refine ⟨fun c => by rw [ho]; simp, ?_⟩
  obtain ⟨q, q1, q2, q3⟩ := bld_sound hC h hk
  refine ⟨q, q1, fun W _ => ?_, q3⟩
  simp only [execOp, ho, Sem.run_bind]
  rw [q2]; rfl
 ·rename_i f fst cap ho
  refine ⟨fun c => by rw [ho]; simp, ?_⟩
  split at hk
  ·rename_i u v hu hv
   obtain ⟨a1, a2⟩ := atoms_spec h hu
   obtain ⟨b1, b2⟩ := atoms_spec h hv
   refine ⟨.clo f u v, ⟨a2, b2⟩, fun W _ => ?_, hk⟩
   have x1 : fst.map a.eval = (u.map (At.den ρ)).toArray := by apply Array.ext'; rw [Array.toList_map, ← a1]
   have x2 : cap.map a.eval = (v.map (At.den ρ)).toArray := by apply Array.ext'; rw [Array.toList_map, ← b1]
   simp only [execOp, ho, Instr.makeFunc, Sem.run_bind, Sem.run_pure, Result.andThen_ok, x1, x2, SV.den]
  ·cases hk
 ·rename_i x ho
  refine ⟨fun c => by rw [ho]; simp, ?_⟩
  split at hk
  ·rename_i id off hs
   obtain ⟨e1, e2⟩ := h.ev hs
   exact ⟨.box id off, e2, fun W _ => by simp [execOp, ho, e1, SV.den], hk⟩
  ·rename_i ad hs
   obtain ⟨e1, e2⟩ := h.ev hs
   exact ⟨.v (.pointer (some ad)), e2, fun W _ => by simp [execOp, ho, e1, SV.den], hk⟩
  ·cases hk
 ·rename_i t x lo hi mx ho
  refine ⟨fun c => by rw [ho]; simp, ?_⟩
  split at hk
  ·rename_i s hs
   obtain ⟨e1, e2⟩ := h.ev hs
   obtain ⟨q, q1, q2, q3⟩ := slc_sound hC h hk
   exact ⟨q, q1, fun W _ => by simp only [execOp, ho, e1, Sem.run_bind]; rw [q2]; rfl, q3⟩
  ·cases hk
 ·rename_i c ho
  refine ⟨fun c => by rw [ho]; simp, ?_⟩
  split at hk
  ·
   rename_i hc
   split at hk
   ·rename_i x t hx ht
    split at hk
    ·rename_i e z b s hl hs
     obtain ⟨e1, e2⟩ := h.ev hs
     obtain ⟨q, q1, q2, q3⟩ := lenOf_sound (ty := o.type) (n₀ := n₀) (w := w) (M₀ := M₀) (ρ := ρ) hC hk hl
     refine ⟨q, q1, fun W hW => ?_, q3⟩
     have x1 : c.args.map a.eval = #[s.den ρ] := by apply Array.ext'; rw [Array.toList_map, hx]; simp [e1]
     have x2 : c.argTypes = #[t] := by apply Array.ext'; rw [ht]
     simp only [execOp, ho, resolve, hc, x1, x2, Sem.run_bind, Sem.run_pure, Result.andThen_ok, invoke, builtin, q2 W hW]
    ·cases hk
   ·cases hk
  ·
   rename_i hc
   split at hk
   ·rename_i l hl
    obtain ⟨i1, i2⟩ := evs_spec h hl
    split at hk
    ·rename_i kk x rest hin
     obtain ⟨d1, _⟩ := intsOf_den (ρ := ρ) hin
     refine ⟨.v (.int kk (rest.foldl max x)), trivial, fun W _ => ?_, hk⟩
     have x1 : (c.args.map a.eval).toList = .int kk x :: rest.map (Value.int kk) := by rw [Array.toList_map, i1, d1]; rfl
     simp only [execOp, ho, resolve, hc, Sem.run_bind, Sem.run_pure, Result.andThen_ok, invoke, builtin, Builtin.max_]
     rw [x1]
     simp only [foldlM_max, SV.den, Result.andThen_ok]
    ·cases hk
   ·cases hk
  ·
   rename_i hc
   split at hk
   ·rename_i l hl
    obtain ⟨i1, i2⟩ := evs_spec h hl
    split at hk
    ·rename_i kk x rest hin
     obtain ⟨d1, _⟩ := intsOf_den (ρ := ρ) hin
     refine ⟨.v (.int kk (rest.foldl min x)), trivial, fun W _ => ?_, hk⟩
     have x1 : (c.args.map a.eval).toList = .int kk x :: rest.map (Value.int kk) := by rw [Array.toList_map, i1, d1]; rfl
     simp only [execOp, ho, resolve, hc, Sem.run_bind, Sem.run_pure, Result.andThen_ok, invoke, builtin, Builtin.min_]
     rw [x1]
     simp only [foldlM_min, SV.den, Result.andThen_ok]
    ·cases hk
   ·cases hk
  ·cases hk
 ·cases hk
theorem put_G (st : St) (d : Option Tmp) (s : SV) : (st.put d s).G = st.G := by cases d <;> rfl
theorem step_sound {C : VX} (hC : VXOK P C) {r : Option Nat} {n : Nat} {n₀ : Nat} {w : World} {M₀ : Mem} {ρ : Env} {st : St} {a : Act} {W : World} {o : Oper} {k : St → Prop} {Q : Exit → Act → World → Prop}
  (hk : step C P st o k) (h : Sat n₀ w M₀ ρ st a W) : o.wpIn (Fw r) n P a W (KOf n₀ w M₀ st.G k) Q := by
 have byVal : val C P st o (fun s => st.putv o.dst s k) → o.wpIn (Fw r) n P a W (KOf n₀ w M₀ st.G k) Q := fun hv => by
  obtain ⟨hd, s, q1, q2, q3⟩ := val_sound hC hv h
  obtain ⟨j1, j2⟩ := putv_elim q3 h q1
  exact op_val hd (q2 W h.h) ⟨ρ, _, j1, by rw [put_G]; exact Gh.le_refl _, j2⟩
 unfold step at hk
 split at hk
 ·rename_i t ho
  split at hk
  ·rename_i i hi
   obtain ⟨z, hz1, hz2⟩ := (hC.te _ _ hi).zeroValue W
   have hb := h.box t (i.zero.map .v) (fun s hs => by simp only [List.mem_map] at hs; obtain ⟨x, _, rfl⟩ := hs; trivial)
   have e : ((i.zero.map SV.v).map (SV.den ρ)).toArray = i.zero.toArray := by
    have : SV.den ρ ∘ SV.v = id := rfl
    simp [this]
   rw [e] at hb
   obtain ⟨j1, j2⟩ := putv_elim (addK_iff hk) hb (by simp [SV.sc, St.add])
   refine op_val (fun c => by rw [ho]; simp) ?_ ⟨_, _, j1, by rw [put_G]; exact Gh.le_refl _, j2⟩
   simp [execOp, ho, Instr.alloc, hz1, newVar, newRow, hz2, SV.den, upd_same, blkOf]
  ·cases hk
 ·rename_i t x ho
  split at hk
  ·rename_i s hs
   obtain ⟨e1, e2⟩ := h.ev hs
   split at hk
   ·rename_i cs hcs
    have hb := h.box t cs (cells_sc hcs e2)
    obtain ⟨j1, j2⟩ := putv_elim (addK_iff hk) hb (by simp [SV.sc, St.add])
    refine op_val (fun c => by rw [ho]; simp) ?_ ⟨_, _, j1, by rw [put_G]; exact Gh.le_refl _, j2⟩
    have hcd := cells_den (ρ := ρ) hcs
    generalize SV.den ρ s = sv at hcd e1
    simp [execOp, ho, Instr.box, newVar, newRow, e1, hcd, SV.den, upd_same, blkOf]
   ·cases hk
  ·cases hk
 ·rename_i t x y ho
  split at hk
  ·rename_i p v hp hv hd
   obtain ⟨e1, _⟩ := h.ev hp
   obtain ⟨f1, f2⟩ := h.ev hv
   obtain ⟨W', st', q1, q2, _, qG, q3⟩ := sto_sound hC.te h f2 hk
   refine op_skip (W' := W') (fun c => by rw [ho]; simp) (by simp only [execOp, ho, e1, f1, Sem.run_bind, q1, Result.andThen_ok, Sem.run_pure]) ?_
   rw [hd]
   exact ⟨ρ, st', q2, by rw [qG]; exact Gh.le_refl _, q3⟩
  ·cases hk
 ·rename_i t ho
  obtain ⟨v, ρ', st', s, q1, q2, q3, q4, qG, q5⟩ := mapMk_sound h hk
  obtain ⟨j1, j2⟩ := putv_elim q5 q4 q3
  refine op_val (fun c => by rw [ho]; simp) ?_ ⟨ρ', _, j1, by rw [put_G, qG]; exact Gh.le_refl _, j2⟩
  simp only [execOp, ho, Option.map_none, Sem.run_bind]
  rw [q1, q2]; rfl
 ·rename_i t m x v ho
  split at hk
  ·rename_i sm sx sv hm hx hv hd
   have e1 := (h.ev hm).1
   have e2 := (h.ev hx).1
   have e3 := (h.ev hv).1
   obtain ⟨W', st', q1, q2, qG, q3⟩ := mapSet_sound h hk
   refine op_skip (W' := W') (fun c => by rw [ho]; simp) (by simp only [execOp, ho, e1, e2, e3, Sem.run_bind, q1, Result.andThen_ok, Sem.run_pure]) ?_
   rw [hd]
   exact ⟨ρ, st', q2, by rw [qG]; exact Gh.le_refl _, q3⟩
  ·cases hk
 ·rename_i t m parts ho
  obtain ⟨st0, h0, hG0, hk⟩ := frzOps_sound h hk
  obtain ⟨v, W', ρ', st', id, q1, q2, q3, q4, qG, q5, _⟩ := bldS_sound hC h0 hk
  obtain ⟨j1, j2⟩ := putv_elim q5 q4 q3
  refine op_val (fun c => by rw [ho]; simp) ?_ ⟨ρ', _, j1, by rw [put_G, qG, hG0]; exact Gh.le_refl _, j2⟩
  simp only [execOp, ho, Sem.run_bind]
  rw [q1, q2]; rfl
 ·rename_i t parts ho
  obtain ⟨st0, h0, hG0, hk⟩ := frzOps_sound h hk
  obtain ⟨s, q1, q2, q3⟩ := bld_sound hC h0 hk
  obtain ⟨j1, j2⟩ := putv_elim q3 h0 q1
  refine op_val (fun c => by rw [ho]; simp) ?_ ⟨ρ, _, j1, by rw [put_G, hG0]; exact Gh.le_refl _, j2⟩
  simp only [execOp, ho, Sem.run_bind]
  rw [q2 W]; rfl
 ·rename_i t x hi ho
  split at hk
  ·rename_i id hx
   obtain ⟨v, ρ', st', s, q1, q2, q3, q4, qG, q5⟩ := shr_sound hC h hk
   obtain ⟨j1, j2⟩ := putv_elim q5 q4 q3
   have e1 := (h.ev hx).1
   refine op_val (fun c => by rw [ho]; simp) ?_ ⟨ρ', _, j1, by rw [put_G, qG]; exact Gh.le_refl _, j2⟩
   simp only [execOp, ho, e1, Sem.run_bind, Option.map_some, Option.map_none]
   rw [q1, q2]; rfl
  ·exact byVal hk
 ·rename_i t x lo ho
  split at hk
  ·rename_i id hx
   obtain ⟨v, ρ', st', s, q1, q2, q3, q4, qG, q5⟩ := vws_sound hC h hk
   obtain ⟨j1, j2⟩ := putv_elim q5 q4 q3
   have e1 := (h.ev hx).1
   refine op_val (fun c => by rw [ho]; simp) ?_ ⟨ρ', _, j1, by rw [put_G, qG]; exact Gh.le_refl _, j2⟩
   simp only [execOp, ho, e1, Sem.run_bind, Option.map_some, Option.map_none]
   rw [q1, q2]; rfl
  ·exact byVal hk
 ·split at hk
  ·split at hk
   ·rename_i hid
    have hsc := (h.h.own _ _ hid).2.1
    obtain ⟨st0, as', h0, _, _, hG0, hk⟩ := frzAll_sound _ h (fun s hs => hsc s (List.mem_of_mem_drop (List.mem_of_mem_take hs))) hk
    obtain ⟨hd, s, q1, q2, q3⟩ := val_sound hC hk h0
    obtain ⟨j1, j2⟩ := putv_elim q3 h0 q1
    exact op_val hd (q2 W h0.h) ⟨ρ, _, j1, by rw [put_G, hG0]; exact Gh.le_refl _, j2⟩
   ·exact byVal hk
  ·exact byVal hk
 ·rename_i c ho
  split at hk
  ·
   rename_i hc
   split at hk
   ·rename_i s x t t' hx ht
    split at hk
    ·rename_i u v hb hu hv
     have hb := Nat.eq_of_beq_eq_true hb
     subst hb
     obtain ⟨e1, e2⟩ := h.ev hu
     obtain ⟨f1, f2⟩ := h.ev hv
     obtain ⟨vv, W', ρ', st', s', q1, q2, q3, q4, qG, q5⟩ := app_sound (ty := o.type) hC h e2 hk
     obtain ⟨j1, j2⟩ := putv_elim q5 q4 q3
     refine op_val (fun c => by rw [ho]; simp) ?_ ⟨ρ', _, j1, by rw [put_G, qG]; exact Gh.le_refl _, j2⟩
     have x1 : c.args.map a.eval = #[u.den ρ, v.den ρ] := by apply Array.ext'; rw [Array.toList_map, hx]; simp [e1, f1]
     have x2 : c.argTypes = #[t, t] := by apply Array.ext'; rw [ht]
     simp only [execOp, ho, resolve, hc, x1, x2, Sem.run_bind, Sem.run_pure, Result.andThen_ok, invoke, builtin, q1, q2]
    ·cases hk
   ·cases hk
  ·
   rename_i hc
   split at hk
   ·rename_i s t hx ht
    split at hk
    ·rename_i id hs
     have e1 := (h.ev hs).1
     obtain ⟨W', st', q1, q2, qG, q3⟩ := clr_sound (ty := o.type) hC h hk
     obtain ⟨j1, j2⟩ := putv_elim q3 q2 (s := .v (.tuple #[])) trivial
     refine op_val (fun c => by rw [ho]; simp) ?_ ⟨ρ, _, j1, by rw [put_G, qG]; exact Gh.le_refl _, j2⟩
     have x1 : c.args.map a.eval = #[(SV.row id).den ρ] := by apply Array.ext'; rw [Array.toList_map, hx]; simp [e1]
     have x2 : c.argTypes = #[t] := by apply Array.ext'; rw [ht]
     simp only [execOp, ho, resolve, hc, x1, x2, Sem.run_bind, Sem.run_pure, Result.andThen_ok, invoke, builtin, q1]
     rfl
    ·cases hk
   ·cases hk
  ·
   rename_i f hc
   split at hk
   ·rename_i sf args hf ha
    split at hk
    ·rename_i g as hg
     exact op_call ho hc h hf ha hg hk
    ·cases hk
   ·cases hk
  ·exact byVal hk
 ·exact byVal hk
end Go.V
namespace Go.V
open Go Go.RowKit
variable {P : Program}
def bindsOn (o : Oper) : List Nat := o.after.toList.filterMap fun e => if Region.binds .any e then some e.on else none
def tabStep (tab : List Nat) (o : Oper) : Nat := (bindsOn o).foldl (fun m k => m ||| (1 <<< k) ||| tab.getD k 0) 0
def tabOf (ops : List Oper) : List Nat := ops.foldl (fun tab o => tab ++ [tabStep tab o]) []
def tabOK (ops : List Oper) (tab : List Nat) : Bool :=
 (List.range ops.length).all fun i => match ops[i]? with
  | none => true
  | some o => (bindsOn o).all (fun k => Nat.blt k i) && Nat.beq (tab.getD i 0) ((bindsOn o).foldl (fun m k => m ||| (1 <<< k) ||| tab.getD k 0) 0)
def anc (tab : List Nat) (i p : Nat) : Bool := (tab.getD i 0).testBit p
theorem fold_bit (tab : List Nat) (p : Nat) : ∀ (l : List Nat) (m : Nat), (l.foldl (fun m k => m ||| (1 <<< k) ||| tab.getD k 0) m).testBit p = true → m.testBit p = true ∨ ∃ k ∈ l, k = p ∨ (tab.getD k 0).testBit p = true
 | [], m, h => .inl h
 | k :: l, m, h => by
  rcases fold_bit tab p l _ h with h1 | ⟨k', hk', h1⟩
  ·rw [Nat.testBit_or, Nat.testBit_or] at h1
   simp only [Bool.or_eq_true] at h1
   rcases h1 with (h1 | h1) | h1
   ·exact .inl h1
   ·refine .inr ⟨k, List.mem_cons_self, .inl ?_⟩
    simp only [Nat.shiftLeft_eq, Nat.one_mul, Nat.testBit_two_pow] at h1
    simpa using h1
   ·exact .inr ⟨k, List.mem_cons_self, .inr h1⟩
  ·exact .inr ⟨k', List.mem_cons_of_mem _ hk', h1⟩
theorem anc_spec {ops : List Oper} {tab : List Nat} (h : tabOK ops tab = true) {i p : Nat} {o : Oper} (ho : ops[i]? = some o) (ha : anc tab i p = true) : ∃ k ∈ bindsOn o, k < i ∧ (k = p ∨ anc tab k p = true) := by
 have hi : i < ops.length := (List.getElem?_eq_some_iff.1 ho).1
 simp only [tabOK, List.all_eq_true, List.mem_range] at h
 have h1 := h i hi
 rw [ho] at h1
 simp only [Bool.and_eq_true, List.all_eq_true] at h1
 obtain ⟨h2, h3⟩ := h1
 have h3 := Nat.eq_of_beq_eq_true h3
 unfold anc at ha
 rw [h3] at ha
 rcases fold_bit tab p _ _ ha with h4 | ⟨k, hk, h4⟩
 ·simp at h4
 ·exact ⟨k, hk, Nat.le_of_ble_eq_true (h2 k hk), h4⟩
def plainOp (o : Oper) : Bool := match o.op with | .defer _ => false | .select _ _ => false | _ => true
def dstNe (o o' : Oper) : Bool := match o.dst, o'.dst with | some d, some d' => !Nat.beq d d' | _, _ => true
def dstIn (l : List Nat) (o : Oper) : Bool := match o.dst with | some d => l.any (Nat.beq d) | none => false
def pairOK (ops : Array Oper) (tab : List Nat) (p q : Nat × Nat) : Bool :=
 match ops[p.1]?, ops[q.1]? with
 | some o, some o' => dstNe o o' && (anc tab q.1 p.1 || (Nat.beq p.2 0 && Nat.ble q.2 1 && !dstIn (o'.looksAt ops) o && !dstIn (o.looksAt ops) o'))
 | _, _ => false
def pairsOK (ops : Array Oper) (tab : List Nat) : List (Nat × Nat) → Bool
 | [] => true
 | p :: r => r.all (fun q => pairOK ops tab p q) && pairsOK ops tab r
def topOK (ops : Array Oper) : List Nat → List (Nat × Nat) → Bool
 | _, [] => true
 | pre, (i, _) :: r => (match ops[i]? with | some o => plainOp o && (bindsOn o).all (fun k => pre.any (Nat.beq k)) | none => false) && !pre.any (Nat.beq i) && topOK ops (i :: pre) r
def drawOK (ops : Array Oper) (ord : List (Nat × Nat)) (tab : List Nat) : Bool :=
 tabOK ops.toList tab && pairsOK ops tab ord && topOK ops [] ord && (List.range ops.size).all fun i => ord.any fun p => Nat.beq i p.1
def Yv (P : Program) (ops : Array Oper) (o : Oper) (b : Act) (v : Value) (W : World) : Prop :=
 (Region.wanted o (yielded ops b.tmps) = true ∧ (execOp b.eval o).run P W = .ok (.value v) W) ∨ (Region.wanted o (yielded ops b.tmps) = false ∧ v = undef)
structure WR where
 r : World → World → Prop
 refl : ∀ w, r w w
 trans : ∀ a b c, r a b → r b c → r a c
def WR.below : WR := ⟨fun w W => Below w.heap.size w W, fun w => Below.refl _ w, fun _ _ _ h k => h.trans (k.mono h.size)⟩
def WR.keep (G : World → Prop) : WR := ⟨fun w W => G w → G W, fun _ h => h, fun _ _ _ h k x => k (h x)⟩
def eag (R : WR) (F : Fence) (n : Nat) (P : Program) (ops : Array Oper) (Q : Exit → Act → World → Prop) : List (Nat × Nat) → Act → World → Prop
 | [], a, w => Q .normal a w
 | (i, m) :: rest, a, w => ∃ o, ops[i]? = some o ∧ match m with
  | 0 => ∃ v, (∀ W, R.r w W → Yv P ops o a v W) ∧ (∀ W f, R.r w W → o.about P W a.eval = some f → F.fn f) ∧ eag R F n P ops Q rest (a.put o.dst v) w
  | 1 => wpOpIn F n P ops Q i (fun a' w' => R.r w w' ∧ eag R F n P ops Q rest a' w') a w
  | _ => wpOpIn F n P ops Q i (eag R F n P ops Q rest) a w
def Sees (ops : Array Oper) (o : Oper) (a b : Act) : Prop := ∀ d ∈ o.looksAt ops, a.tmps[d]? = b.tmps[d]?
theorem Sees.eval {ops : Array Oper} {o : Oper} {a b : Act} (h : Sees ops o a b) : ∀ x ∈ o.op.operands, a.eval x = b.eval x := by
 intro x hx
 cases x with
 | tmp t =>
  have : t ∈ o.looksAt ops := List.mem_append_left _ (List.mem_filterMap.2 ⟨.tmp t, by simpa using hx, rfl⟩)
  simp only [Act.eval, Array.getD_eq_getD_getElem?, h t this]
 | _ => rfl
theorem Sees.wanted {ops : Array Oper} {o : Oper} {a b : Act} (h : Sees ops o a b) : Region.wanted o (yielded ops a.tmps) = Region.wanted o (yielded ops b.tmps) := by
 unfold Region.wanted
 cases hg : o.guard with
 | none => rfl
 | some g =>
  obtain ⟨j, want⟩ := g
  simp only
  have : yielded ops a.tmps j = yielded ops b.tmps j := by
   unfold yielded
   cases hd : (ops[j]?).bind (·.dst) with
   | none => rfl
   | some d =>
    have hm : d ∈ o.looksAt ops := List.mem_append_right _ (by rw [hg]; simp [hd])
    simp only [Option.bind_some, h d hm]
  rw [this]
theorem Sees.exec {ops : Array Oper} {o : Oper} {a b : Act} (h : Sees ops o a b) (hp : plainOp o = true) : execOp a.eval o = execOp b.eval o :=
 execOp_congr o (fun cs bb he => by unfold plainOp at hp; rw [he] at hp; cases hp) h.eval
theorem Sees.about {ops : Array Oper} {o : Oper} {a b : Act} (h : Sees ops o a b) (W : World) : o.about P W a.eval = o.about P W b.eval := about_congr o W h.eval
theorem plain_defer {o : Oper} (hp : plainOp o = true) : ∀ c, o.op ≠ .defer c := fun c he => by unfold plainOp at hp; rw [he] at hp; cases hp
theorem op_move {F : Fence} {n : Nat} {ops : Array Oper} {o : Oper} {a b : Act} {w : World} {K K' : Act → World → Prop} {Q : Exit → Act → World → Prop} {i : Nat} (ho : ops[i]? = some o) (hp : plainOp o = true) (hs : Sees ops o a b) (hd : a.defers = b.defers) (hQ : ∀ c a w, ¬ Q (.panic c) a w)
  (h : wpOpIn F n P ops Q i K b w) (hK : ∀ v w' ds, K ({ b with defers := ds }.put o.dst v) w' → K' ({ a with defers := ds }.put o.dst v) w') : wpOpIn F n P ops Q i K' a w := by
 have hK0 : ∀ v w', K (b.put o.dst v) w' → K' (a.put o.dst v) w' := fun v w' hk => by
  have := hK v w' b.defers hk
  rw [← hd] at this
  exact this
 unfold wpOpIn at h ⊢
 simp only [ho] at h ⊢
 rw [hs.wanted]
 split
 ·rename_i hw
  rw [if_pos hw] at h
  unfold Oper.wpIn at h ⊢
  rw [hs.about]
  refine ⟨h.1, ?_⟩
  have h2 := h.2
  rw [Oper.semAt_plain _ _ _ (plain_defer hp)] at h2 ⊢
  rw [hs.exec hp]
  generalize hres : (execOp b.eval o).run P w = res at h2
  unfold Oper.uponIn at h2 ⊢
  split at h2
  ·exact hK0 _ _ h2
  ·exact hK0 _ _ h2
  ·rw [hd]; exact hK _ _ _ h2
  ·refine ⟨h2.1, h2.2.mono ?_⟩
   intro e W' he
   cases e with
   | returned v => exact hK0 _ _ he
   | panicked => exact absurd he (hQ _ _ _)
   | outgrown => exact he
  ·refine ⟨h2.1, h2.2.mono ?_⟩
   intro v W' he
   exact hK0 _ _ he
  ·refine ⟨h2.1, h2.2.mono ?_⟩
   intro e W' he
   cases e with
   | returned v => exact hK0 _ _ he
   | panicked => exact absurd he (hQ _ _ _)
   | outgrown => exact he
  ·exact absurd h2 (hQ _ _ _)
  ·exact h2.elim
 ·rename_i hw
  rw [if_neg hw] at h
  rw [hs.about]
  exact ⟨h.1, hK0 _ _ h.2⟩
theorem dstIn_spec {l : List Nat} {o : Oper} (h : dstIn l o = false) {d : Nat} (hd : o.dst = some d) : d ∉ l := by
 intro hm
 simp only [dstIn, hd] at h
 have : l.any (Nat.beq d) = true := List.any_eq_true.2 ⟨d, hm, Nat.beq_refl d⟩
 rw [this] at h; cases h
theorem pair_spec {ops : Array Oper} {tab : List Nat} {p q : Nat × Nat} {o o' : Oper} (ho : ops[p.1]? = some o) (ho' : ops[q.1]? = some o') (h : pairOK ops tab p q = true) :
  (∀ d, o.dst = some d → o'.dst ≠ some d) ∧ (anc tab q.1 p.1 = false → p.2 = 0 ∧ q.2 ≤ 1 ∧ (∀ d, o.dst = some d → d ∉ o'.looksAt ops) ∧ ∀ d, o'.dst = some d → d ∉ o.looksAt ops) := by
 simp only [pairOK, ho, ho', Bool.and_eq_true, Bool.or_eq_true] at h
 obtain ⟨h1, h2⟩ := h
 refine ⟨fun d hd hd' => ?_, fun ha => ?_⟩
 ·simp only [dstNe, hd, hd', Nat.beq_refl] at h1
  cases h1
 ·rcases h2 with h2 | ⟨⟨⟨h3, h4⟩, h5⟩, h6⟩
  ·rw [ha] at h2; cases h2
  ·refine ⟨Nat.eq_of_beq_eq_true h3, Nat.le_of_ble_eq_true h4, fun d hd => dstIn_spec (by simpa using h5) hd, fun d hd => dstIn_spec (by simpa using h6) hd⟩
theorem pairs_spec {ops : Array Oper} {tab : List Nat} : ∀ {pre rest : List (Nat × Nat)}, pairsOK ops tab (pre ++ rest) = true → ∀ p ∈ pre, ∀ q ∈ rest, pairOK ops tab p q = true
 | [], _, _, p, hp, _, _ => by cases hp
 | x :: pre, rest, h, p, hp, q, hq => by
  simp only [List.cons_append, pairsOK, Bool.and_eq_true, List.all_eq_true] at h
  rcases List.mem_cons.1 hp with rfl | hp
  ·exact h.1 q (List.mem_append_right _ hq)
  ·exact pairs_spec h.2 p hp q hq
theorem top_spec {ops : Array Oper} {us : List Nat} {Ls : Nat → Prop} : ∀ {ord : List (Nat × Nat)} {pre : List Nat}, topOK ops pre ord = true → (∀ k ∈ pre, Ls k) → (∀ q ∈ ord, q.1 ∈ us ∨ Ls q.1) → (∃ q ∈ ord, q.1 ∈ us) → ∃ i ∈ us, ∃ o, ops[i]? = some o ∧ ∀ k ∈ bindsOn o, Ls k
 | [], _, _, _, _, ⟨q, hq, _⟩ => by cases hq
 | (i, m) :: r, pre, h, hpre, hall, ⟨q, hq, hu⟩ => by
  simp only [topOK, Bool.and_eq_true] at h
  obtain ⟨⟨h1, _⟩, h3⟩ := h
  split at h1
  ·rename_i o ho
   simp only [Bool.and_eq_true, List.all_eq_true, List.any_eq_true] at h1
   by_cases hi : i ∈ us
   ·refine ⟨i, hi, o, ho, fun k hk => ?_⟩
    obtain ⟨k', hk', hkk⟩ := h1.2 k hk
    have := Nat.eq_of_beq_eq_true hkk
    subst this
    exact hpre _ hk'
   ·refine top_spec h3 (fun k hk => ?_) (fun q' hq' => hall q' (List.mem_cons_of_mem _ hq')) ?_
    ·rcases List.mem_cons.1 hk with rfl | hk
     ·exact (hall (k, m) List.mem_cons_self).resolve_left hi
     ·exact hpre k hk
    ·rcases List.mem_cons.1 hq with rfl | hq
     ·exact absurd hu hi
     ·exact ⟨q, hq, hu⟩
  ·cases h1
theorem top_plain {ops : Array Oper} : ∀ {ord : List (Nat × Nat)} {pre : List Nat}, topOK ops pre ord = true → ∀ q ∈ ord, ∃ o, ops[q.1]? = some o ∧ plainOp o = true
 | [], _, _, q, hq => by cases hq
 | (i, m) :: r, pre, h, q, hq => by
  simp only [topOK, Bool.and_eq_true] at h
  obtain ⟨⟨h1, _⟩, h3⟩ := h
  rcases List.mem_cons.1 hq with rfl | hq
  ·split at h1
   ·rename_i o ho
    simp only [Bool.and_eq_true] at h1
    exact ⟨o, ho, h1.1⟩
   ·cases h1
  ·exact top_plain h3 q hq
theorem anc_done {ops : Array Oper} {tab : List Nat} (hok : tabOK ops.toList tab = true) {Ls : Nat → Prop} (hcl : ∀ i o, ops[i]? = some o → Ls i → ∀ k ∈ bindsOn o, Ls k) : ∀ (i p : Nat) (o : Oper), ops[i]? = some o → (∀ k ∈ bindsOn o, Ls k) → anc tab i p = true → (∀ k, Ls k → k < ops.size) → Ls p := by
 intro i
 induction i using Nat.strongRecOn with
 | _ i ih =>
  intro p o ho hk ha hlt
  obtain ⟨k, hkm, hki, hc⟩ := anc_spec hok (by simpa using ho) ha
  have hLk := hk k hkm
  rcases hc with rfl | hc
  ·exact hLk
  ·have hks := hlt k hLk
   have hok' : ops[k]? = some ops[k] := Array.getElem?_eq_getElem hks
   exact ih k hki p _ hok' (hcl k _ hok' hLk) hc hlt
structure PE where
 i : Nat
 o : Oper
 v : Value
 b : Act
 w0 : World
structure PEOK (R : WR) (F : Fence) (P : Program) (ops : Array Oper) (tab : List Nat) (a la : Act) (w : World) (e : PE) (l : List PE) : Prop where
 ho : ops[e.i]? = some e.o
 yv : ∀ W, R.r e.w0 W → Yv P ops e.o e.b e.v W
 ab : ∀ W f, R.r e.w0 W → e.o.about P W e.b.eval = some f → F.fn f
 bel : R.r e.w0 w
 val : ∀ d, e.o.dst = some d → la.tmps[d]? = if d < la.tmps.size then some e.v else none
 see : ∀ d ∈ e.o.looksAt ops, (∃ p ∈ l, p.o.dst = some d ∧ e.b.tmps[d]? = la.tmps[d]?) ∨ ((∀ p ∈ l, p.o.dst ≠ some d) ∧ e.b.tmps[d]? = a.tmps[d]?)
 pair : ∀ p ∈ l, pairOK ops tab (p.i, 0) (e.i, 0) = true
def PInv (R : WR) (F : Fence) (P : Program) (ops : Array Oper) (tab : List Nat) (a la : Act) (w : World) : List PE → Prop
 | [] => True
 | e :: l => PEOK R F P ops tab a la w e l ∧ PInv R F P ops tab a la w l
section
variable {R : WR} {F : Fence} {ops : Array Oper} {tab : List Nat} {a la : Act} {w : World}
theorem PInv.ho {l : List PE} (h : PInv R F P ops tab a la w l) : ∀ p ∈ l, ops[p.i]? = some p.o := by
 induction l with
 | nil => intro p hp; cases hp
 | cons e l ih =>
  intro p hp
  rcases List.mem_cons.1 hp with rfl | hp
  ·exact h.1.ho
  ·exact ih h.2 p hp
theorem PInv.val {l : List PE} (h : PInv R F P ops tab a la w l) : ∀ p ∈ l, ∀ d, p.o.dst = some d → la.tmps[d]? = if d < la.tmps.size then some p.v else none := by
 induction l with
 | nil => intro p hp; cases hp
 | cons e l ih =>
  intro p hp
  rcases List.mem_cons.1 hp with rfl | hp
  ·exact h.1.val
  ·exact ih h.2 p hp
theorem PInv.step {a' la' : Act} {w' : World} (hsz : la'.tmps.size = la.tmps.size) {l : List PE} (h : PInv R F P ops tab a la w l) (h1 : ∀ p ∈ l, ∀ d, p.o.dst = some d → la'.tmps[d]? = la.tmps[d]?) (h2 : ∀ p ∈ l, ∀ d ∈ p.o.looksAt ops, a'.tmps[d]? = a.tmps[d]?)
  (hb : R.r w w') : PInv R F P ops tab a' la' w' l := by
 induction l with
 | nil => trivial
 | cons e l ih =>
  obtain ⟨h, hl⟩ := h
  refine ⟨⟨h.ho, h.yv, h.ab, R.trans _ _ _ h.bel hb, fun d hd => ?_, fun d hd => ?_, h.pair⟩, ih hl (fun p hp => h1 p (List.mem_cons_of_mem _ hp)) (fun p hp => h2 p (List.mem_cons_of_mem _ hp))⟩
  ·rw [h1 e List.mem_cons_self d hd, hsz]; exact h.val d hd
  ·rcases h.see d hd with ⟨p, hp, hpd, hpe⟩ | ⟨h3, h4⟩
   ·exact .inl ⟨p, hp, hpd, by rw [h1 p (List.mem_cons_of_mem _ hp) d hpd]; exact hpe⟩
   ·exact .inr ⟨h3, by rw [h2 e List.mem_cons_self d hd]; exact h4⟩
theorem put_get (a : Act) (d : Nat) (v : Value) (e : Nat) : (a.put (some d) v).tmps[e]? = if d = e then (if d < a.tmps.size then some v else none) else a.tmps[e]? := by
 simp only [Act.put]
 by_cases h : d = e
 ·subst h
  rw [if_pos rfl]
  simp only [Array.getElem?_setIfInBounds, if_true]
 ·rw [if_neg h, Array.getElem?_setIfInBounds_ne h]
theorem PInv.dsts {l : List PE} (h : PInv R F P ops tab a la w l) {d : Nat} : ∀ x ∈ l, ∀ y ∈ l, x.i ≠ y.i → x.o.dst = some d → y.o.dst ≠ some d := by
 induction l with
 | nil => intro x hx; cases hx
 | cons z l ih =>
  intro x hx y hy hxy hxd hyd
  rcases List.mem_cons.1 hx with rfl | hx'
  ·rcases List.mem_cons.1 hy with rfl | hy'
   ·exact hxy rfl
   ·exact (pair_spec (p := (y.i, 0)) (q := (x.i, 0)) (h.2.ho y hy') h.1.ho (h.1.pair y hy')).1 d hyd hxd
  ·rcases List.mem_cons.1 hy with rfl | hy'
   ·exact (pair_spec (p := (x.i, 0)) (q := (y.i, 0)) (h.2.ho x hx') h.1.ho (h.1.pair x hx')).1 d hxd hyd
   ·exact ih h.2 x hx' y hy' hxy hxd hyd
theorem PInv.exec {j : PE} (hjo : ops[j.i]? = some j.o) (hsz : a.tmps.size = la.tmps.size) (hjv : ∀ d, j.o.dst = some d → la.tmps[d]? = if d < la.tmps.size then some j.v else none) {l : List PE} (hP : PInv R F P ops tab a la w l) (hna : ∀ p ∈ l, p.i ≠ j.i → anc tab j.i p.i = false) (hnd : (l.map PE.i).Nodup)
  (hj : j ∈ l ∨ ∀ e ∈ l, e.i ≠ j.i ∧ pairOK ops tab (e.i, 0) (j.i, 0) = true) : PInv R F P ops tab (a.put j.o.dst j.v) la w (l.filter fun p => !Nat.beq p.i j.i) := by
 induction l with
 | nil => trivial
 | cons e l ih =>
  obtain ⟨h, hl⟩ := hP
  have hnd' := List.nodup_cons.1 hnd
  have hna' := fun p (hp : p ∈ l) => hna p (List.mem_cons_of_mem _ hp)
  by_cases hej : e.i = j.i
  ·
   have hbe : Nat.beq e.i j.i = true := by rw [hej]; exact Nat.beq_refl _
   simp only [List.filter_cons, hbe, Bool.not_true, Bool.false_eq_true, if_false]
   refine ih hl hna' hnd'.2 (.inr fun p hp => ⟨fun hpe => hnd'.1 ?_, ?_⟩)
   ·rw [hej, ← hpe]; exact List.mem_map.2 ⟨p, hp, rfl⟩
   ·have := h.pair p hp
    rw [hej] at this; exact this
  ·have hbe : Nat.beq e.i j.i = false := by
    cases hb : Nat.beq e.i j.i with
    | false => rfl
    | true => exact absurd (Nat.eq_of_beq_eq_true hb) hej
   simp only [List.filter_cons, hbe, Bool.not_false, if_true]
   have hj' : j ∈ l ∨ ∀ e ∈ l, e.i ≠ j.i ∧ pairOK ops tab (e.i, 0) (j.i, 0) = true := by
    rcases hj with hj | hj
    ·rcases List.mem_cons.1 hj with rfl | hj
     ·exact absurd rfl hej
     ·exact .inl hj
    ·exact .inr fun p hp => hj p (List.mem_cons_of_mem _ hp)
   refine ⟨⟨h.ho, h.yv, h.ab, h.bel, h.val, fun d hd => ?_, fun p hp => h.pair p (List.mem_filter.1 hp).1⟩, ih hl hna' hnd'.2 hj'⟩
   have hmem : ∀ p ∈ l, p.i ≠ j.i → p ∈ l.filter fun p => !Nat.beq p.i j.i := fun p hp hne => List.mem_filter.2 ⟨hp, by
    cases hb : Nat.beq p.i j.i with
    | false => rfl
    | true => exact absurd (Nat.eq_of_beq_eq_true hb) hne⟩
   -- j's slot, if e looks at it
   have hold : ∀ d, (∀ dj, j.o.dst = some dj → dj ≠ d) → (a.put j.o.dst j.v).tmps[d]? = a.tmps[d]? := fun d hdj => by
    cases hjd : j.o.dst with
    | none => rfl
    | some dj => rw [put_get, if_neg (hdj dj hjd)]
   rcases h.see d hd with ⟨p, hp, hpd, hpe⟩ | ⟨h3, h4⟩
   ·by_cases hpj : p.i = j.i
    ·
     have hpo : p.o = j.o := by
      have := PInv.ho hl p hp
      rw [hpj, hjo] at this
      exact (Option.some.inj this).symm
     refine .inr ⟨fun q hq hqd => ?_, ?_⟩
     ·obtain ⟨hq1, hq2⟩ := List.mem_filter.1 hq
      have hqj : q.i ≠ j.i := fun e' => by rw [e', Nat.beq_refl] at hq2; cases hq2
      exact PInv.dsts hl p hp q hq1 (fun e' => hqj (by rw [← e', hpj])) hpd hqd
     ·rw [hpe, hjv d (by rw [← hpo]; exact hpd)]
      rw [show j.o.dst = some d by rw [← hpo]; exact hpd, put_get, if_pos rfl, hsz]
    ·exact .inl ⟨p, hmem p hp hpj, hpd, hpe⟩
   ·refine .inr ⟨fun p hp => h3 p (List.mem_filter.1 hp).1, ?_⟩
    rw [hold d ?_]
    ·exact h4
    ·intro dj hdj hdd
     subst hdd
     rcases hj' with hjl | hall
     ·exact h3 j hjl hdj
     ·rcases hj with hj | hj
      ·rcases List.mem_cons.1 hj with rfl | hj
       ·exact hej rfl
       ·exact h3 j hj hdj
      ·have hp := pair_spec (p := (e.i, 0)) (q := (j.i, 0)) h.ho hjo (hj e List.mem_cons_self).2
       exact (hp.2 (hna e List.mem_cons_self hej)).2.2.2 dj hdj hd
end
end Go.V
namespace Go.V
open Go Go.RowKit
variable {P : Program}
theorem ready_iff {ops : Array Oper} {listed : Array Bool} {i : Nat} : i ∈ Region.ready .any ops listed ↔ i < ops.size ∧ listed.getD i true = false ∧ ∃ o, ops[i]? = some o ∧ ∀ k ∈ bindsOn o, listed.getD k false = true := by
 unfold Region.ready
 simp only [List.mem_filter, List.mem_range, Bool.and_eq_true, Bool.not_eq_true']
 constructor
 ·rintro ⟨h1, h2, h3⟩
  refine ⟨h1, h2, ops[i], Array.getElem?_eq_getElem h1, fun k hk => ?_⟩
  rw [Array.getElem?_eq_getElem h1] at h3
  simp only [Option.map_some, Option.getD_some, Array.all_eq_true', Bool.or_eq_true, Bool.not_eq_true'] at h3
  simp only [bindsOn, List.mem_filterMap] at hk
  obtain ⟨e, he, hke⟩ := hk
  split at hke
  ·rename_i hb
   cases hke
   rcases h3 e (by simpa using he) with h4 | h4
   ·rw [hb] at h4; cases h4
   ·exact h4
  ·cases hke
 ·rintro ⟨h1, h2, o, ho, h3⟩
  refine ⟨h1, h2, ?_⟩
  rw [ho]
  simp only [Option.map_some, Option.getD_some, Array.all_eq_true', Bool.or_eq_true, Bool.not_eq_true']
  intro e he
  by_cases hb : Region.binds .any e = true
  ·exact .inr (h3 e.on (List.mem_filterMap.2 ⟨e, by simpa using he, by rw [if_pos hb]⟩))
  ·exact .inl (by simpa using hb)
structure Way (R : WR) (F : Fence) (n : Nat) (P : Program) (ops : Array Oper) (Q : Exit → Act → World → Prop) (ord : List (Nat × Nat)) (tab : List Nat) (us : List Nat) (listed : Array Bool) (a la : Act) (w : World) (pend : List PE) (pre rest : List (Nat × Nat)) : Prop where
 und : us.Nodup
 size : listed.size = ops.size
 uiff : ∀ i, i < ops.size → (listed.getD i true = false ↔ i ∈ us)
 ult : ∀ i ∈ us, i < ops.size
 ord : ord = pre ++ rest
 cover : ∀ i ∈ us, (∃ m, (i, m) ∈ rest) ∨ ∃ p ∈ pend, p.i = i
 runl : ∀ q ∈ rest, q.1 ∈ us
 punl : ∀ p ∈ pend, p.i ∈ us ∧ (p.i, 0) ∈ pre
 pnd : (pend.map PE.i).Nodup
 closed : ∀ i o, ops[i]? = some o → listed.getD i false = true → ∀ k ∈ bindsOn o, listed.getD k false = true
 defers : a.defers = la.defers
 tsize : a.tmps.size = la.tmps.size
 agree : ∀ d, (∀ p ∈ pend, p.o.dst ≠ some d) → a.tmps[d]? = la.tmps[d]?
 inv : PInv R F P ops tab a la w pend
 rest : eag R F n P ops Q rest la w
theorem getD_set {listed : Array Bool} {i k : Nat} {dflt : Bool} (hi : i < listed.size) : (listed.setIfInBounds i true).getD k dflt = if i = k then true else listed.getD k dflt := by
 simp only [Array.getD_eq_getD_getElem?, Array.getElem?_setIfInBounds]
 by_cases h : i = k
 ·subst h; simp [hi]
 ·simp [h]
theorem drawOK_spec {ops : Array Oper} {ord : List (Nat × Nat)} {tab : List Nat} (h : drawOK ops ord tab = true) : tabOK ops.toList tab = true ∧ pairsOK ops tab ord = true ∧ topOK ops [] ord = true ∧ ∀ i, i < ops.size → ∃ q ∈ ord, q.1 = i := by
 simp only [drawOK, Bool.and_eq_true, List.all_eq_true, List.mem_range, List.any_eq_true] at h
 obtain ⟨⟨⟨h1, h2⟩, h3⟩, h4⟩ := h
 refine ⟨h1, h2, h3, fun i hi => ?_⟩
 obtain ⟨q, hq, hb⟩ := h4 i hi
 exact ⟨q, hq, (Nat.eq_of_beq_eq_true hb).symm⟩
theorem top_nodup {ops : Array Oper} {rest : List (Nat × Nat)} : ∀ {l : List (Nat × Nat)} {pre : List Nat}, topOK ops pre (l ++ rest) = true → (∀ q ∈ rest, ∀ k ∈ pre, q.1 ≠ k) ∧ ∀ p ∈ l, ∀ q ∈ rest, q.1 ≠ p.1 := by
 have key : ∀ {l : List (Nat × Nat)} {pre : List Nat}, topOK ops pre l = true → ∀ q ∈ l, ∀ k ∈ pre, q.1 ≠ k := by
  intro l
  induction l with
  | nil => intro pre _ q hq; cases hq
  | cons x l ih =>
   obtain ⟨i, m⟩ := x
   intro pre h q hq k hk he
   simp only [topOK, Bool.and_eq_true, Bool.not_eq_true'] at h
   obtain ⟨⟨_, h2⟩, h3⟩ := h
   rcases List.mem_cons.1 hq with rfl | hq
   ·have : pre.any (Nat.beq i) = true := List.any_eq_true.2 ⟨k, hk, by rw [← he]; exact Nat.beq_refl _⟩
    rw [this] at h2; cases h2
   ·exact ih h3 q hq k (List.mem_cons_of_mem _ hk) he
 intro l
 induction l with
 | nil => intro pre h; exact ⟨fun q hq => key h q hq, fun p hp => by cases hp⟩
 | cons x l ih =>
  obtain ⟨i, m⟩ := x
  intro pre h
  refine ⟨fun q hq => key h q (List.mem_append_right _ hq), ?_⟩
  simp only [List.cons_append, topOK, Bool.and_eq_true] at h
  have h3 := ih h.2
  intro p hp q hq
  rcases List.mem_cons.1 hp with rfl | hp
  ·exact h3.1 q hq i List.mem_cons_self
  ·exact h3.2 p hp q hq
theorem PInv.get {R : WR} {F : Fence} {ops : Array Oper} {tab : List Nat} {a la : Act} {w : World} {l : List PE} (h : PInv R F P ops tab a la w l) : ∀ p ∈ l, ∃ l', PEOK R F P ops tab a la w p l' ∧ ∀ q ∈ l', q ∈ l := by
 induction l with
 | nil => intro p hp; cases hp
 | cons e l ih =>
  intro p hp
  rcases List.mem_cons.1 hp with rfl | hp
  ·exact ⟨l, h.1, fun q hq => List.mem_cons_of_mem _ hq⟩
  ·obtain ⟨l', h1, h2⟩ := ih h.2 p hp
   exact ⟨l', h1, fun q hq => List.mem_cons_of_mem _ (h2 q hq)⟩
theorem put_defers (a : Act) (d : Option Tmp) (v : Value) : (a.put d v).defers = a.defers := by cases d <;> rfl
theorem put_size (a : Act) (d : Option Tmp) (v : Value) : (a.put d v).tmps.size = a.tmps.size := by cases d <;> simp [Act.put]
theorem put_other (a : Act) {d : Option Tmp} (v : Value) {e : Nat} (h : d ≠ some e) : (a.put d v).tmps[e]? = a.tmps[e]? := by
 cases d with
 | none => rfl
 | some d => rw [put_get, if_neg (fun x => h (by rw [x]))]
theorem getD_tf {listed : Array Bool} {i : Nat} (hi : i < listed.size) : listed.getD i true = listed.getD i false := by
 simp [Array.getD, hi]
theorem getD_lt {listed : Array Bool} {i : Nat} (h : listed.getD i false = true) : i < listed.size := by
 rcases Nat.lt_or_ge i listed.size with h1 | h1
 ·exact h1
 ·simp [Array.getD, Nat.not_lt.2 h1] at h
theorem way_any {R : WR} {F : Fence} {n : Nat} {ops : Array Oper} {Q : Exit → Act → World → Prop} {ord : List (Nat × Nat)} {tab : List Nat} (hok : drawOK ops ord tab = true) (hQ : ∀ c a w, ¬ Q (.panic c) a w) :
  ∀ (fuel : Nat) {us : List Nat} {listed : Array Bool} {a la : Act} {w : World} {pend : List PE} {pre rest : List (Nat × Nat)}, us.length = fuel → Way R F n P ops Q ord tab us listed a la w pend pre rest → wpAnyIn F n P .any ops Q fuel listed a w := by
 obtain ⟨htab, hpairs, htop, hcov⟩ := drawOK_spec hok
 -- the end
 have fin : ∀ {listed : Array Bool} {a la : Act} {w : World} {pend : List PE} {pre rest : List (Nat × Nat)}, Way R F n P ops Q ord tab [] listed a la w pend pre rest → Q .normal a w := by
  intro listed a la w pend pre rest h
  have hp : pend = [] := by
   cases pend with
   | nil => rfl
   | cons p l => have := (h.punl p List.mem_cons_self).1; cases this
  have hr : rest = [] := by
   cases rest with
   | nil => rfl
   | cons q l => have := h.runl q List.mem_cons_self; cases this
  subst hp; subst hr
  have hal : a = la := by
   have h1 := h.defers
   have h2 : a.tmps = la.tmps := Array.ext_getElem? (fun d => h.agree d (fun p hp => by cases hp))
   cases a; cases la
   simp only at h1 h2
   subst h1; subst h2; rfl
  rw [hal]; exact h.rest
 -- something can come up
 have some_ready : ∀ {us : List Nat} {listed : Array Bool} {a la : Act} {w : World} {pend : List PE} {pre rest : List (Nat × Nat)}, Way R F n P ops Q ord tab us listed a la w pend pre rest → Region.ready .any ops listed = [] → us = [] := by
  intro us listed a la w pend pre rest h hr
  cases hus : us with
  | nil => rfl
  | cons i0 us' =>
   exfalso
   have hi0 : i0 ∈ us := by rw [hus]; exact List.mem_cons_self
   obtain ⟨q, hq, hqi⟩ := hcov i0 (h.ult i0 hi0)
   obtain ⟨i, hi, o, ho, hk⟩ := top_spec (us := us) (Ls := fun k => listed.getD k false = true) htop (fun k hk => by cases hk) (fun q hq => by
    obtain ⟨o, ho, _⟩ := top_plain htop q hq
    have hlt := (Array.getElem?_eq_some_iff.1 ho).1
    by_cases hm : q.1 ∈ us
    ·exact .inl hm
    ·refine .inr ?_
     have hf := mt (h.uiff q.1 hlt).1 hm
     rw [getD_tf (by rw [h.size]; exact hlt)] at hf
     simpa using hf) ⟨q, hq, by rw [hqi]; exact hi0⟩
   have : i ∈ Region.ready .any ops listed := ready_iff.2 ⟨h.ult i hi, (h.uiff i (h.ult i hi)).2 hi, o, ho, hk⟩
   rw [hr] at this; cases this
 intro fuel
 induction fuel with
 | zero =>
  intro us listed a la w pend pre rest hlen h
  have hus : us = [] := List.length_eq_zero_iff.1 hlen
  subst hus
  refine ⟨?_, fin h⟩
  cases hr : Region.ready .any ops listed with
  | nil => rfl
  | cons i l =>
   have hi : i ∈ Region.ready .any ops listed := by rw [hr]; exact List.mem_cons_self
   obtain ⟨h1, h2, _⟩ := ready_iff.1 hi
   have := (h.uiff i h1).1 h2
   cases this
 | succ fuel ih =>
  intro us listed a la w pend pre rest hlen h
  refine ⟨fun hr => ?_, fun i hi => ?_⟩
  ·have := some_ready h hr
   subst this
   exact fin h
  ·
   obtain ⟨hilt, hil, oi, hoi, hib⟩ := ready_iff.1 hi
   have hius : i ∈ us := (h.uiff i hilt).1 hil
   have hlen' : (us.erase i).length = fuel := by rw [List.length_erase_of_mem hius, hlen]; rfl
   -- a later one that waits for an unlisted one is not ready
   have noanc : ∀ k, k ∈ us → anc tab i k = false := by
    intro k hk
    cases ha : anc tab i k with
    | false => rfl
    | true =>
     exfalso
     have := anc_done htab (Ls := fun k => listed.getD k false = true) h.closed i k oi hoi hib ha (fun k hk => by rw [← h.size]; exact getD_lt hk)
     have h2 := (h.uiff k (h.ult k hk)).2 hk
     rw [getD_tf (by rw [h.size]; exact h.ult k hk)] at h2
     rw [h2] at this; cases this
   -- what holds of the lists when i is listed
   have hsz' : (listed.setIfInBounds i true).size = ops.size := by simp [h.size]
   have huiff' : ∀ k, k < ops.size → ((listed.setIfInBounds i true).getD k true = false ↔ k ∈ us.erase i) := by
    intro k hk
    rw [getD_set (by rw [h.size]; exact hilt), h.und.mem_erase_iff]
    by_cases hik : i = k
    ·subst hik; simp
    ·rw [if_neg hik, h.uiff k hk]
     exact ⟨fun h1 => ⟨fun e => hik e.symm, h1⟩, fun h1 => h1.2⟩
   have hclosed' : ∀ j o, ops[j]? = some o → (listed.setIfInBounds i true).getD j false = true → ∀ k ∈ bindsOn o, (listed.setIfInBounds i true).getD k false = true := by
    intro j o hj hl k hk
    rw [getD_set (by rw [h.size]; exact hilt)] at hl ⊢
    split
    ·rfl
    ·split at hl
     ·rename_i e; subst e
      rw [hoi] at hj; cases hj
      exact hib k hk
     ·exact h.closed j o hj hl k hk
   have hpl : plainOp oi = true := by
    obtain ⟨q, hq, hqi⟩ := hcov i hilt
    obtain ⟨o, ho, hp⟩ := top_plain htop q hq
    rw [hqi, hoi] at ho; cases ho
    exact hp
   clear hi hil
   have hund' := h.und.erase i
   have hult' : ∀ k ∈ us.erase i, k < ops.size := fun k hk => h.ult k (List.mem_of_mem_erase hk)
   have hmem' : ∀ k ∈ us, k ≠ i → k ∈ us.erase i := fun k hk hne => (h.und.mem_erase_iff).2 ⟨hne, hk⟩
   have hne' : ∀ k ∈ us.erase i, k ≠ i := fun k hk => ((h.und.mem_erase_iff).1 hk).1
   -- one that was taken ahead
   have doP : ∀ {la : Act} {pend : List PE} {pre rest : List (Nat × Nat)}, Way R F n P ops Q ord tab us listed a la w pend pre rest → (∃ p ∈ pend, p.i = i) → wpOpIn F n P ops Q i (wpAnyIn F n P .any ops Q fuel (listed.setIfInBounds i true)) a w := by
    rintro la pend pre rest h ⟨p, hp, hpi⟩
    obtain ⟨l', hpe, hl'⟩ := h.inv.get p hp
    have hpo : p.o = oi := by have := hpe.ho; rw [hpi, hoi] at this; exact (Option.some.inj this).symm
    have hsee : Sees ops oi a p.b := by
     intro d hd
     rw [← hpo] at hd
     rcases hpe.see d hd with ⟨q, hq, hqd, _⟩ | ⟨_, h4⟩
     ·have hqp := hl' q hq
      have := pair_spec (p := (q.i, 0)) (q := (p.i, 0)) (h.inv.ho q hqp) hpe.ho (hpe.pair q hq)
      exact absurd hd ((this.2 (by rw [hpi]; exact noanc q.i (h.punl q hqp).1)).2.2.1 d hqd)
     ·exact h4.symm
    have hval := h.inv.val p hp
    have next : wpAnyIn F n P .any ops Q fuel (listed.setIfInBounds i true) (a.put oi.dst p.v) w := by
     refine ih (us := us.erase i) (la := la) (pend := pend.filter fun q => !Nat.beq q.i i) (pre := pre) (rest := rest) hlen' ⟨hund', hsz', huiff', hult', h.ord, ?_, ?_, ?_, ?_, hclosed', by rw [put_defers]; exact h.defers, by rw [put_size]; exact h.tsize, ?_, ?_, h.rest⟩
     ·intro k hk
      rcases h.cover k (List.mem_of_mem_erase hk) with h1 | ⟨q, hq, hqk⟩
      ·exact .inl h1
      ·refine .inr ⟨q, List.mem_filter.2 ⟨hq, ?_⟩, hqk⟩
       cases hb : Nat.beq q.i i with
       | false => rfl
       | true => exact absurd ((Nat.eq_of_beq_eq_true hb).symm.trans hqk).symm (hne' k hk)
     ·intro q hq
      refine hmem' q.1 (h.runl q hq) fun he => ?_
      have h1 := (top_nodup (l := pre) (by rw [← h.ord]; exact htop)).2 (p.i, 0) (h.punl p hp).2 q hq
      exact h1 (by rw [he, ← hpi])
     ·intro q hq
      obtain ⟨hq1, hq2⟩ := List.mem_filter.1 hq
      exact ⟨hmem' q.i (h.punl q hq1).1 (fun he => by rw [he, Nat.beq_refl] at hq2; cases hq2), (h.punl q hq1).2⟩
     ·exact List.Nodup.sublist (List.Sublist.map _ List.filter_sublist) h.pnd
     ·intro d hd
      by_cases hdd : oi.dst = some d
      ·rw [hdd, put_get, if_pos rfl, hval d (by rw [hpo]; exact hdd), h.tsize]
      ·rw [put_other _ _ hdd]
       refine h.agree d fun q hq hqd => ?_
       by_cases hqi : q.i = i
       ·have := h.inv.ho q hq
        rw [hqi, hoi] at this
        cases this
        exact hdd hqd
       ·refine hd q (List.mem_filter.2 ⟨hq, ?_⟩) hqd
        cases hb : Nat.beq q.i i with
        | false => rfl
        | true => exact absurd (Nat.eq_of_beq_eq_true hb) hqi
     ·have := PInv.exec (j := p) (tab := tab) hpe.ho h.tsize hval h.inv (fun q hq _ => by rw [hpi]; exact noanc q.i (h.punl q hq).1) h.pnd (.inl hp)
      rw [hpo, hpi] at this
      exact this
    have hyv := hpe.yv w hpe.bel
    have hab := fun f => hpe.ab w f hpe.bel
    rw [hpo] at hyv hab
    unfold wpOpIn
    simp only [hoi]
    rw [hsee.wanted]
    rcases hyv with ⟨hw, hrun⟩ | ⟨hw, hv⟩
    ·rw [if_pos hw]
     unfold Oper.wpIn
     rw [hsee.about]
     refine ⟨hab, ?_⟩
     rw [Oper.semAt_plain _ _ _ (plain_defer hpl), hsee.exec hpl, hrun]
     exact next
    ·rw [if_neg (by rw [hw]; exact Bool.false_ne_true)]
     rw [hsee.about]
     exact ⟨hab, by rw [← hv]; exact next⟩
   have main : ∀ (rest : List (Nat × Nat)) {la : Act} {pend : List PE} {pre : List (Nat × Nat)}, Way R F n P ops Q ord tab us listed a la w pend pre rest → wpOpIn F n P ops Q i (wpAnyIn F n P .any ops Q fuel (listed.setIfInBounds i true)) a w := by
    intro rest
    induction rest with
    | nil =>
     intro la pend pre h
     rcases h.cover i hius with ⟨m, hm⟩ | hp
     ·cases hm
     ·exact doP h hp
    | cons q rest' ihr =>
     intro la pend pre h
     by_cases hp : ∃ p ∈ pend, p.i = i
     ·exact doP h hp
     obtain ⟨k, m⟩ := q
     have hkus : k ∈ us := h.runl (k, m) List.mem_cons_self
     have hnod := top_nodup (l := pre) (rest := (k, m) :: rest') (by rw [← h.ord]; exact htop)
     have hnod' := top_nodup (l := pre ++ [(k, m)]) (rest := rest') (by rw [List.append_assoc]; simp only [List.singleton_append]; rw [← h.ord]; exact htop)
     have hpairs' := fun (p : PE) (hp : p ∈ pend) => pairs_spec (pre := pre) (rest := (k, m) :: rest') (by rw [← h.ord]; exact hpairs) (p.i, 0) (h.punl p hp).2 (k, m) List.mem_cons_self
     have hord' : ord = (pre ++ [(k, m)]) ++ rest' := by rw [h.ord]; simp
     have hpk : ∀ p ∈ pend, p.i ≠ k := fun p hp he => hnod.2 (p.i, 0) (h.punl p hp).2 (k, m) List.mem_cons_self he.symm
     obtain ⟨ok, hok', hmode⟩ := h.rest
     have effect : ∀ K : Act → World → Prop, k = i → wpOpIn F n P ops Q i K la w → (∀ a' w', K a' w' → (m ≤ 1 → R.r w w') ∧ eag R F n P ops Q rest' a' w') → wpOpIn F n P ops Q i (wpAnyIn F n P .any ops Q fuel (listed.setIfInBounds i true)) a w := by
      intro K hki hop hK
      subst hki
      rw [hoi] at hok'
      cases hok'
      have hap : ∀ p ∈ pend, m ≤ 1 ∧ (∀ d, p.o.dst = some d → d ∉ oi.looksAt ops) ∧ (∀ d, oi.dst = some d → d ∉ p.o.looksAt ops) ∧ ∀ d, p.o.dst = some d → oi.dst ≠ some d := by
       intro p hp
       have h1 := pair_spec (p := (p.i, 0)) (q := (k, m)) (h.inv.ho p hp) hoi (hpairs' p hp)
       have h2 := h1.2 (noanc p.i (h.punl p hp).1)
       exact ⟨h2.2.1, h2.2.2.1, h2.2.2.2, h1.1⟩
      have hsee : Sees ops oi a la := fun d hd => h.agree d fun p hp hpd => (hap p hp).2.1 d hpd hd
      refine op_move hoi hpl hsee h.defers hQ hop ?_
      intro v w' ds hk
      obtain ⟨hb, he⟩ := hK _ _ hk
      refine ih (us := us.erase k) (la := { la with defers := ds }.put oi.dst v) (pend := pend) (pre := pre ++ [(k, m)]) (rest := rest') hlen' ⟨hund', hsz', huiff', hult', hord', ?_, ?_, ?_, h.pnd, hclosed', by rw [put_defers, put_defers], by rw [put_size, put_size]; exact h.tsize, ?_, ?_, he⟩
      ·intro j hj
       rcases h.cover j (List.mem_of_mem_erase hj) with ⟨m', hm'⟩ | h1
       ·rcases List.mem_cons.1 hm' with hm' | hm'
        ·cases hm'; exact absurd rfl (hne' _ hj)
        ·exact .inl ⟨m', hm'⟩
       ·exact .inr h1
      ·intro q hq
       exact hmem' q.1 (h.runl q (List.mem_cons_of_mem _ hq)) (hnod'.2 (k, m) (by simp) q hq)
      ·intro p hp
       exact ⟨hmem' p.i (h.punl p hp).1 (hpk p hp), List.mem_append_left _ (h.punl p hp).2⟩
      ·intro d hd
       by_cases hdd : oi.dst = some d
       ·rw [hdd, put_get, put_get, if_pos rfl, if_pos rfl]
        show (if d < a.tmps.size then some v else none) = if d < la.tmps.size then some v else none
        rw [h.tsize]
       ·rw [put_other _ _ hdd, put_other _ _ hdd]
        exact h.agree d hd
      ·cases hpe : pend with
       | nil => trivial
       | cons p0 l0 =>
        rw [← hpe]
        have hm1 : m ≤ 1 := (hap p0 (by rw [hpe]; exact List.mem_cons_self)).1
        refine PInv.step (by rw [put_size]) h.inv (fun p hp d hd => ?_) (fun p hp d hd => ?_) (hb hm1)
        ·rw [put_other _ _ ((hap p hp).2.2.2 d hd)]
        ·rw [put_other _ _ (fun hx => (hap p hp).2.2.1 d hx hd)]
     have notlater : m ≠ 0 → k = i := by
      intro hm0
      by_cases hki : k = i
      ·exact hki
      ·exfalso
       rcases h.cover i hius with ⟨m', hm'⟩ | h1
       ·rcases List.mem_cons.1 hm' with hm' | hm'
        ·cases hm'; exact hki rfl
        ·have h1 := pairs_spec (pre := pre ++ [(k, m)]) (rest := rest') (by rw [← hord']; exact hpairs) (k, m) (by simp) (i, m') hm'
         have h2 := (pair_spec (p := (k, m)) (q := (i, m')) hok' hoi h1).2 (noanc k hkus)
         exact hm0 h2.1
       ·exact hp h1
     match m, hmode, effect, notlater, h, hnod, hnod', hpairs', hord' with
     | 0, hmode, _, _, h, hnod, hnod', hpairs', hord' =>
      obtain ⟨v, hv, hab, he⟩ := hmode
      have hdst : ∀ p ∈ pend, ∀ d, p.o.dst = some d → ok.dst ≠ some d := fun p hp => (pair_spec (p := (p.i, 0)) (q := (k, 0)) (h.inv.ho p hp) hok' (hpairs' p hp)).1
      refine ihr (la := la.put ok.dst v) (pend := ⟨k, ok, v, la, w⟩ :: pend) (pre := pre ++ [(k, 0)]) ⟨h.und, h.size, h.uiff, h.ult, hord', ?_, fun q hq => h.runl q (List.mem_cons_of_mem _ hq), ?_, ?_, h.closed, by rw [put_defers]; exact h.defers, by rw [put_size]; exact h.tsize, ?_, ⟨⟨hok', hv, hab, R.refl _, ?_, ?_, fun p hp => hpairs' p hp⟩, ?_⟩, he⟩
      ·intro j hj
       rcases h.cover j hj with ⟨m', hm'⟩ | ⟨p, hp, hpj⟩
       ·rcases List.mem_cons.1 hm' with hm' | hm'
        ·cases hm'; exact .inr ⟨_, List.mem_cons_self, rfl⟩
        ·exact .inl ⟨m', hm'⟩
       ·exact .inr ⟨p, List.mem_cons_of_mem _ hp, hpj⟩
      ·intro p hp
       rcases List.mem_cons.1 hp with rfl | hp
       ·exact ⟨hkus, by simp⟩
       ·exact ⟨(h.punl p hp).1, List.mem_append_left _ (h.punl p hp).2⟩
      ·refine List.nodup_cons.2 ⟨fun hm => ?_, h.pnd⟩
       obtain ⟨p, hp, hpi⟩ := List.mem_map.1 hm
       exact hpk p hp hpi
      ·intro d hd
       rw [put_other _ _ (hd _ List.mem_cons_self)]
       exact h.agree d fun p hp => hd p (List.mem_cons_of_mem _ hp)
      ·intro d hd
       simp only at hd
       rw [hd, put_get, if_pos rfl]
       have := put_size la (some d) v
       rw [this]
      ·intro d hd
       by_cases hx : ∃ p ∈ pend, p.o.dst = some d
       ·obtain ⟨p, hp, hpd⟩ := hx
        exact .inl ⟨p, hp, hpd, by rw [put_other _ _ (hdst p hp d hpd)]⟩
       ·exact .inr ⟨fun p hp hpd => hx ⟨p, hp, hpd⟩, (h.agree d fun p hp hpd => hx ⟨p, hp, hpd⟩).symm⟩
      ·exact PInv.step (by rw [put_size]) h.inv (fun p hp d hd => by rw [put_other _ _ (hdst p hp d hd)]) (fun p hp d hd => rfl) (R.refl _)
     | 1, hmode, effect, notlater, h, _, _, _, _ =>
      have hki := notlater (by simp)
      exact effect (fun a' w' => R.r w w' ∧ eag R F n P ops Q rest' a' w') hki (by rw [← hki]; exact hmode) (fun a' w' hk => ⟨fun _ => hk.1, hk.2⟩)
     | m + 2, hmode, effect, notlater, h, _, _, _, _ =>
      have hki := notlater (by simp)
      exact effect (eag R F n P ops Q rest') hki (by rw [← hki]; exact hmode) (fun a' w' hk => ⟨fun hm => by omega, hk⟩)
   exact main rest h
theorem wpIn_region_eag {R : WR} {F : Fence} {n : Nat} {ops : Array Oper} {Q : Exit → Act → World → Prop} {ord : List (Nat × Nat)} {tab : List Nat} {id : Nat} {a : Act} {w : World} (hm : P.follows .mixedOrders = true) (hok : drawOK ops ord tab = true) (hQ : ∀ c a w, ¬ Q (.panic c) a w)
  (h : eag R F n P ops Q ord a { w with drawn := w.drawn + 1 }) : (Code.region id ops true).wpIn F n P Q a w := by
 refine wpIn_region_any hm ?_
 obtain ⟨_, _, htop, hcov⟩ := drawOK_spec hok
 refine way_any hok hQ ops.size (us := List.range ops.size) (la := a) (pend := []) (pre := []) (rest := ord) (by simp) ⟨List.nodup_range, by simp, ?_, (fun i hi => List.mem_range.1 hi), rfl, ?_, ?_, (fun p hp => (by cases hp)), List.nodup_nil, ?_, rfl, rfl, fun _ _ => rfl, trivial, h⟩
 ·intro i hi
  simp [Array.getD, hi]
 ·intro i hi
  obtain ⟨q, hq, hqi⟩ := hcov i (List.mem_range.1 hi)
  exact .inl ⟨q.2, by rw [← hqi]; exact hq⟩
 ·intro q hq
  obtain ⟨o, ho, _⟩ := top_plain htop q hq
  exact List.mem_range.2 (Array.getElem?_eq_some_iff.1 ho).1
 ·intro i o ho hl
  simp [Array.getD] at hl
end Go.V
