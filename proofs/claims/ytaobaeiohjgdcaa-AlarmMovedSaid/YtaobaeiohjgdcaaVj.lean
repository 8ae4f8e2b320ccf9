/- The verification-condition framework, part J: append; slices of slices. -/
import Derived.Test.YtaobaeiohjgdcaaVi
import Derived.ArgAppend
namespace Go.V
open Go Go.RowKit
variable {P : Program}

/-- A slice of immutable memory is read. -/
inductive VSl (M : Mem) (sz : Nat) (x : Value) (K : Nat → List Value → Prop) : Prop
  | mk (n : Nat) (xs : List Value) (h : SlAt M sz x n xs) (hk : K n xs)
inductive VBnd (i : Int) (hi : Nat) (K : Nat → Prop) : Prop
  | mk (n : Nat) (h : i = (n : Int)) (hn : n ≤ hi) (hk : K n)

/-- What the second operand of append holds. -/
def appSrc (st : St) (sz : Nat) (x : SV) (k : Nat → List Value → Prop) : Prop :=
  match x with
  | .row id => match st.own id with
    | some (.row _ s n xs) => match Nat.beq s sz with | true => k n xs | false => VStuck 80
    | _ => VStuck 81
  | .v x => st.withM fun M => VSl M sz x k
  | _ => VStuck 82
/-- It is a slice that holds so many cells, now. -/
def SrcOK (W : World) (sz : Nat) (v : Value) (m : Nat) (ys : List Value) : Prop :=
  ∃ a c, v = .slice a m c ∧ ys.length = m * sz ∧ (∀ y ∈ ys, y.oneCell' = true) ∧ ((a = none ∧ m = 0) ∨ ∃ ad : Addr, a = some ad ∧ ∀ j u, ys[j]? = some u → W.cell? (ad.add j) = some u)
theorem appSrc_sound {n₀ : Nat} {w : World} {M₀ : Mem} {ρ : Env} {st : St} {W : World} (h : SatH n₀ w M₀ ρ st W) {sz : Nat} {x : SV} {k : Nat → List Value → Prop} (hk : appSrc st sz x k) :
    ∃ m ys, SrcOK W sz (x.den ρ) m ys ∧ k m ys := by
  unfold appSrc at hk
  split at hk
  · rename_i id
    split at hk
    · rename_i E s n xs hid
      split at hk
      · rename_i hs
        have hs := Nat.eq_of_beq_eq_true hs
        subst hs
        obtain ⟨_, _, ho, h1⟩ := h.own id _ hid
        refine ⟨n, xs, ?_, hk⟩
        rcases ho.2 with ⟨hv, h0⟩ | ⟨g, cap, cur, hg, _⟩
        · exact ⟨none, 0, by simp [SV.den, hv, slOf, h0], ho.1, h1, .inl ⟨rfl, h0⟩⟩
        · exact ⟨some ⟨g, 0, none⟩, cap, by simp [SV.den, hg, slOf], ho.1, h1, .inr ⟨_, rfl, ho.cells (by simp [hg, Value.ownBlock])⟩⟩
      · cases hk
    · cases hk
  · rename_i x
    replace hk := withM_iff hk
    obtain ⟨n, xs, ⟨a, c, rfl, h2, h3, h4, h5, h6⟩, hk⟩ := hk
    refine ⟨n, xs, ⟨a, c, rfl, h4, h5, ?_⟩, hk⟩
    rcases Nat.eq_zero_or_pos n with h0 | h0
    · subst h0
      cases a with
      | none => exact .inl ⟨rfl, rfl⟩
      | some ad =>
        refine .inr ⟨ad, rfl, fun j u hj => ?_⟩
        have : xs = [] := List.eq_nil_of_length_eq_zero (by simpa using h4)
        subst this
        simp at hj
    · obtain ⟨ad, h7, h8⟩ := h6 h0
      exact .inr ⟨ad, h7, fun j u hj => Mem.cell_ok h.mem (h8 j u hj)⟩
  · cases hk

theorem run_append_none_src (t ty e : TypeId) (i : TypeInfo) (ht : P.underlying t = some (.slice e)) (hi : P.info? e = some i) (W : World) (s : Option Addr) (n cap c : Nat) (hn : n ≤ cap) :
    (Builtin.append_ #[t, t] ty #[.slice s n cap, .slice none 0 c]).run P W = .ok (.slice s n cap) W := by
  cases s with
  | none => simp [Builtin.append_, run_underlying ht, sizeOf, typeInfo, hi, Builtin.lenOf, Builtin.firstCells, hn]
  | some a => simp [Builtin.append_, run_underlying ht, sizeOf, typeInfo, hi, Builtin.lenOf, Builtin.firstCells, hn, storeCells]
theorem run_append_empty_src (t ty e : TypeId) (i : TypeInfo) (ht : P.underlying t = some (.slice e)) (hi : P.info? e = some i) (W : World) (s : Option Addr) (n cap c : Nat) (hn : n ≤ cap) (a : Addr) :
    (Builtin.append_ #[t, t] ty #[.slice s n cap, .slice (some a) 0 c]).run P W = .ok (.slice s n cap) W := by
  cases s with
  | none => simp [Builtin.append_, run_underlying ht, sizeOf, typeInfo, hi, Builtin.lenOf, Builtin.firstCells, hn, loadCells, loadCellsFrom]
  | some b => simp [Builtin.append_, run_underlying ht, sizeOf, typeInfo, hi, Builtin.lenOf, Builtin.firstCells, hn, storeCells, loadCells, loadCellsFrom]

/-- An own slice gives way to a longer one. -/
def St.more (st : St) (id : Nat) (e : OE) : St := { ow := (st.nx, some e) :: (id, none) :: st.ow, sl := st.sl, nx := st.nx + 1, M := st.M, nt := st.nt, G := st.G }
def St.moreK (st : St) (id : Nat) (e : OE) (k : St → Nat → Prop) : Prop :=
  match st with
  | ⟨sl, ow, nx, M, nt, G⟩ => k ⟨sl, (nx, some e) :: (id, none) :: ow, nx + 1, M, nt, G⟩ nx
theorem moreK_iff {st : St} {id : Nat} {e : OE} {k : St → Nat → Prop} (h : st.moreK id e k) : k (st.more id e) st.nx := by cases st; exact h
/-- append: onto a growing slice of one's own; onto nil; onto a slice of immutable memory without spare capacity. -/
def app (C : VX) (st : St) (t : TypeId) (s x : SV) (k : St → SV → Prop) : Prop :=
  match look C.te t with
  | some ⟨.sl e, _, _⟩ => match look C.te e with
    | some ei => match Nat.blt 0 ei.zero.length && Nat.blt 0 ei.bytes with
      | true => match s with
        | .row id => match st.own id with
          | some (.row E sz n xs) => match Nat.beq E e && Nat.beq sz ei.zero.length && (match x with | .row j => !(Nat.beq j id) | _ => true) with
            | true => appSrc st ei.zero.length x fun m ys => VFact ((n + m) * ei.bytes ≤ 140737488355328)
                (st.moreK id (.row e ei.zero.length (n + m) (xs ++ ys)) fun st' i => k st' (.row i))
            | false => VStuck 83
          | _ => VStuck 84
        | .v (.slice none 0 0) => appSrc st ei.zero.length x fun m ys => VFact (m * ei.bytes ≤ 140737488355328) (st.addK (.row e ei.zero.length m ys) fun st' i => k st' (.row i))
        | .v (.slice a n c) => st.withM fun M => VSl M ei.zero.length (.slice a n c) fun _ xs => VFact (n = c) (appSrc st ei.zero.length x fun m ys => VFact ((n + m) * ei.bytes ≤ 140737488355328)
            (VFact (m = 0 → k st (.v (.slice a n c))) (0 < m → st.addK (.row e ei.zero.length (n + m) (xs ++ ys)) fun st' i => k st' (.row i))))
        | _ => VStuck 85
      | false => VStuck 86
    | none => VStuck 87
  | _ => VStuck 88
theorem VFact.both {A B : Prop} (h : VFact A B) : A ∧ B := by cases h; exact ⟨‹_›, ‹_›⟩

theorem SatH.add2 {n₀ : Nat} {w : World} {M₀ : Mem} {ρ : Env} {st : St} {W W' : World} (h : SatH n₀ w M₀ ρ st W) {id : Nat} {e0 : OE} (hid : st.own id = some e0) (e : OE) (v : Value) (hb : W.grownBy W' (ob (ρ id))) (hsc : e.sc st.nx)
    (hown : OwnOK n₀ (upd ρ st.nx v) W' st.nx e) (hob : ∀ b, ob v = some b → ob (ρ id) = some b ∨ W.heap.size ≤ b) :
    SatH n₀ w M₀ (upd ρ st.nx v) { ow := (st.nx, some e) :: (id, none) :: st.ow, sl := st.sl, nx := st.nx + 1, M := st.M, nt := st.nt, G := st.G } W' := by
  have hid1 := (h.own id e0 hid).1
  have hne : id ≠ st.nx := by omega
  have hown' : ∀ j, (St.own { ow := (st.nx, some e) :: (id, none) :: st.ow, sl := st.sl, nx := st.nx + 1, M := st.M, nt := st.nt, G := st.G } j) = if j = st.nx then some e else if j = id then none else st.own j := by
    intro j
    unfold St.own
    simp only [look_cons]
    by_cases h1 : j = st.nx
    · simp [h1]
    · by_cases h2 : j = id
      · subst h2; simp [hne]
      · simp [h1, h2]
  have lt : ∀ k ek, st.own k = some ek → ∀ b, ob (upd ρ st.nx v k) = some b → ob (ρ k) = some b ∧ b < W.heap.size := fun k ek hk b hb' => by
    obtain ⟨h1, _, h3⟩ := h.own k ek hk
    rw [agree_upd ρ st.nx v k h1] at hb'
    exact ⟨hb', (h3.lt b hb').2.1⟩
  -- an old entry (not id) is apart from the new value
  have apart : ∀ k ek, st.own k = some ek → k ≠ id → ∀ b, ob (upd ρ st.nx v k) = some b → ob v ≠ some b := fun k ek hk hkid b hb' hv => by
    obtain ⟨l1, l2⟩ := lt k ek hk b hb'
    rcases hob b hv with h1 | h1
    · exact h.sep k id ek e0 hk hid hkid b l1 h1
    · omega
  refine ⟨h.below.grown hb h.size (fun k hk => ((h.own id e0 hid).2.2.lt k hk).1), Nat.le_trans h.size hb.size, ?_, ?_, ?_, ?_, ?_, h.mlow, ?_⟩
  · intro b o hm
    have hm' := h.mem b o hm
    rw [hb.block b (Array.getElem?_eq_some_iff.1 hm').1 ?_]; exact hm'
    intro hc
    have := h.msep id e0 b hid hc.symm
    rw [this] at hm; cases hm
  · intro i ei hi
    rw [hown'] at hi
    split at hi
    · rename_i h1
      cases hi
      subst h1
      exact ⟨Nat.lt_succ_self _, e.sc_mono (Nat.le_succ _) hsc, hown⟩
    · split at hi
      · cases hi
      · rename_i h1 h2
        obtain ⟨g1, g2, g3⟩ := h.own i ei hi
        refine ⟨Nat.lt_succ_of_lt g1, ei.sc_mono (Nat.le_succ _) g2, g3.keep (agree_upd ρ st.nx v) g1 g2 fun b hbb => hb.block b (g3.lt b hbb).2.1 ?_⟩
        intro hc
        exact h.sep i id ei e0 hi hid h2 b hbb hc.symm
  · intro i j ei ej hi hj hij b hbi hbj
    rw [hown'] at hi hj
    split at hi
    · rename_i h1
      split at hj
      · rename_i h2; omega
      · split at hj
        · cases hj
        · rename_i h2 h3
          subst h1
          rw [upd_same] at hbi
          exact apart j ej hj h3 b hbj hbi
    · split at hi
      · cases hi
      · rename_i h1 h1'
        split at hj
        · rename_i h2
          subst h2
          rw [upd_same] at hbj
          exact apart i ei hi h1' b hbi hbj
        · split at hj
          · cases hj
          · exact h.sep i j ei ej hi hj hij b (lt i ei hi b hbi).1 (lt j ej hj b hbj).1
  · intro i ei b hi hbb
    rw [hown'] at hi
    split at hi
    · rename_i h1
      subst h1
      rw [upd_same] at hbb
      rcases hob b hbb with h2 | h2
      · exact h.msep id e0 b hid h2
      · show st.M b = none
        cases hm : st.M b with
        | none => rfl
        | some o =>
          have := (Array.getElem?_eq_some_iff.1 (h.mem b o hm)).1
          omega
    · split at hi
      · cases hi
      · exact h.msep i ei b hi (lt i ei hi b hbb).1
  · intro b o hbo
    obtain ⟨h1, h2, h3⟩ := h.pin b o hbo
    refine ⟨h1, (hb.block b (Array.getElem?_eq_some_iff.1 h2).1 (fun hc => ?_)).trans h2, h3⟩
    obtain ⟨_, _, c, t, fr, hh⟩ := (h.own id e0 hid).2.2.lt b hc.symm
    rw [hh] at h2; cases h2; cases h1

  · intro b o hbo
    obtain ⟨h2, h3⟩ := h.fpin b o hbo
    have hlt := (Array.getElem?_eq_some_iff.1 h2).1
    refine ⟨(hb.block b hlt (fun hc => h3 id e0 hid hc.symm)).trans h2, fun i ei hi hbb => ?_⟩
    rw [hown'] at hi
    split at hi
    · rename_i h1
      subst h1
      rw [upd_same] at hbb
      rcases hob b hbb with h4 | h4
      · exact h3 id e0 hid h4
      · omega
    · split at hi
      · cases hi
      · exact h3 i ei hi (lt i ei hi b hbb).1
theorem grownBy_none_below {W W' : World} (h : W.grownBy W' none) : Below W.heap.size W W' :=
  ⟨h.os, h.tape, h.output, h.size, fun k hk => h.block k hk (by simp)⟩
theorem ownsRow_mono {W : World} {b b' : Nat} {e : TypeId} {sz : Nat} {v : Value} {n : Nat} {xs : List Value} (h : W.ownsRow b e sz v n xs) (hb : b' ≤ b) : W.ownsRow b' e sz v n xs := by
  refine ⟨h.1, ?_⟩
  rcases h.2 with h2 | ⟨g, cap, cur, h1, h2, r⟩
  · exact .inl h2
  · exact .inr ⟨g, cap, cur, h1, Nat.le_trans hb h2, r⟩
theorem ownsRow_isSl {W : World} {b : Nat} {e : TypeId} {sz : Nat} {v : Value} {n : Nat} {xs : List Value} (h : W.ownsRow b e sz v n xs) : slOf v = v := by
  rcases h.2 with ⟨rfl, _⟩ | ⟨g, cap, cur, rfl, _⟩ <;> rfl
theorem ob_ownBlock {W : World} {b : Nat} {e : TypeId} {sz : Nat} {v : Value} {n : Nat} {xs : List Value} (h : W.ownsRow b e sz v n xs) : ob v = v.ownBlock := by
  rcases h.2 with ⟨rfl, _⟩ | ⟨g, cap, cur, rfl, _⟩ <;> rfl

/-- A new own slice, in a new block or nil. -/
theorem Sat.newRow {n₀ : Nat} {w : World} {M₀ : Mem} {ρ : Env} {st : St} {a : Act} {W W' : World} (h : Sat n₀ w M₀ ρ st a W) {e sz n : Nat} {xs : List Value} {v : Value} (ho : W'.ownsRow W.heap.size e sz v n xs) (hg : W.grownBy W' none) (h1 : ∀ x ∈ xs, x.oneCell' = true) :
    Sat n₀ w M₀ (upd ρ st.nx v) (st.add (.row e sz n xs)) a W' := by
  have hb := grownBy_none_below hg
  refine h.env (h.h.add (.row e sz n xs) v hb trivial ?_ ?_) (agree_upd _ _ _) (by simp [St.add]) rfl rfl rfl
  · refine ⟨?_, h1⟩
    rw [upd_same]
    exact ownsRow_mono ho h.h.size
  · intro b hbb
    rw [ob_ownBlock ho] at hbb
    exact (ho.lt b hbb).1

theorem app_sound {C : VX} (hC : VXOK P C) {n₀ : Nat} {w : World} {M₀ : Mem} {ρ : Env} {st : St} {a : Act} {W : World} (h : Sat n₀ w M₀ ρ st a W) {t ty : TypeId} {s x : SV} {k : St → SV → Prop} (hs : s.sc st.nx) (hk : app C st t s x k) :
    ∃ v W' ρ' st' s', (Builtin.append_ #[t, t] ty #[s.den ρ, x.den ρ]).run P W = .ok v W' ∧ v = s'.den ρ' ∧ s'.sc st'.nx ∧ Sat n₀ w M₀ ρ' st' a W' ∧ st'.G = st.G ∧ k st' s' := by
  unfold app at hk
  split at hk
  · rename_i e z b hl
    obtain ⟨d, hd, hf⟩ := (hC.te _ _ hl).und
    simp only [TK.fits] at hf
    subst hf
    split at hk
    · rename_i ei hei
      obtain ⟨inf, zv, hi1, hi2, hi3, hi4, hi5⟩ := (hC.te _ _ hei).inf
      have hzs : zv.cells.size = ei.zero.length := by rw [hi4]; simp
      split at hk
      · rename_i hpos
        simp only [Bool.and_eq_true] at hpos
        have p1 : 0 < ei.zero.length := Nat.le_of_ble_eq_true hpos.1
        have p2 : 0 < ei.bytes := Nat.le_of_ble_eq_true hpos.2
        have small : ∀ q : Nat, q * ei.bytes ≤ 140737488355328 → q ≤ maxLen := fun q hq => by
          have : q ≤ q * ei.bytes := Nat.le_mul_of_pos_right _ p2
          unfold maxLen; omega
        split at hk
        · -- onto an own slice
          rename_i id
          split at hk
          · rename_i E sz n xs hid
            split at hk
            · rename_i hc
              simp only [Bool.and_eq_true] at hc
              have c1 := Nat.eq_of_beq_eq_true hc.1.1
              have c2 := Nat.eq_of_beq_eq_true hc.1.2
              subst c1; subst c2
              obtain ⟨m, ys, ⟨xa, xc, hx, hy1, hy2, hy3⟩, hk⟩ := appSrc_sound h.h hk
              obtain ⟨hbd, hk⟩ := hk
              replace hk := moreK_iff hk
              obtain ⟨_, _, ho, h1⟩ := h.h.own id _ hid
              have hv : (SV.row id).den ρ = ρ id := ownsRow_isSl ho
              have hcells : ∀ q ∈ xs ++ ys, q.oneCell' = true := fun q hq => (List.mem_append.1 hq).elim (h1 q) (hy2 q)
              rcases hy3 with ⟨rfl, rfl⟩ | ⟨ad, rfl, hy3⟩
              · -- nothing is appended: nil
                have hys : ys = [] := List.eq_nil_of_length_eq_zero (by simpa using hy1)
                subst hys
                obtain ⟨sa, scap, hsl, hsn⟩ : ∃ sa scap, ρ id = .slice sa n scap ∧ n ≤ scap := by
                  rcases ho.2 with ⟨hv, h0⟩ | ⟨g, cap, cur, hg, _, _, hnc, _⟩
                  · exact ⟨none, 0, by rw [hv, h0], by omega⟩
                  · exact ⟨_, cap, hg, hnc⟩
                have hr := run_append_none_src (P := P) t ty E inf hd hi1 W sa n scap xc hsn
                refine ⟨ρ id, W, upd ρ st.nx (ρ id), st.more id (.row E ei.zero.length (n + 0) (xs ++ [])), .row st.nx, by rw [hv, hx, hsl]; exact hr, ?_, Nat.lt_succ_self _, ?_, rfl, hk⟩
                · simp only [SV.den, upd_same]; exact (ownsRow_isSl ho).symm
                · refine h.env (h.h.add2 hid (.row E ei.zero.length (n + 0) (xs ++ [])) (ρ id) ⟨rfl, rfl, rfl, Nat.le_refl _, fun _ _ _ => rfl⟩ trivial ?_ (fun b hb => .inl hb)) (agree_upd _ _ _) (Nat.le_succ _) rfl rfl rfl
                  refine ⟨?_, by simpa using h1⟩
                  rw [upd_same]
                  simpa using ho
              · obtain ⟨v', W', hr, r1, r2, _, r3⟩ := run_append_own_at (P := P) W n₀ t ty E inf zv ei.zero.length ei.bytes hd hi1 hi3 hi2 hi5 hzs p1 (ρ id) n xs ho ad m xc ys hy1 hy3 hy2 (small _ hbd) hbd h.h.size
                have hobid : ob (ρ id) = (ρ id).ownBlock := ob_ownBlock ho
                refine ⟨v', W', upd ρ st.nx v', st.more id (.row E ei.zero.length (n + m) (xs ++ ys)), .row st.nx, by rw [hv, hx]; exact hr, ?_, Nat.lt_succ_self _, ?_, rfl, hk⟩
                · simp only [SV.den, upd_same]; exact (ownsRow_isSl r1).symm
                · refine h.env (h.h.add2 hid (.row E ei.zero.length (n + m) (xs ++ ys)) v' (by rw [hobid]; exact r2) trivial ?_ ?_) (agree_upd _ _ _) (Nat.le_succ _) rfl rfl rfl
                  · refine ⟨?_, hcells⟩
                    rw [upd_same]; exact r1
                  · intro b hb
                    rw [ob_ownBlock r1] at hb
                    rcases r3 with r3 | r3
                    · left; rw [hobid, ← r3]; exact hb
                    · right; rw [r3] at hb; cases hb; exact Nat.le_refl _
            · cases hk
          · cases hk
        · -- onto nil
          obtain ⟨m, ys, ⟨xa, xc, hx, hy1, hy2, hy3⟩, hk⟩ := appSrc_sound h.h hk
          obtain ⟨hbd, hk⟩ := hk
          replace hk := addK_iff hk
          have ho := World.ownsRow_nil W W.heap.size e ei.zero.length
          rcases hy3 with ⟨rfl, rfl⟩ | ⟨ad, rfl, hy3⟩
          · have hys : ys = [] := List.eq_nil_of_length_eq_zero (by simpa using hy1)
            subst hys
            have hr := run_append_none_src (P := P) t ty e inf hd hi1 W none 0 0 xc (Nat.le_refl _)
            refine ⟨.slice none 0 0, W, upd ρ st.nx (.slice none 0 0), st.add (.row e ei.zero.length 0 []), .row st.nx, by rw [hx]; exact hr, by simp [SV.den, upd_same, slOf], Nat.lt_succ_self _, ?_, rfl, hk⟩
            exact h.newRow ho ⟨rfl, rfl, rfl, Nat.le_refl _, fun _ _ _ => rfl⟩ (by simp)
          · obtain ⟨v', W', hr, r1, r2, _⟩ := run_append_own (P := P) W W.heap.size t ty e inf zv ei.zero.length ei.bytes hd hi1 hi3 hi2 hi5 hzs p1 (.slice none 0 0) 0 [] ho ad m xc ys hy1 hy3 hy2 (by simpa using small _ hbd) (by simpa using hbd) (Nat.le_refl _)
            simp only [Nat.zero_add, List.nil_append] at r1
            refine ⟨v', W', upd ρ st.nx v', st.add (.row e ei.zero.length m ys), .row st.nx, by rw [hx]; exact hr, ?_, Nat.lt_succ_self _, ?_, rfl, hk⟩
            · simp only [SV.den, upd_same]; exact (ownsRow_isSl r1).symm
            · exact h.newRow r1 r2 hy2
        · -- onto a slice of immutable memory
          rename_i sa sn sc _
          replace hk := withM_iff hk
          obtain ⟨n', xs, ⟨a0, c0, hsl, q2, q3, q4, q4', q5⟩, hk⟩ := hk
          obtain ⟨hcap, hk⟩ := hk
          simp only [Value.slice.injEq] at hsl
          obtain ⟨rfl, rfl, rfl⟩ := hsl
          subst hcap
          obtain ⟨m, ys, ⟨xa, xc, hx, hy1, hy2, hy3⟩, hk⟩ := appSrc_sound h.h hk
          obtain ⟨hbd, hk⟩ := hk
          obtain ⟨hk0, hk1⟩ := hk.both
          replace hk1 := fun h => addK_iff (hk1 h)
          rcases Nat.eq_zero_or_pos m with h0 | h0
          · subst h0
            refine ⟨.slice sa sn sn, W, ρ, st, .v (.slice sa sn sn), ?_, rfl, trivial, h, rfl, hk0 rfl⟩
            rw [hx]
            rcases hy3 with ⟨rfl, _⟩ | ⟨ad, rfl, _⟩
            · exact run_append_none_src (P := P) t ty e inf hd hi1 W sa sn sn xc (Nat.le_refl _)
            · exact run_append_empty_src (P := P) t ty e inf hd hi1 W sa sn sn xc (Nat.le_refl _) ad
          · rcases hy3 with ⟨_, h00⟩ | ⟨ad, rfl, hy3⟩
            · omega
            · have hcells : ∀ q ∈ xs ++ ys, q.oneCell' = true := fun q hq => (List.mem_append.1 hq).elim (q4' q) (hy2 q)
              cases sa with
              | none =>
                have hn0 : sn = 0 := by
                  rcases Nat.eq_zero_or_pos sn with h2 | h2
                  · exact h2
                  · obtain ⟨ad', h3, _⟩ := q5 h2; cases h3
                subst hn0
                have hxs : xs = [] := List.eq_nil_of_length_eq_zero (by simpa using q4)
                subst hxs
                have ho := World.ownsRow_nil W W.heap.size e ei.zero.length
                obtain ⟨v', W', hr, r1, r2, _⟩ := run_append_own (P := P) W W.heap.size t ty e inf zv ei.zero.length ei.bytes hd hi1 hi3 hi2 hi5 hzs p1 (.slice none 0 0) 0 [] ho ad m xc ys hy1 hy3 hy2 (small _ hbd) hbd (Nat.le_refl _)
                refine ⟨v', W', upd ρ st.nx v', st.add (.row e ei.zero.length (0 + m) ([] ++ ys)), .row st.nx, by rw [hx]; exact hr, ?_, Nat.lt_succ_self _, ?_, rfl, hk1 h0⟩
                · simp only [SV.den, upd_same]; exact (ownsRow_isSl r1).symm
                · exact h.newRow r1 r2 hcells
              | some sb =>
                have hold : ∀ j u, xs[j]? = some u → W.cell? (sb.add j) = some u := fun j u hj => by
                  rcases Nat.eq_zero_or_pos sn with h2 | h2
                  · subst h2
                    have hxs : xs = [] := List.eq_nil_of_length_eq_zero (by simpa using q4)
                    subst hxs; simp at hj
                  · obtain ⟨ad', h3, h4⟩ := q5 h2
                    cases h3
                    exact Mem.cell_ok h.h.mem (h4 j u hj)
                obtain ⟨v', W', hr, r1, r2⟩ := run_append_arg_grows (P := P) W t ty e inf zv ei.zero.length ei.bytes hd hi1 hi3 hi2 hi5 hzs p1 sb sn sn xs q4 hold ad m xc ys hy1 hy3 (by omega) (small _ hbd) hbd
                refine ⟨v', W', upd ρ st.nx v', st.add (.row e ei.zero.length (sn + m) (xs ++ ys)), .row st.nx, by rw [hx]; exact hr, ?_, Nat.lt_succ_self _, ?_, rfl, hk1 h0⟩
                · simp only [SV.den, upd_same]; exact (ownsRow_isSl r1).symm
                · exact h.newRow r1 r2 hcells
        · cases hk
      · cases hk
    · cases hk
  · cases hk
end Go.V
