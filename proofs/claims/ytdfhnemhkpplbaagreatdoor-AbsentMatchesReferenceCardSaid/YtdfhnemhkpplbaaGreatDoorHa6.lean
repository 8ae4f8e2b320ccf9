/- The verification-condition framework, part S: a call that is walked where it stands, in the caller's own state. -/
import Derived.Test.YtdfhnemhkpplbaaGreatDoorHa5
set_option linter.unusedVariables false
set_option linter.unusedSimpArgs false
namespace Go.V
open Go Go.RowKit
variable {P : Program}
def argSV : Nat → List SV → List (Nat × SV)
 | _, [] => []
 | n, s :: r => (n, s) :: argSV (n + 1) r
theorem argSV_look : ∀ (l : List SV) (n d : Nat) (s : SV), look (argSV n l) d = some s → n ≤ d ∧ d < n + l.length ∧ l[d - n]? = some s
 | [], n, d, s, h => by cases h
 | v :: r, n, d, s, h => by
  simp only [argSV, look_cons] at h
  split at h
  ·rename_i hd
   subst hd
   cases h
   exact ⟨Nat.le_refl _, by simp, by simp⟩
  ·rename_i hd
   obtain ⟨h1, h2, h3⟩ := argSV_look r (n + 1) d s h
   refine ⟨by omega, by simp; omega, ?_⟩
   have : d - n = (d - (n + 1)) + 1 := by omega
   rw [this, List.getElem?_cons_succ]
   exact h3
def ghs (val : Nat → Value) : Nat → List (Nat × SV) → List (Nat × Option OE) → List (Nat × Option OE)
 | _, [], ow => ow
 | n, (d, s) :: r, ow => (n, some (.gh d (val d) s)) :: ghs val (n + 1) r ow
theorem ghs_look (val : Nat → Value) : ∀ (l : List (Nat × SV)) (n : Nat) (ow : List (Nat × Option OE)) (i : Nat) (e : Option OE), look (ghs val n l ow) i = some e →
  (n ≤ i ∧ i < n + l.length ∧ ∃ d s, (d, s) ∈ l ∧ e = some (.gh d (val d) s)) ∨ look ow i = some e
 | [], n, ow, i, e, h => .inr h
 | (d, s) :: r, n, ow, i, e, h => by
  simp only [ghs, look_cons] at h
  split at h
  ·rename_i hi
   subst hi
   cases h
   exact .inl ⟨Nat.le_refl _, by simp, d, s, by simp, rfl⟩
  ·rcases ghs_look val r (n + 1) ow i e h with ⟨h1, h2, d', s', h3, h4⟩ | h
   ·exact .inl ⟨by omega, by simp; omega, d', s', List.mem_cons_of_mem _ h3, h4⟩
   ·exact .inr h
def rst (st st' : St) (val : Nat → Value) (pl : List (Nat × SV)) : List (Nat × Option OE) → (List (Nat × SV) → Prop) → Prop
 | [], k => k pl
 | (i, some (.gh _ _ _)) :: r, k => match st'.own i with
  | some (.gh d v s) => match look st.sl d with
   | some _ => VFact (v = val d) (rst st st' val pl r fun sl => k ((d, s) :: sl))
   | none => rst st st' val pl r k
  | _ => rst st st' val pl r k
 | _ :: r, k => rst st st' val pl r k
theorem rst_spec {st st' : St} {val : Nat → Value} {pl : List (Nat × SV)} : ∀ {l : List (Nat × Option OE)} {k : List (Nat × SV) → Prop}, rst st st' val pl l k →
  ∃ sl, k sl ∧ ∀ d s, (d, s) ∈ sl → (d, s) ∈ pl ∨ (∃ s0, look st.sl d = some s0) ∧ ∃ i, st'.own i = some (.gh d (val d) s)
 | [], k, h => ⟨pl, h, fun d s hd => .inl hd⟩
 | (i, none) :: r, k, h => rst_spec (l := r) h
 | (i, some (.box t cs)) :: r, k, h => rst_spec (l := r) h
 | (i, some (.row E sz n xs)) :: r, k, h => rst_spec (l := r) h
 | (i, some (.vw _ _ _ _)) :: r, k, h => rst_spec (l := r) h
 | (i, some (.mp _ _ _ _ _ _)) :: r, k, h => rst_spec (l := r) h
 | (i, some (.nw _)) :: r, k, h => rst_spec (l := r) h
 | (i, some (.gh d0 v0 s0)) :: r, k, h => by
  simp only [rst] at h
  split at h
  ·rename_i d v s hi
   split at h
   ·rename_i s1 hs1
    cases h with
    | mk hv hk =>
     obtain ⟨sl, h1, h2⟩ := rst_spec (l := r) hk
     refine ⟨_, h1, ?_⟩
     intro d' s' hm
     rcases List.mem_cons.1 hm with he | hm
     ·cases he
      exact .inr ⟨⟨_, hs1⟩, i, by rw [hi, hv]⟩
     ·exact h2 d' s' hm
   ·exact rst_spec (l := r) h
  ·exact rst_spec (l := r) h
def finK (st st' : St) (val : Nat → Value) (pl : List (Nat × SV)) (s : SV) (K : SV → St → Prop) : Prop :=
 match st, st' with
 | ⟨sl, ow, nx, M, nt, G⟩, ⟨sl', ow', nx', M', nt', ⟨m, Y, f⟩⟩ => VFact (M.le M') (VFact (∀ b, m b = none) (rst ⟨sl, ow, nx, M, nt, G⟩ ⟨sl', ow', nx', M', nt', ⟨m, Y, f⟩⟩ val pl ow' fun sl2 => K s ⟨sl2, ow', nx', M, nt, G⟩))
def finV (C : VX) (fn : Func) (st : St) (val : Nat → Value) (pl : List (Nat × SV)) (K : SV → St → Prop) (e : Ex) (st' : St) : Prop :=
 match e with
 | .exit _ => VStuck 180
 | _ => match resSV C st' fn.results.toList with
  | some [] => finK st st' val pl (.v (.tuple #[])) K
  | some [s] => finK st st' val pl s K
  | _ => VStuck 181
theorem finK_iff {st st' : St} {val : Nat → Value} {pl : List (Nat × SV)} {s : SV} {K : SV → St → Prop} (h : finK st st' val pl s K) :
  st.M.le st'.M ∧ (∀ b, st'.G.m b = none) ∧ rst st st' val pl st'.ow fun sl2 => K s ⟨sl2, st'.ow, st'.nx, st.M, st.nt, st.G⟩ := by
 obtain ⟨sl, ow, nx, M, nt, G⟩ := st
 obtain ⟨sl', ow', nx', M', nt', ⟨m, Y, f⟩⟩ := st'
 cases h with
 | mk h1 h2 =>
  cases h2 with
  | mk h2 h3 => exact ⟨h1, h2, h3⟩
def subSl (st : St) : List (Nat × SV) → Prop
 | [] => True
 | (d, s) :: r => look st.sl d = some s ∧ subSl st r
theorem subSl_mem {st : St} : ∀ {l : List (Nat × SV)}, subSl st l → ∀ {d s}, (d, s) ∈ l → look st.sl d = some s
 | [], _, _, _, h => by cases h
 | (_, _) :: l, ⟨h1, h2⟩, d, s, h => by
  rcases List.mem_cons.1 h with he | h
  ·cases he; exact h1
  ·exact subSl_mem h2 h
def plSl : List (Nat × Value) → List (Nat × SV)
 | [] => []
 | (d, x) :: r => (d, .v x) :: plSl r
theorem plSl_mem : ∀ {l : List (Nat × Value)} {d : Nat} {s : SV}, (d, s) ∈ plSl l → ∃ x, s = .v x
 | [], _, _, h => by cases h
 | (_, x) :: l, d, s, h => by
  rcases List.mem_cons.1 h with he | h
  ·cases he; exact ⟨x, rfl⟩
  ·exact plSl_mem h
open Classical in
theorem VCall.inline {C : VX} (hC : VXOK P C) {f : Nat} {fn : Func} {c : Code} (hf : P.funcs[f]? = some fn) (hb : fn.body = some c) (hname : (fn.name == "runtime.NumGoroutine") = false)
  {st : St} {args : List SV} {K : SV → St → Prop} (hnt : Nat.ble args.length fn.ntmps = true) (slots : List (Nat × SV)) (pls : List (Nat × Value)) (hs1 : subSl st slots) (hs2 : subSl st (plSl pls))
  (h : ∀ (val : Nat → Value) (f0 : Mem), vc C P c ⟨argSV 0 args, ghs val st.nx slots st.ow, st.nx + slots.length, st.M, fn.ntmps, ⟨fun _ => none, none, f0⟩⟩ (finV C fn st val (plSl pls) K)) :
  VCall P f args st K := by
 refine ⟨Go.Proofs.enters_of hf hname hb, fun n₀ w M₀ ρ W hS hsa hss => ?_⟩
 refine (callsIn_wide (n := 100)).1 (callsIn_of_wp_marks hf hb trivial ?_ rfl)
 have hle := Nat.le_of_ble_eq_true hnt
 obtain ⟨val, hval⟩ : ∃ val : Nat → Value, val = fun d => match look st.sl d with | some s => s.den ρ | none => undef := ⟨_, rfl⟩
 obtain ⟨f0, hf0⟩ : ∃ f0 : Mem, f0 = fun b => match st.G.m b with | some o => some o | none => st.G.f b := ⟨_, rfl⟩
 obtain ⟨ρ0, hρ0⟩ : ∃ ρ0 : Env, ρ0 = fun i => if i < st.nx then ρ i else .bool true := ⟨_, rfl⟩
 have hag : Agree st.nx ρ ρ0 := fun i hi => by rw [hρ0]; simp [hi]
 have hf0s : ∀ b o, f0 b = some o → W.heap[b]? = some o ∧ ∀ i e, st.own i = some e → ob (ρ i) ≠ some b := by
  intro b o hb
  rw [hf0] at hb
  simp only at hb
  split at hb
  ·rename_i o' hm
   cases hb
   obtain ⟨p1, p2, p3⟩ := hS.pin b o hm
   refine ⟨p2, fun i e hi he => ?_⟩
   obtain ⟨_, _, o2, hh, ho⟩ := (hS.own i e hi).2.2.lt b he
   rw [hh] at p2; cases p2; rw [ho] at p1; cases p1
  ·exact hS.fpin b o hb
 obtain ⟨T, hT⟩ : ∃ T : St, T = ⟨argSV 0 args, ghs val st.nx slots st.ow, st.nx + slots.length, st.M, fn.ntmps, ⟨fun _ => none, none, f0⟩⟩ := ⟨_, rfl⟩
 have hvc := h val f0
 rw [← hT] at hvc
 -- the entries of the start: the caller's, and the ghosts
 have hown0 : ∀ i e, T.own i = some e → (i < st.nx ∧ st.own i = some e) ∨ (st.nx ≤ i ∧ i < st.nx + slots.length ∧ ∃ d s, (d, s) ∈ slots ∧ e = .gh d (val d) s) := by
  intro i e hi
  rw [hT] at hi
  unfold St.own at hi
  split at hi
  ·rename_i e' hl
   cases hi
   rcases ghs_look val slots st.nx st.ow i _ hl with ⟨h1, h2, d, s, h3, h4⟩ | hl
   ·cases h4
    exact .inr ⟨h1, h2, d, s, h3, rfl⟩
   ·have : st.own i = some e := by unfold St.own; rw [hl]
    exact .inl ⟨(hS.own i e this).1, this⟩
  ·cases hi
 have hs0 : Sat n₀ w M₀ ρ0 T { tmps := (args.map (SV.den ρ)).toArray ++ Array.replicate (fn.ntmps - (args.map (SV.den ρ)).toArray.size) undef, defers := [] } W := by
  refine ⟨⟨hS.below, hS.size, by rw [hT]; exact hS.mem, ?_, ?_, ?_, ?_, by rw [hT]; exact hS.mlow, ?_⟩, by rw [hT]; simp; omega, ?_, by rw [hT]; trivial⟩
  ·intro i e hi
   have hTnx : T.nx = st.nx + slots.length := by rw [hT]
   rw [hTnx]
   rcases hown0 i e hi with ⟨h1, h2⟩ | ⟨h1, h2, d, s, h3, rfl⟩
   ·obtain ⟨g1, g2, g3⟩ := hS.own i e h2
    exact ⟨by omega, OE.sc_mono (by omega) g2, g3.keep hag g1 g2 fun _ _ => rfl⟩
   ·have hl := subSl_mem hs1 h3
    have hsc := hss d s hl
    refine ⟨h2, SV.sc_mono (by omega) hsc, ?_, ?_⟩
    ·rw [hρ0]; simp [Nat.not_lt.2 h1, ob]
    ·rw [SV.den_agree hag hsc, hval]; simp only [hl]
  ·intro i j ei ej hi hj hij b hbi hbj
   rcases hown0 i ei hi with ⟨h1, h2⟩ | ⟨h1, h2, d, s, h3, rfl⟩
   ·rcases hown0 j ej hj with ⟨k1, k2⟩ | ⟨k1, k2, d, s, k3, rfl⟩
    ·rw [hag i h1] at hbi
     rw [hag j k1] at hbj
     exact hS.sep i j ei ej h2 k2 hij b hbi hbj
    ·rw [hρ0] at hbj; simp [Nat.not_lt.2 k1, ob] at hbj
   ·rw [hρ0] at hbi; simp [Nat.not_lt.2 h1, ob] at hbi
  ·intro i e b hi hbi
   rcases hown0 i e hi with ⟨h1, h2⟩ | ⟨h1, h2, d, s, h3, rfl⟩
   ·rw [hag i h1] at hbi
    rw [hT]
    exact hS.msep i e b h2 hbi
   ·rw [hρ0] at hbi; simp [Nat.not_lt.2 h1, ob] at hbi
  ·intro b o hbo
   rw [hT] at hbo; cases hbo
  ·intro b o hbo
   rw [hT] at hbo
   obtain ⟨q1, q2⟩ := hf0s b o hbo
   refine ⟨q1, fun i e hi he => ?_⟩
   rcases hown0 i e hi with ⟨h1, h2⟩ | ⟨h1, h2, d, s, h3, rfl⟩
   ·rw [hag i h1] at he
    exact q2 i e h2 he
   ·rw [hρ0] at he; simp [Nat.not_lt.2 h1, ob] at he
  ·intro d s hd
   rw [hT] at hd
   obtain ⟨h1, h2, h3⟩ := argSV_look args 0 d s hd
   have hmem : s ∈ args := List.mem_of_getElem? h3
   have hsc := hsa s hmem
   refine ⟨by rw [hT]; show d < fn.ntmps; omega, by rw [hT]; exact SV.sc_mono (Nat.le_add_right _ _) hsc, ?_⟩
   simp only [Nat.sub_zero] at h3
   rw [Array.getElem?_append_left (by simp; omega), SV.den_agree hag hsc]
   simp [h3]
 have hY0 : T.G.Y = none := by rw [hT]
 have := vc_sound (r := none) (n := 100) hC (κ := fun Y B => Y = none ∧ B = ⟨n₀, w, M₀⟩) (fun l tag args rest B M W hκ => by cases hκ.1) (fx := fun _ => False) (tm := #[]) (B := ⟨n₀, w, M₀⟩) c hvc (fun l hl => by cases hl) ⟨hY0, rfl⟩ hs0 (wr_false c) (fun d hd => hd.elim)
 refine wpIn_mono this ?_
 rintro e a' W' ⟨⟨ex, he, B, ρ', st', ⟨_, rfl⟩, h1, h2, h3⟩, _⟩
 have hf' : st'.G.f = f0 := by rw [h2.2, hT]
 have main : (e = .normal ∨ e = .ret) → LeavesInM (Fw none) 100 P fn a'.tmps (fun e W' => ∃ s st' ρ', e = .returned (s.den ρ') ∧ s.sc st'.nx ∧
   SatH n₀ w M₀ ρ' st' W' ∧ (∀ d s', look st'.sl d = some s' → s'.sc st'.nx ∧ ∃ s0, look st.sl d = some s0 ∧ s'.den ρ' = s0.den ρ) ∧ st'.nt = st.nt ∧ st'.G = st.G ∧ K s st') a'.defers .returning W' := by
  intro hcase
  have hsl : ∀ d s, look st'.sl d = some s → s.sc st'.nx ∧ a'.tmps[d]? = some (s.den ρ') := fun d s hd => ⟨(h1.sl d s hd).2.1, (h1.sl d s hd).2.2⟩
  have hend : ∀ (rs : List SV) (s : SV), resSV C st' fn.results.toList = some rs → ret (rs.map (SV.den ρ')) = s.den ρ' → (s.sc st'.nx) → finK st st' val (plSl pls) s K → LeavesInM (Fw none) 100 P fn a'.tmps (fun e W' => ∃ s st' ρ', e = .returned (s.den ρ') ∧ s.sc st'.nx ∧
    SatH n₀ w M₀ ρ' st' W' ∧ (∀ d s', look st'.sl d = some s' → s'.sc st'.nx ∧ ∃ s0, look st.sl d = some s0 ∧ s'.den ρ' = s0.den ρ) ∧ st'.nt = st.nt ∧ st'.G = st.G ∧ K s st') a'.defers .returning W' := by
   intro rs s hrs hret hsc hfin
   obtain ⟨hM, hm, hk⟩ := finK_iff hfin
   obtain ⟨sl2, hK, hsl2⟩ := rst_spec hk
   have hds : a'.defers = [] := marks_nil h1.marks hm
   rw [hds]
   refine ⟨s.den ρ', ?_, s, ⟨sl2, st'.ow, st'.nx, st.M, st.nt, st.G⟩, ρ', rfl, hsc, ?_, ?_, rfl, rfl, hK⟩
   ·have hr := (results_run (tmps := a'.tmps) hC h1.h hsl fn.results.toList hrs).1
    have := results_ret fn a'.tmps P _ W' hr
    rw [hret] at this
    exact this
   ·refine ⟨h1.h.below, h1.h.size, fun b o hb => h1.h.mem b o (hM b o hb), h1.h.own, h1.h.sep, fun i e b hi hb => ?_, ?_, hS.mlow, ?_⟩
    ·have hn := h1.h.msep i e b hi hb
     cases hc : st.M b with
     | none => rfl
     | some o => rw [hM b o hc] at hn; cases hn
    ·intro b o hbo
     obtain ⟨p1, p2, p3⟩ := hS.pin b o hbo
     have hfb : st'.G.f b = some o := by
      have hbo' : st.G.m b = some o := hbo
      rw [hf', hf0]; simp only [hbo']
     exact ⟨p1, (h1.h.fpin b o hfb).1, p3⟩
    ·intro b o hbo
     have hbo' : st.G.f b = some o := hbo
     have hfb : st'.G.f b = some o := by
      rw [hf', hf0]; simp only
      split
      ·rename_i o' hm'
       have q1 := (hS.pin b o' hm').2.1
       have q2 := (hS.fpin b o hbo').1
       rw [q1] at q2; cases q2; rfl
      ·exact hbo'
     exact h1.h.fpin b o hfb
   ·intro d s' hd
    rcases hsl2 d s' (look_mem hd) with hp | ⟨⟨s0, hs0'⟩, i, hi⟩
    ·have hl := subSl_mem hs2 hp
     obtain ⟨x, rfl⟩ := plSl_mem hp
     exact ⟨trivial, _, hl, rfl⟩
    ·obtain ⟨_, g2, g3⟩ := h1.h.own i _ hi
     refine ⟨g2, s0, hs0', ?_⟩
     rw [g3.2, hval]; simp only [hs0']
  have h3' : (match resSV C st' fn.results.toList with
   | some [] => finK st st' val (plSl pls) (.v (.tuple #[])) K
   | some [s] => finK st st' val (plSl pls) s K
   | _ => VStuck 181) := by
   rcases hcase with rfl | rfl <;> cases he <;> exact h3
  split at h3'
  ·rename_i hrs
   exact hend [] (.v (.tuple #[])) hrs rfl trivial h3'
  ·rename_i s hrs
   exact hend [s] s hrs rfl ((results_run (tmps := a'.tmps) hC h1.h hsl fn.results.toList hrs).2 s (by simp)) h3'
  ·cases h3'
 cases e with
 | normal => exact main (.inl rfl)
 | ret => exact main (.inr rfl)
 | exit i => cases he; cases h3
 | goto => cases he
 | panic => cases he
 | outgrown => cases he
theorem SatH.ren {n₀ : Nat} {w : World} {M₀ : Mem} {ρ : Env} {st st' : St} {W : World} (h : SatH n₀ w M₀ ρ st W) (r : Nat → Nat) (how : owOK st r st'.nx st'.ow) (hinj : injOK r st'.ow) (hM : st.M = st'.M) (hG : st.G = st'.G) :
  SatH n₀ w M₀ (fun i => ρ (r i)) st' W := by
 let T' : St := ⟨[], st'.ow, st'.nx, st'.M, 0, st.G⟩
 have hwk : SatH n₀ w M₀ (fun i => ρ (r i)) T' W := by
  have hent : ∀ id e, st'.own id = some e → (id, some e) ∈ st'.ow := fun id e he => by
   unfold St.own at he
   split at he
   ·rename_i e' hl; cases he; exact look_mem hl
   ·cases he
  have hst : ∀ id e, st'.own id = some e → id < st'.nx ∧ e.sc st'.nx ∧ ∃ e0, st.own (r id) = some e0 ∧ (∀ W, OwnOK n₀ ρ W (r id) e0 → OwnOK n₀ (fun i => ρ (r i)) W id e) := fun id e he => by
   obtain ⟨h1, h2⟩ := owOK_mem how (hent id e he)
   cases e with
   | box t cs =>
    simp only [entOK] at h2
    split at h2
    ·rename_i t' cs' ho
     obtain ⟨rfl, hc⟩ := h2
     obtain ⟨i1, i2⟩ := cellsOK_spec hc
     refine ⟨h1, i2, _, ho, ?_⟩
     rintro W ⟨B, b1, b2, b3⟩
     refine ⟨B, b1, b2, ?_⟩
     rw [b3, i1, List.map_map]
     have : SV.den ρ ∘ SV.ren r = SV.den (fun i => ρ (r i)) := funext (SV.ren_den ρ r)
     rw [this]
    ·exact h2.elim
   | row E sz n xs =>
    simp only [entOK] at h2
    split at h2
    ·rename_i E' sz' n' xs' ho
     obtain ⟨rfl, rfl, rfl, rfl⟩ := h2
     exact ⟨h1, trivial, _, ho, fun W hW => hW⟩
    ·exact h2.elim
   | gh t v s =>
    simp only [entOK] at h2
    split at h2
    ·rename_i t' v' s' ho
     obtain ⟨⟨rfl, rfl⟩, rfl, hs⟩ := h2
     exact ⟨h1, SVB_spec hs, _, ho, fun W hW => ⟨hW.1, by rw [← SV.ren_den]; exact hW.2⟩⟩
    ·exact h2.elim
   | vw sz b k n =>
    simp only [entOK] at h2
    split at h2
    ·rename_i sz' b' k' n' ho
     obtain ⟨⟨rfl, rfl⟩, ⟨rfl, rfl⟩, hb⟩ := h2
     exact ⟨h1, Nat.le_of_ble_eq_true hb, _, ho, fun W hW => hW⟩
    ·exact h2.elim
   | mp P t k e B ks =>
    simp only [entOK] at h2
    split at h2
    ·rename_i P' t' k' e' B' ks' ho
     obtain ⟨⟨rfl, rfl, rfl⟩, rfl, rfl, rfl⟩ := h2
     exact ⟨h1, trivial, _, ho, fun W hW => hW⟩
    ·exact h2.elim
   | nw B =>
    simp only [entOK] at h2
    split at h2
    ·rename_i B' ho
     subst h2
     exact ⟨h1, trivial, _, ho, fun W hW => hW⟩
    ·exact h2.elim
  have hin : ∀ id e, st'.own id = some e → id ∈ st'.ow.map (·.1) := fun id e he => List.mem_map.2 ⟨_, hent id e he, rfl⟩
  refine ⟨h.below, h.size, fun b o hb => h.mem b o (by rw [hM]; exact hb), ?_, ?_, ?_, ?_, fun b hb => by show st'.M b = _; rw [← hM]; exact h.mlow b hb, ?_⟩
  ·intro id e he
   obtain ⟨h1, h2, e0, h3, h4⟩ := hst id e he
   exact ⟨h1, h2, h4 W (h.own _ _ h3).2.2⟩
  ·intro i j ei ej hi hj hij b
   obtain ⟨_, _, e1, h3, _⟩ := hst i ei hi
   obtain ⟨_, _, e2, h4, _⟩ := hst j ej hj
   exact h.sep (r i) (r j) e1 e2 h3 h4 (injOK_spec hinj i j (hin i ei hi) (hin j ej hj) hij) b
  ·intro i e b hi hb
   obtain ⟨_, _, e1, h3, _⟩ := hst i e hi
   have := h.msep (r i) e1 b h3 hb
   show st'.M b = none
   rw [← hM]; exact this
  ·intro b o hb
   obtain ⟨h1, h2, h3⟩ := h.pin b o hb
   refine ⟨h1, h2, ?_⟩
   show st'.M b = none
   rw [← hM]; exact h3
  ·intro b o hb
   obtain ⟨h1, h2⟩ := h.fpin b o hb
   refine ⟨h1, fun i e hi => ?_⟩
   obtain ⟨_, _, e0, h3, _⟩ := hst i e hi
   exact h2 (r i) e0 h3
 exact hwk.same rfl rfl rfl hG.symm
theorem VCall.wk {st st1 : St} {f : Nat} {args args1 : List SV} {K : SV → St → Prop} (r : Nat → Nat) (ha : args = args1.map (SV.ren r)) (hab : args1.all (SVB st1.nx) = true) (hsl : slOK st r st1.nx st1.sl) (how : owOK st r st1.nx st1.ow) (hinj : injOK r st1.ow) (hM : st.M = st1.M) (hnt : st.nt = st1.nt) (hG : st.G = st1.G)
  (h : VCall P f args1 st1 K) : VCall P f args st K := by
 refine ⟨h.ent, fun n₀ w M₀ ρ W hS hsa hss => ?_⟩
 have h1 := hS.ren r how hinj hM hG
 have hargs : args.map (SV.den ρ) = args1.map (SV.den fun i => ρ (r i)) := by
  rw [ha, List.map_map]
  exact List.map_congr_left fun s _ => SV.ren_den ρ r s
 rw [hargs]
 have hsl1 : ∀ d s, look st1.sl d = some s → look st.sl d = some (s.ren r) ∧ s.sc st1.nx := fun d s hd => slOK_mem hsl (look_mem hd)
 refine (h.run n₀ w M₀ _ W h1 (fun s hs => SVB_spec (List.all_eq_true.1 hab s hs)) (fun d s hd => (hsl1 d s hd).2)).mono ?_
 rintro e W' ⟨s, st', ρ', rfl, g4, g5, g7, g8, g10, g9⟩
 refine ⟨s, st', ρ', rfl, g4, g5, ?_, by rw [g8, hnt], by rw [g10, hG], g9⟩
 intro d s' hd
 obtain ⟨q1, s0, q2, q3⟩ := g7 d s' hd
 exact ⟨q1, _, (hsl1 d s0 q2).1, by rw [q3, SV.ren_den]⟩
structure Left (st' : St) (s : SV) (st2 : St) (s2 : SV) : Prop where
 w : ∃ r : Nat → Nat, s = s2.ren r ∧ SVB st2.nx s2 = true ∧ slOK st' r st2.nx st2.sl ∧ owOK st' r st2.nx st2.ow ∧ injOK r st2.ow
 m : st'.M = st2.M
 nt : st'.nt = st2.nt
 g : st'.G = st2.G
theorem VCall.post {st : St} {f : Nat} {args : List SV} {K : SV → St → Prop} (h : VCall P f args st fun s st' => ∃ s2 st2, Left st' s st2 s2 ∧ K s2 st2) : VCall P f args st K := by
 refine ⟨h.ent, fun n₀ w M₀ ρ W hS hsa hss => ?_⟩
 refine (h.run n₀ w M₀ _ W hS hsa hss).mono ?_
 rintro e W' ⟨s, st', ρ', rfl, g4, g5, g7, g8, g10, s2, st2, ⟨⟨r, h1, h2, h3, h4, h5⟩, hm, hnt, hg⟩, hK⟩
 refine ⟨s2, st2, fun i => ρ' (r i), by rw [h1, SV.ren_den], SVB_spec h2, g5.ren r h4 h5 hm hg, ?_, by rw [← hnt, g8], by rw [← hg, g10], hK⟩
 intro d s' hd
 obtain ⟨q1, q2⟩ := slOK_mem h3 (look_mem hd)
 obtain ⟨_, s0, k2, k3⟩ := g7 d _ q1
 exact ⟨q2, s0, k2, by rw [← k3, SV.ren_den]⟩
end Go.V
namespace Go.Proofs.YtdfhnemhkpplbaaGreatDoor
open Go Go.V Go.RowKit
theorem cellsP_length (ps : List Pt) : (cellsP ps).length = ps.length * 2 := cellsP_len ps
set_option maxHeartbeats 1000000 in
theorem Compact_call {n nt : Nat} {xs : List Value} {ps : List Pt} {M : Mem} {G : Gh} {K : SV → St → Prop} (hn : n = ps.length) (hx : xs = cellsP ps) (hsz : ps.length < 4611686018427387904)
  (hK : K (.row 0) ⟨[], [(0, some (.row 24 2 (compactP ps).length (cellsP (compactP ps))))], 1, M, nt, G⟩) :
  VCall Tryz.prog 86 [.row 0] ⟨[], [(0, some (.row 24 2 n xs))], 1, M, nt, G⟩ K := by
 subst hn; subst hx
 refine VCall.post ?_
 refine VCall.inline cxOK Tryz.func86 rfl rfl rfl [] [] trivial trivial ?_
 intro val f0
 repeat (first | refine VIf.tt ?_ | refine VIf.ff ?_)
 refine VIf.mk (fun h => ?_) (fun h => ?_)
 ·have h := lt_of_dec h
  repeat (first | refine VIf.tt ?_ | refine VIf.ff ?_)
  refine VFact.mk (fun _ _ h => h) ?_
  repeat (first | refine VIf.tt ?_ | refine VIf.ff ?_)
  refine VFact.mk (fun _ => rfl) ?_
  have e : compactP ps = ps := compactP_short (by omega)
  exact ⟨_, ⟨[], [(0, some (.row 24 2 (compactP ps).length (cellsP (compactP ps))))], 1, M, nt, G⟩, ⟨⟨fun _ => 0, rfl, rfl, trivial, ⟨⟨rfl, rfl, rfl, by rw [e], by rw [e]⟩, trivial⟩, injOK_one _ _ _⟩, rfl, rfl, rfl⟩, hK⟩
 have h := ge_of_dec h
 repeat (first | refine VIf.tt ?_ | refine VIf.ff ?_)
 refine VCode.loopG cxOK (fun m => m = fun _ => none) rfl Nat (fun k => ⟨[(0, .row 0), (3, .v (.int .i64 k))], [(0, some (.row 24 2 ps.length (cellsP ps)))], 1, M, 61, ⟨fun _ => none, none, f0⟩⟩)
  (fun k => 1 ≤ k ∧ k ≤ ps.length ∧ ∀ j, j < k → keepB ps j = true) (fun k => ps.length - k) 1 ⟨Nat.le_refl _, Nat.le_of_succ_le h, fun j (hj : j < 1) => (Nat.lt_one_iff.1 hj).symm ▸ rfl⟩ (Wk.mk' id (by repeat' constructor) (by repeat' constructor) (injOK_id _) rfl rfl rfl) ?_
 rintro k ⟨hk1, hk2, hk3⟩ m rfl
 repeat (first | refine VIf.tt ?_ | refine VIf.ff ?_)
 refine VIf.mk (fun hlt => ?_) (fun hge => ?_)
 ·have hlt := lt_of_dec hlt
  repeat (first | refine VIf.tt ?_ | refine VIf.ff ?_)
  refine VDraw.go (by kernel_rfl) ?_
  repeat (first | refine VIf.tt ?_ | refine VIf.ff ?_)
  refine VIdxR.mk k rfl hlt ?_
  repeat (first | refine VIf.tt ?_ | refine VIf.ff ?_)
  refine VCells.mk [.int .i64 (gp ps k).1, .int .i64 (gp ps k).2] rfl (rowP_get ps hlt) ?_
  repeat (first | refine VIf.tt ?_ | refine VIf.ff ?_)
  refine VArith.ok (by first | omega | (simp only; omega)) (by first | omega | (simp only; omega)) ?_
  repeat (first | refine VIf.tt ?_ | refine VIf.ff ?_)
  refine VIdxR.mk (k - 1) (by omega) (by omega) ?_
  repeat (first | refine VIf.tt ?_ | refine VIf.ff ?_)
  refine VCells.mk [.int .i64 (gp ps (k - 1)).1, .int .i64 (gp ps (k - 1)).2] rfl (rowP_get ps (by omega)) ?_
  repeat (first | refine VIf.tt ?_ | refine VIf.ff ?_)
  refine VIf.mk (fun hd => ?_) (fun hd => ?_)
  ·
   have hkk : keepB ps k = false := by
    simp only [eqRes, Bool.and_eq_true, beq_iff_eq] at hd
    simp only [keepB, Bool.or_eq_false_iff, beq_eq_false_iff_ne, bne_eq_false_iff_eq]
    exact ⟨by omega, Prod.ext hd.1 hd.2⟩
   have hm : midP ps (k + 1) = ps := by
    rw [← midP_skip ps hkk]
    unfold midP
    rw [comp_all ps k hk2 hk3, List.length_take, Nat.min_eq_left hk2, List.take_append_drop]
   have hc : (comp ps (k + 1)).length = k := by
    rw [comp_succ, if_neg (by rw [hkk]; exact Bool.false_ne_true), comp_all ps k hk2 hk3, List.length_take, Nat.min_eq_left hk2]
   repeat (first | refine VIf.tt ?_ | refine VIf.ff ?_)
   refine VFact.mk (by omega) ?_
   repeat (first | refine VIf.tt ?_ | refine VIf.ff ?_)
   refine VBnd.mk k rfl hk2 ?_
   repeat (first | refine VIf.tt ?_ | refine VIf.ff ?_)
   refine VFact.mk hlt ?_
   repeat (first | refine VIf.tt ?_ | refine VIf.ff ?_)
   refine VCode.loopG cxOK (fun m => m = fun _ => none) rfl (Nat × Nat × List Value) (fun (⟨kk, k2, ys⟩ : Nat × Nat × List Value) => ⟨[(0, .row 0), (3, .v (.int .i64 kk)), (4, .row 1), (5, .v (.int .i64 k2))], [(0, some (.row 24 2 ps.length ys)), (1, some (.vw 2 0 k (ps.length - k)))], 2, M, 61, ⟨fun _ => none, none, f0⟩⟩)
    (fun (⟨kk, k2, ys⟩ : Nat × Nat × List Value) => 1 ≤ k2 ∧ k + k2 ≤ ps.length ∧ kk = (comp ps (k + k2)).length ∧ ys = cellsP (midP ps (k + k2)) ∧ kk + 1 ≤ k + k2) (fun (⟨_, k2, _⟩ : Nat × Nat × List Value) => ps.length - k2) (k, 1, cellsP ps) ⟨Nat.le_refl _, hlt, hc.symm, by rw [hm], Nat.le_refl _⟩ ?_ ?_
   ·refine Wk.mk' (fun i => i) (by repeat' constructor) (by repeat' constructor) (injOK_id _) rfl rfl rfl
   rintro ⟨kk, k2, ys⟩ ⟨h1, h2, h3, h4, h5⟩ m rfl
   subst h4
   have hml := midP_len ps (j := k + k2) h2
   repeat (first | refine VIf.tt ?_ | refine VIf.ff ?_)
   refine VIf.mk (fun hl2 => ?_) (fun hg2 => ?_)
   ·have hl2 := lt_of_dec hl2
    have hj : k + k2 < ps.length := by omega
    repeat (first | refine VIf.tt ?_ | refine VIf.ff ?_)
    refine VDraw.go (by kernel_rfl) ?_
    repeat (first | refine VIf.tt ?_ | refine VIf.ff ?_)
    refine VIdxR.mk k2 rfl hl2 ?_
    repeat (first | refine VIf.tt ?_ | refine VIf.ff ?_)
    refine VCells.mk [.int .i64 (gp ps (k + k2)).1, .int .i64 (gp ps (k + k2)).2] rfl ?_ ?_
    ·rw [← midP_get ps (j := k + k2) (i := k + k2) (by omega)]
     exact rowP_get _ (by omega)
    repeat (first | refine VIf.tt ?_ | refine VIf.ff ?_)
    refine VArith.ok (by first | omega | (simp only; omega)) (by first | omega | (simp only; omega)) ?_
    repeat (first | refine VIf.tt ?_ | refine VIf.ff ?_)
    refine VIdxR.mk (k2 - 1) (by omega) (by omega) ?_
    repeat (first | refine VIf.tt ?_ | refine VIf.ff ?_)
    refine VCells.mk [.int .i64 (gp ps (k + (k2 - 1))).1, .int .i64 (gp ps (k + (k2 - 1))).2] rfl ?_ ?_
    ·rw [← midP_get ps (j := k + k2) (i := k + (k2 - 1)) (by omega)]
     exact rowP_get _ (by omega)
    repeat (first | refine VIf.tt ?_ | refine VIf.ff ?_)
    refine VIf.mk (fun hd => ?_) (fun hd => ?_)
    ·have hkj : keepB ps (k + k2) = true := by
      simp only [eqRes, Bool.not_eq_true', Bool.and_eq_false_iff, beq_eq_false_iff_ne] at hd
      simp only [keepB, Bool.or_eq_true, beq_iff_eq, bne_iff_ne]
      refine .inr fun e => ?_
      rw [show k + k2 - 1 = k + (k2 - 1) by omega] at e
      rw [e] at hd
      simp at hd
     repeat (first | refine VIf.tt ?_ | refine VIf.ff ?_)
     refine VIdxR.mk k2 rfl hl2 ?_
     repeat (first | refine VIf.tt ?_ | refine VIf.ff ?_)
     refine VCells.mk [.int .i64 (gp ps (k + k2)).1, .int .i64 (gp ps (k + k2)).2] rfl ?_ ?_
     ·rw [← midP_get ps (j := k + k2) (i := k + k2) (by omega)]
      exact rowP_get _ (by omega)
     repeat (first | refine VIf.tt ?_ | refine VIf.ff ?_)
     refine VIdxR.mk kk rfl (by omega) ?_
     have hfit : kk * 2 + 2 ≤ (cellsP (midP ps (k + k2))).length := by rw [cellsP_length, hml]; omega
     repeat (first | refine VIf.tt ?_ | refine VIf.ff ?_)
     refine VFact.mk hfit ?_
     repeat (first | refine VIf.tt ?_ | refine VIf.ff ?_)
     refine VArith.ok (by first | omega | (simp only; omega)) (by first | omega | (simp only; omega)) ?_
     repeat (first | refine VIf.tt ?_ | refine VIf.ff ?_)
     refine VArith.ok (by first | omega | (simp only; omega)) (by first | omega | (simp only; omega)) ?_
     refine ⟨rfl, (kk + 1, k2 + 1, rput (cellsP (midP ps (k + k2))) (kk * 2) [.int .i64 (gp ps (k + k2)).1, .int .i64 (gp ps (k + k2)).2]), ⟨by omega, by omega, ?_, ?_, by omega⟩, ?_, (Wk.mk' id (by repeat' constructor) (by repeat' constructor) (injOK_id _) rfl rfl rfl)⟩
     ·rw [show k + (k2 + 1) = k + k2 + 1 by omega, comp_succ, if_pos hkj]
      simp [h3]
     ·rw [show k + (k2 + 1) = k + k2 + 1 by omega, ← midP_set ps hj hkj, ← h3, cellsP_put _ _ _ (by omega)]
     ·show ps.length - (k2 + 1) < ps.length - k2
      omega
    ·have hkj : keepB ps (k + k2) = false := by
      simp only [eqRes, Bool.not_eq_false', Bool.and_eq_true, beq_iff_eq] at hd
      simp only [keepB, Bool.or_eq_false_iff, beq_eq_false_iff_ne, bne_eq_false_iff_eq]
      rw [show k + k2 - 1 = k + (k2 - 1) by omega]
      exact ⟨by omega, Prod.ext hd.1 hd.2⟩
     repeat (first | refine VIf.tt ?_ | refine VIf.ff ?_)
     refine VArith.ok (by first | omega | (simp only; omega)) (by first | omega | (simp only; omega)) ?_
     refine ⟨rfl, (kk, k2 + 1, cellsP (midP ps (k + k2))), ⟨by omega, by omega, ?_, ?_, by omega⟩, ?_, (Wk.mk' id (by repeat' constructor) (by repeat' constructor) (injOK_id _) rfl rfl rfl)⟩
     ·rw [show k + (k2 + 1) = k + k2 + 1 by omega, comp_succ, if_neg (by rw [hkj]; exact Bool.false_ne_true)]
      exact h3
     ·rw [show k + (k2 + 1) = k + k2 + 1 by omega, ← midP_skip ps hkj]
     ·show ps.length - (k2 + 1) < ps.length - k2
      omega
   ·have : k + k2 = ps.length := by have := ge_of_dec hg2; omega
    rw [this] at h3 h5 hml ⊢
    have hkn : kk < ps.length := by omega
    repeat (first | refine VIf.tt ?_ | refine VIf.ff ?_)
    refine VFact.mk (by omega) ?_
    repeat (first | refine VIf.tt ?_ | refine VIf.ff ?_)
    refine VBnd.mk kk rfl (by omega) ?_
    repeat (first | refine VIf.tt ?_ | refine VIf.ff ?_)
    refine VFact.mk hkn ?_
    repeat (first | refine VIf.tt ?_ | refine VIf.ff ?_)
    refine VFact.mk ⟨by omega, by rw [cellsP_length, hml]; omega⟩ ?_
    repeat (first | refine VIf.tt ?_ | refine VIf.ff ?_)
    refine VBnd.mk kk rfl (by omega) ?_
    repeat (first | refine VIf.tt ?_ | refine VIf.ff ?_)
    refine VFact.mk (fun _ _ h => h) ?_
    repeat (first | refine VIf.tt ?_ | refine VIf.ff ?_)
    refine VFact.mk (fun _ => rfl) ?_
    refine ⟨_, ⟨[], [(0, some (.row 24 2 (compactP ps).length (cellsP (compactP ps))))], 1, M, nt, G⟩, ⟨⟨fun _ => 3, rfl, rfl, trivial, ⟨⟨rfl, rfl, rfl, ?_, ?_⟩, trivial⟩, injOK_one _ _ _⟩, rfl, rfl, rfl⟩, hK⟩
    ·exact h3.symm
    ·rw [rput_take_off (by rw [cellsP_length, hml]; omega), cellsP_take, h3]
     unfold midP
     rw [List.take_left]
     rfl
  ·have hkk : keepB ps k = true := by
    simp only [eqRes, Bool.and_eq_false_iff, beq_eq_false_iff_ne] at hd
    simp only [keepB, Bool.or_eq_true, beq_iff_eq, bne_iff_ne]
    refine .inr fun e => ?_
    rw [e] at hd
    simp at hd
   repeat (first | refine VIf.tt ?_ | refine VIf.ff ?_)
   refine VArith.ok (by first | omega | (simp only; omega)) (by first | omega | (simp only; omega)) ?_
   refine ⟨rfl, k + 1, ⟨by omega, by omega, fun j hj => ?_⟩, (by first | omega | (simp only; omega)), (Wk.mk' id (by repeat' constructor) (by repeat' constructor) (injOK_id _) rfl rfl rfl)⟩
   by_cases e : j = k
   ·subst e; exact hkk
   ·exact hk3 j (by omega)
 ·have : k = ps.length := by have := ge_of_dec hge; omega
  subst this
  repeat (first | refine VIf.tt ?_ | refine VIf.ff ?_)
  refine VFact.mk (fun _ _ h => h) ?_
  repeat (first | refine VIf.tt ?_ | refine VIf.ff ?_)
  refine VFact.mk (fun _ => rfl) ?_
  have e : compactP ps = ps := by
   unfold compactP
   rw [comp_all ps _ (Nat.le_refl _) hk3, List.take_length]
  exact ⟨_, ⟨[], [(0, some (.row 24 2 (compactP ps).length (cellsP (compactP ps))))], 1, M, nt, G⟩, ⟨⟨fun _ => 0, rfl, rfl, trivial, ⟨⟨rfl, rfl, rfl, by rw [e], by rw [e]⟩, trivial⟩, injOK_one _ _ _⟩, rfl, rfl, rfl⟩, hK⟩
end Go.Proofs.YtdfhnemhkpplbaaGreatDoor
namespace Go.Proofs.YtdfhnemhkpplbaaGreatDoor
open Go
def aff (a b c : Int) (p : Pt) : Int := a * p.1 + b * p.2 + c
theorem seg_x (p q x : Pt) (a b c : Int) : (q.1 - p.1) * aff a b c x = (q.1 - x.1) * aff a b c p + (x.1 - p.1) * aff a b c q + b * crossP p q x := by
 unfold aff crossP cross; grind
theorem seg_y (p q x : Pt) (a b c : Int) : (q.2 - p.2) * aff a b c x = (q.2 - x.2) * aff a b c p + (x.2 - p.2) * aff a b c q - a * crossP p q x := by
 unfold aff crossP cross; grind
theorem bary (p q r x : Pt) (a b c : Int) : crossP p q r * aff a b c x = crossP q r x * aff a b c p + crossP r p x * aff a b c q + crossP p q x * aff a b c r := by
 unfold aff crossP cross; grind
theorem cross_rot (p q r : Pt) : crossP q r p = crossP p q r := by unfold crossP cross; grind
theorem cross_flip (p q r : Pt) : crossP q p r = - crossP p q r := by unfold crossP cross; grind
theorem pos_of_mul {t y : Int} (ht : 0 < t) (h : 0 ≤ t * y) : 0 ≤ y := Int.not_lt.1 fun hy => by
 have := Int.mul_neg_of_pos_of_neg ht hy
 omega
theorem sign_change (c : Nat → Int) : ∀ m : Nat, 0 ≤ c 1 → c (m + 2) ≤ 0 → ∃ i, 1 ≤ i ∧ i ≤ m + 1 ∧ 0 ≤ c i ∧ c (i + 1) ≤ 0
 | 0, h1, h2 => ⟨1, by omega, by omega, h1, h2⟩
 | m + 1, h1, h2 => by
  by_cases h : c (m + 2) ≤ 0
  ·obtain ⟨i, a, b, d, e⟩ := sign_change c m h1 h
   exact ⟨i, a, by omega, d, e⟩
  ·exact ⟨m + 2, by omega, by omega, by omega, h2⟩
theorem valid_first {ps : List Pt} (h : validB ps = true) {i : Nat} (h0 : 0 < i) (hi : i < ps.length) : cmpPt (gp ps 0) (gp ps i) < 0 := by
 simp only [validB, Bool.and_eq_true, all_iff, v1B, Bool.or_eq_true, decide_eq_true_eq, beq_iff_eq] at h
 rcases (h.1.2 i hi).2 with h | h
 ·omega
 ·exact h
theorem cmp_lt {p q : Pt} (h : cmpPt p q < 0) : p.1 < q.1 ∨ p.1 = q.1 ∧ p.2 < q.2 := by
 unfold cmpPt cmpP cmpI at h
 split at h <;> split at h <;> (try split at h) <;> omega
theorem valid_side {ps : List Pt} (h : validB ps = true) (h3 : ¬ ps.length < 3) {i : Nat} (hi : i < ps.length) {k : Nat} (hk : k < ps.length) :
  gp ps k = gp ps i ∨ gp ps k = gp ps ((i + 1) % ps.length) ∨ 0 < crossP (gp ps i) (gp ps ((i + 1) % ps.length)) (gp ps k) := by
 simp only [validB, Bool.and_eq_true, Bool.or_eq_true, decide_eq_true_eq, all_iff, v3B, v2B, beq_iff_eq] at h
 rcases h.2 with h | h
 ·exact absurd h h3
 ·rcases h i hi k hk with (h | h) | h
  ·exact .inl h
  ·exact .inr (.inl h)
  ·exact .inr (.inr h)
theorem len_one {ps : List Pt} (h : validB ps = true) : 1 ≤ ps.length ∧ ps.length ≤ 64 := by simp only [validB, Bool.and_eq_true, decide_eq_true_eq] at h; exact h.1.1
theorem at_corners {ps : List Pt} (h : validB ps = true) {x : Pt} (hx : hasB ps x = true) (a b c : Int) (hc : ∀ i, i < ps.length → 0 ≤ aff a b c (gp ps i)) : 0 ≤ aff a b c x := by
 have hn := (len_one h).1
 unfold hasB at hx
 split at hx
 ·have : gp ps 0 = x := by simpa using hx
  rw [← this]; exact hc 0 (by omega)
 split at hx
 ·rename_i h1 h2
  simp only [Bool.and_eq_true, decide_eq_true_eq, betwB] at hx
  obtain ⟨hz, b1, b2, b3, b4⟩ := hx
  have hl := cmp_lt (valid_first h (i := 1) (by omega) (by omega))
  have c0 := hc 0 (by omega)
  have c1 := hc 1 (by omega)
  rcases hl with hl | ⟨he, hl⟩
  ·refine pos_of_mul (t := (gp ps 1).1 - (gp ps 0).1) (by omega) ?_
   rw [seg_x, hz]
   have g1 := Int.mul_nonneg (show 0 ≤ (gp ps 1).1 - x.1 by omega) c0
   have g2 := Int.mul_nonneg (show 0 ≤ x.1 - (gp ps 0).1 by omega) c1
   omega
  ·refine pos_of_mul (t := (gp ps 1).2 - (gp ps 0).2) (by omega) ?_
   rw [seg_y, hz]
   have g1 := Int.mul_nonneg (show 0 ≤ (gp ps 1).2 - x.2 by omega) c0
   have g2 := Int.mul_nonneg (show 0 ≤ x.2 - (gp ps 0).2 by omega) c1
   omega
 ·rename_i h1 h2
  have h3 : ¬ ps.length < 3 := by omega
  have hs : ∀ i, i < ps.length → 0 ≤ crossP (gp ps i) (gp ps ((i + 1) % ps.length)) x := fun i hi => by
   have := all_iff.1 hx i hi
   simpa [sideB] using this
  have s0 := hs 0 (by omega)
  rw [Nat.mod_eq_of_lt (show 0 + 1 < ps.length by omega)] at s0
  have sn := hs (ps.length - 1) (by omega)
  rw [show ps.length - 1 + 1 = ps.length by omega, Nat.mod_self] at sn
  obtain ⟨i, i1, i2, p1, p2⟩ := sign_change (fun i => crossP (gp ps 0) (gp ps i) x) (ps.length - 3) s0 (by
   show crossP (gp ps 0) (gp ps (ps.length - 3 + 2)) x ≤ 0
   rw [show ps.length - 3 + 2 = ps.length - 1 by omega, cross_flip]; omega)
  have hsi := hs i (by omega)
  rw [Nat.mod_eq_of_lt (show i + 1 < ps.length by omega)] at hsi
  have ht : 0 < crossP (gp ps 0) (gp ps i) (gp ps (i + 1)) := by
   have := valid_side h h3 (i := i) (by omega) (k := 0) (by omega)
   rw [Nat.mod_eq_of_lt (show i + 1 < ps.length by omega)] at this
   rcases this with e | e | e
   ·exact absurd e.symm (lt_ne (valid_first h (by omega) (by omega)))
   ·exact absurd e.symm (lt_ne (valid_first h (by omega) (by omega)))
   ·rw [cross_rot] at e; exact e
  refine pos_of_mul ht ?_
  rw [bary]
  have g1 := Int.mul_nonneg hsi (hc 0 (by omega))
  have g2 := Int.mul_nonneg (show 0 ≤ crossP (gp ps (i + 1)) (gp ps 0) x by rw [cross_flip]; omega) (hc i (by omega))
  have g3 := Int.mul_nonneg p1 (hc (i + 1) (by omega))
  omega
theorem cross_aff (p q x : Pt) : crossP p q x = aff (-(q.2 - p.2)) (q.1 - p.1) ((q.2 - p.2) * p.1 - (q.1 - p.1) * p.2) x := by unfold aff crossP cross; grind
end Go.Proofs.YtdfhnemhkpplbaaGreatDoor
namespace Go.Proofs.YtdfhnemhkpplbaaGreatDoor
open Go
def lexLt (a b : Pt) : Prop := a.1 < b.1 ∨ a.1 = b.1 ∧ a.2 < b.2
def lexLe (a b : Pt) : Prop := a.1 < b.1 ∨ a.1 = b.1 ∧ a.2 ≤ b.2
theorem lexLt_trans {a b c : Pt} (h : lexLt a b) (k : lexLt b c) : lexLt a c := by unfold lexLt at *; omega
theorem lexLt_irrefl (a : Pt) : ¬ lexLt a a := by unfold lexLt; omega
theorem lexLe_of_lt {a b : Pt} (h : lexLt a b) : lexLe a b := by unfold lexLt at h; unfold lexLe; omega
theorem lexLe_refl (a : Pt) : lexLe a a := by unfold lexLe; omega
theorem lexLe_cases {a b : Pt} (h : lexLe a b) : lexLt a b ∨ a = b := by
 unfold lexLe at h; unfold lexLt
 rcases h with h | ⟨h1, h2⟩
 ·exact .inl (.inl h)
 ·by_cases h3 : a.2 = b.2
  ·exact .inr (Prod.ext h1 h3)
  ·exact .inl (.inr ⟨h1, by omega⟩)
theorem lexLe_antisymm {a b : Pt} (h : lexLe a b) (k : lexLe b a) : a = b := by
 unfold lexLe at *
 exact Prod.ext (by omega) (by omega)
theorem lex_total (a b : Pt) : lexLt a b ∨ a = b ∨ lexLt b a := by
 unfold lexLt
 by_cases h : a.1 = b.1
 ·by_cases h2 : a.2 = b.2
  ·exact .inr (.inl (Prod.ext h h2))
  ·omega
 ·omega
theorem lex_not {a b : Pt} (h : ¬ lexLt a b) : lexLe b a := by unfold lexLt at h; unfold lexLe; omega
theorem lexLt_not {a b : Pt} (h : lexLt a b) : ¬ lexLe b a := by unfold lexLt at h; unfold lexLe; omega
def cr (u v : Pt) : Int := u.1 * v.2 - u.2 * v.1
def dv (a b : Pt) : Pt := (b.1 - a.1, b.2 - a.2)
def lp (u : Pt) : Prop := 0 < u.1 ∨ u.1 = 0 ∧ 0 < u.2
theorem lp_dv {a b : Pt} : lp (dv a b) ↔ lexLt a b := by unfold lp dv lexLt; simp only; omega
theorem crossP_cr (a b c : Pt) : crossP a b c = cr (dv a b) (dv a c) := by unfold crossP cross cr dv; rfl
theorem crossP_cr' (a b c : Pt) : crossP a b c = cr (dv a b) (dv b c) := by unfold crossP cross cr dv; grind
theorem cr_id (u v w : Pt) : v.1 * cr u w = u.1 * cr v w + w.1 * cr u v := by unfold cr; grind
theorem cr_anti (u v : Pt) : cr u v = - cr v u := by unfold cr; grind
theorem cr_lt {u v w : Pt} (hu : lp u) (hv : lp v) (hw : lp w) (h1 : 0 ≤ cr u v) (h2 : 0 < cr v w) : 0 < cr u w := by
 have hid := cr_id u v w
 rcases hv with hv | ⟨hv, hv2⟩
 ·rcases hu with hu | ⟨hu, hu2⟩
  ·have g1 := Int.mul_pos hu h2
   have g2 : 0 ≤ w.1 * cr u v := Int.mul_nonneg (by unfold lp at hw; omega) h1
   exact Int.not_le.1 fun h => by
    have := Int.mul_nonneg (Int.le_of_lt hv) (show 0 ≤ - cr u w by omega)
    rw [Int.mul_neg] at this
    omega
  ·exfalso
   unfold cr at h1
   rw [hu] at h1
   have := Int.mul_pos hu2 hv
   omega
 ·exfalso
  unfold cr at h2
  rw [hv] at h2
  have hw1 : 0 ≤ w.1 := by unfold lp at hw; omega
  have := Int.mul_nonneg (Int.le_of_lt hv2) hw1
  omega
theorem cr_le {u v w : Pt} (hu : lp u) (hv : lp v) (hw : lp w) (h1 : 0 ≤ cr u v) (h2 : 0 ≤ cr v w) : 0 ≤ cr u w := by
 have hid := cr_id u v w
 have hu1 : 0 ≤ u.1 := by unfold lp at hu; omega
 have hw1 : 0 ≤ w.1 := by unfold lp at hw; omega
 rcases hv with hv | ⟨hv, hv2⟩
 ·have g1 := Int.mul_nonneg hu1 h2
  have g2 := Int.mul_nonneg hw1 h1
  refine pos_of_mul hv ?_
  omega
 ·unfold cr at h1 h2 ⊢
  rw [hv] at h1 h2
  have hw0 : w.1 = 0 := by
   rcases Int.lt_or_eq_of_le hw1 with h | h
   ·have := Int.mul_pos hv2 h
    omega
   ·exact h.symm
  have hw2 : 0 < w.2 := by unfold lp at hw; omega
  rw [hw0]
  have := Int.mul_nonneg hu1 (Int.le_of_lt hw2)
  omega
def E (S : List Pt) (a b : Pt) : Prop := a ∈ S ∧ b ∈ S ∧ a ≠ b ∧ ∀ y ∈ S, 0 < crossP a b y ∨ crossP a b y = 0 ∧ betwB a b y = true
instance (S : List Pt) (a b : Pt) : Decidable (E S a b) := by unfold E; infer_instance
theorem E_next {S : List Pt} {a b b' : Pt} (h : E S a b) (k : E S a b') : b = b' := by
 obtain ⟨_, hb, _, h4⟩ := h
 obtain ⟨_, hb', _, k4⟩ := k
 have e := crossP_swap a b b'
 have h5 := h4 b' hb'
 have k5 := k4 b hb
 simp only [betwB, decide_eq_true_eq] at h5 k5
 exact Prod.ext (by omega) (by omega)
theorem E_sub {S T : List Pt} {a b : Pt} (h : E S a b) (hT : ∀ x ∈ T, x ∈ S) (ha : a ∈ T) (hb : b ∈ T) : E T a b := ⟨ha, hb, h.2.2.1, fun y hy => h.2.2.2 y (hT y hy)⟩
def Edge (S : List Pt) (a b : Pt) : Prop := a ∈ S ∧ b ∈ S ∧ lexLt a b ∧ ∀ y ∈ S, 0 < crossP a b y ∨ crossP a b y = 0 ∧ lexLe a y ∧ lexLe y b
theorem betw_of_lex {a b y : Pt} (h : lexLt a b) (hz : crossP a b y = 0) (h1 : lexLe a y) (h2 : lexLe y b) : betwB a b y = true := by
 unfold crossP cross at hz
 simp only [betwB, decide_eq_true_eq]
 unfold lexLt at h; unfold lexLe at h1 h2
 rcases h with h | ⟨h, h'⟩
 ·have d1 : 0 ≤ y.1 - a.1 := by omega
  have d2 : 0 ≤ b.1 - y.1 := by omega
  have d3 : 0 < b.1 - a.1 := by omega
  have key : ∀ z : Int, 0 ≤ (b.1 - a.1) * z → 0 ≤ z := fun z hz => pos_of_mul d3 hz
  by_cases hs : a.2 ≤ b.2
  ·have e1 := key (y.2 - a.2) (by
    have := Int.mul_nonneg (show 0 ≤ b.2 - a.2 by omega) d1
    omega)
   have e2 := key (b.2 - y.2) (by
    have := Int.mul_nonneg (show 0 ≤ b.2 - a.2 by omega) d2
    have e : (b.1 - a.1) * (b.2 - y.2) = (b.2 - a.2) * (b.1 - y.1) := by
     have : (b.1 - a.1) * (b.2 - y.2) = (b.1 - a.1) * (b.2 - a.2) - (b.1 - a.1) * (y.2 - a.2) := by grind
     rw [this]
     have : (b.2 - a.2) * (b.1 - y.1) = (b.1 - a.1) * (b.2 - a.2) - (b.2 - a.2) * (y.1 - a.1) := by grind
     rw [this]; omega
    rw [e]; exact this)
   omega
  ·have e1 := key (a.2 - y.2) (by
    have := Int.mul_nonneg (show 0 ≤ a.2 - b.2 by omega) d1
    have e : (b.1 - a.1) * (a.2 - y.2) = - ((b.1 - a.1) * (y.2 - a.2)) := by grind
    have e' : (a.2 - b.2) * (y.1 - a.1) = - ((b.2 - a.2) * (y.1 - a.1)) := by grind
    omega)
   have e2 := key (y.2 - b.2) (by
    have := Int.mul_nonneg (show 0 ≤ a.2 - b.2 by omega) d2
    have e : (b.1 - a.1) * (y.2 - b.2) = (a.2 - b.2) * (b.1 - y.1) := by
     have : (b.1 - a.1) * (y.2 - b.2) = (b.1 - a.1) * (y.2 - a.2) - (b.1 - a.1) * (b.2 - a.2) := by grind
     rw [this]
     have : (a.2 - b.2) * (b.1 - y.1) = (b.2 - a.2) * (y.1 - a.1) - (b.1 - a.1) * (b.2 - a.2) := by grind
     rw [this]; omega
    rw [e]; exact this)
   omega
 ·omega
theorem Edge.e {S : List Pt} {a b : Pt} (h : Edge S a b) : E S a b := by
 obtain ⟨h1, h2, h3, h4⟩ := h
 refine ⟨h1, h2, fun e => lexLt_irrefl _ (e ▸ h3), fun y hy => ?_⟩
 rcases h4 y hy with h | ⟨h, k1, k2⟩
 ·exact .inl h
 ·exact .inr ⟨h, betw_of_lex h3 h k1 k2⟩
def popR : List Pt → Pt → List Pt
 | b :: a :: r, x => if crossP a b x ≤ 0 then popR (a :: r) x else b :: a :: r
 | l, _ => l
def pushR (l : List Pt) (x : Pt) : List Pt := x :: popR l x
theorem popR_short {l : List Pt} (x : Pt) (h : l.length ≤ 1) : popR l x = l := by
 match l, h with
 | [], _ => rfl
 | [a], _ => rfl
theorem popR_len : ∀ (l : List Pt) (x : Pt), (popR l x).length ≤ l.length
 | [], _ => by simp [popR]
 | [a], _ => by simp [popR]
 | b :: a :: r, x => by
  simp only [popR]
  split
  ·have := popR_len (a :: r) x
   simp only [List.length_cons] at this ⊢
   omega
  ·exact Nat.le_refl _
theorem popR_mem : ∀ (l : List Pt) (x y : Pt), y ∈ popR l x → y ∈ l
 | [], _, _, h => by simp [popR] at h
 | [a], _, _, h => by simpa [popR] using h
 | b :: a :: r, x, y, h => by
  simp only [popR] at h
  split at h
  ·exact List.mem_cons_of_mem _ (popR_mem _ _ _ h)
  ·exact h
def Lnk (S : List Pt) : List Pt → Prop
 | b :: a :: r => Edge S a b ∧ Lnk S (a :: r)
 | _ => True
structure ChI (S C : List Pt) : Prop where
 ne : C ≠ []
 top : ∀ c, C.head? = some c → c ∈ S ∧ ∀ y ∈ S, lexLe y c
 bot : ∀ c, C.getLast? = some c → c ∈ S ∧ ∀ y ∈ S, lexLe c y
 lnk : Lnk S C
theorem pop_spec {S : List Pt} {x : Pt} (hx : ∀ y ∈ S, lexLt y x) : ∀ (C : List Pt), C ≠ [] → Lnk S C → (∀ c ∈ C, c ∈ S) → (∀ c, C.head? = some c → ∀ y ∈ S, lexLt c y → 0 ≤ crossP c x y) →
  popR C x ≠ [] ∧ (popR C x).getLast? = C.getLast? ∧ Lnk S (popR C x) ∧ (∀ c, (popR C x).head? = some c → c ∈ S ∧ ∀ y ∈ S, lexLt c y → 0 ≤ crossP c x y) ∧ (∀ b a r, popR C x = b :: a :: r → 0 < crossP a b x)
 | [], h, _, _, _ => absurd rfl h
 | [c], _, h2, hS, h3 => by
  simp only [popR]
  refine ⟨by simp, trivial, h2, fun c' hc => ⟨?_, h3 c' hc⟩, by simp⟩
  simp at hc; subst hc; exact hS _ (by simp)
 | b :: a :: r, _, h2, hS, h3 => by
  simp only [popR]
  split
  ·rename_i hc
   have ih := pop_spec hx (a :: r) (by simp) h2.2 (fun c hc => hS c (List.mem_cons_of_mem _ hc)) (fun c hc' y hy hlt => by
    simp at hc'
    subst hc'
    obtain ⟨e1, e2, e3, e4⟩ := h2.1
    have g1 : 0 ≤ crossP a b y := by rcases e4 y hy with h | ⟨h, _⟩ <;> omega
    rw [crossP_cr] at g1 hc ⊢
    refine cr_le (v := dv a b) (lp_dv.2 (hx a e1)) (lp_dv.2 e3) (lp_dv.2 hlt) ?_ g1
    rw [cr_anti]; omega)
   refine ⟨ih.1, ?_, ih.2.2.1, ih.2.2.2.1, ih.2.2.2.2⟩
   rw [ih.2.1]; simp
  ·rename_i hc
   refine ⟨by simp, rfl, h2, fun c hc' => ⟨?_, h3 c hc'⟩, fun b' a' r' he => ?_⟩
   ·simp at hc'; subst hc'; exact hS _ (by simp)
   ·cases he; omega
theorem lnk_left {S : List Pt} {x : Pt} (hx : ∀ y ∈ S, lexLt y x) : ∀ (C : List Pt), Lnk S C → (∀ b a r, C = b :: a :: r → 0 < crossP a b x) → Lnk (S ++ [x]) C
 | [], _, _ => trivial
 | [c], _, _ => trivial
 | b :: a :: r, h, hc => by
  have h1 := hc b a r rfl
  obtain ⟨e1, e2, e3, e4⟩ := h.1
  refine ⟨⟨by simp [e1], by simp [e2], e3, fun y hy => ?_⟩, lnk_left hx (a :: r) h.2 fun b' a' r' he => ?_⟩
  ·rcases List.mem_append.1 hy with hy | hy
   ·exact e4 y hy
   ·simp at hy; subst hy; exact .inl h1
  ·cases he
   obtain ⟨k1, k2, k3, k4⟩ := h.2.1
   have hb := k4 b e2
   have g1 : 0 < crossP a' a b := by
    rcases hb with hb | ⟨_, _, hb⟩
    ·exact hb
    ·exact absurd hb (lexLt_not e3)
   have g2 := h1
   rw [crossP_cr'] at g1 g2
   have g3 := cr_lt (lp_dv.2 k3) (lp_dv.2 e3) (lp_dv.2 (hx b e2)) (Int.le_of_lt g1) g2
   have e : crossP a' a x = cr (dv a' a) (dv a b) + cr (dv a' a) (dv b x) := by unfold crossP cross cr dv; grind
   omega
theorem Lnk_mem {S : List Pt} : ∀ {C : List Pt}, Lnk S C → (∀ c, C.head? = some c → c ∈ S) → ∀ c ∈ C, c ∈ S
 | [], _, _, c, hc => by cases hc
 | [a], _, h, c, hc => by simp at hc; subst hc; exact h _ rfl
 | b :: a :: r, h, hh, c, hc => by
  rcases List.mem_cons.1 hc with rfl | hc
  ·exact hh _ rfl
  ·exact Lnk_mem h.2 (fun c hc => by simp at hc; subst hc; exact h.1.1) c hc
theorem ch_push {S C : List Pt} {x : Pt} (h : ChI S C) (hx : ∀ y ∈ S, lexLt y x) : ChI (S ++ [x]) (pushR C x) := by
 have hm := Lnk_mem h.lnk (fun c hc => (h.top c hc).1)
 obtain ⟨p1, p2, p3, p4, p5⟩ := pop_spec hx C h.ne h.lnk hm (fun c hc y hy hlt => absurd ((h.top c hc).2 y hy) (lexLt_not hlt))
 have hl := lnk_left hx _ p3 p5
 unfold pushR
 refine ⟨by simp, fun c hc => ?_, fun c hc => ?_, ?_⟩
 ·simp at hc; subst hc
  refine ⟨by simp, fun y hy => ?_⟩
  rcases List.mem_append.1 hy with hy | hy
  ·exact lexLe_of_lt (hx y hy)
  ·simp at hy; subst hy; exact lexLe_refl _
 ·have hc' : C.getLast? = some c := by
   rw [← p2, ← hc]
   cases hp : popR C x with
   | nil => exact absurd hp p1
   | cons a r => simp
  obtain ⟨g1, g2⟩ := h.bot c hc'
  refine ⟨by simp [g1], fun y hy => ?_⟩
  rcases List.mem_append.1 hy with hy | hy
  ·exact g2 y hy
  ·simp at hy; subst hy; exact lexLe_of_lt (hx c g1)
 ·cases hp : popR C x with
  | nil => exact absurd hp p1
  | cons a r =>
   rw [hp] at hl p2 p5
   obtain ⟨q1, q2⟩ := p4 a (by rw [hp]; rfl)
   refine ⟨⟨by simp [q1], by simp, hx a q1, fun y hy => ?_⟩, hl⟩
   rcases List.mem_append.1 hy with hy | hy
   ·rcases lex_total y a with hlt | rfl | hgt
    ·cases r with
     | nil =>
      simp at p2
      exact absurd ((h.bot a p2.symm).2 y hy) (lexLt_not hlt)
     | cons a' r' =>
      have g5 := p5 a a' r' rfl
      rw [hp] at p3
      obtain ⟨e1, e2, e3, e4⟩ := p3.1
      have g1 : 0 ≤ crossP a' a y := by rcases e4 y hy with h | ⟨h, _⟩ <;> omega
      rw [crossP_cr'] at g1 g5
      have : cr (dv a' a) (dv a y) = cr (dv y a) (dv a' a) := by unfold cr dv; grind
      rw [this] at g1
      have g3 := cr_lt (lp_dv.2 hlt) (lp_dv.2 e3) (lp_dv.2 (hx a q1)) g1 g5
      refine .inl ?_
      have : crossP a x y = cr (dv y a) (dv a x) := by unfold crossP cross cr dv; grind
      omega
    ·exact .inr ⟨by unfold crossP cross; grind, lexLe_refl _, lexLe_of_lt (hx _ hy)⟩
    ·have := q2 y hy hgt
     rcases Int.lt_or_eq_of_le this with h | h
     ·exact .inl h
     ·exact .inr ⟨h.symm, lexLe_of_lt hgt, lexLe_of_lt (hx y hy)⟩
   ·simp at hy; subst hy
    exact .inr ⟨by unfold crossP cross; grind, lexLe_of_lt (hx a q1), lexLe_refl _⟩
theorem ch_fold : ∀ (rest done C : List Pt), ChI done C → (done ++ rest).Pairwise lexLt → ChI (done ++ rest) (rest.foldl pushR C)
 | [], done, C, h, _ => by simpa using h
 | x :: rest, done, C, h, hs => by
  have := ch_push h (x := x) (fun y hy => by
   rw [List.pairwise_append] at hs
   exact hs.2.2 y hy x (by simp))
  have ih := ch_fold rest (done ++ [x]) (pushR C x) this (by simpa using hs)
  simpa using ih
theorem ch_of {s : List Pt} (hne : s ≠ []) (hs : s.Pairwise lexLt) : ChI s (s.foldl pushR []) := by
 match s, hne with
 | x :: rest, _ =>
  have h0 : ChI [x] [x] := ⟨by simp, fun c hc => by simp at hc; subst hc; simp [lexLe_refl], fun c hc => by simp at hc; subst hc; simp [lexLe_refl], trivial⟩
  exact ch_fold rest [x] [x] h0 hs
end Go.Proofs.YtdfhnemhkpplbaaGreatDoor
namespace Go.Proofs.YtdfhnemhkpplbaaGreatDoor
open Go
def ng (p : Pt) : Pt := (-p.1, -p.2)
theorem ng_ng (p : Pt) : ng (ng p) = p := by unfold ng; simp
theorem crossP_ng (a b c : Pt) : crossP (ng a) (ng b) (ng c) = crossP a b c := by unfold crossP cross ng; grind
theorem lexLt_ng {a b : Pt} : lexLt (ng a) (ng b) ↔ lexLt b a := by unfold lexLt ng; simp only; omega
theorem lexLe_ng {a b : Pt} : lexLe (ng a) (ng b) ↔ lexLe b a := by unfold lexLe ng; simp only; omega
theorem minmax_ng (a b c : Int) : (min (-a) (-b) ≤ -c ∧ -c ≤ max (-a) (-b)) ↔ (min a b ≤ c ∧ c ≤ max a b) := by
 constructor <;> intro h <;> omega
theorem betwB_ng (a b c : Pt) : betwB (ng a) (ng b) (ng c) = betwB a b c := by
 have k := minmax_ng a.1 b.1 c.1
 have k2 := minmax_ng a.2 b.2 c.2
 rw [Bool.eq_iff_iff]
 constructor
 ·intro h
  obtain ⟨h1, h2, h3, h4⟩ := of_decide_eq_true h
  exact decide_eq_true ⟨(k.1 ⟨h1, h2⟩).1, (k.1 ⟨h1, h2⟩).2, (k2.1 ⟨h3, h4⟩).1, (k2.1 ⟨h3, h4⟩).2⟩
 ·intro h
  obtain ⟨h1, h2, h3, h4⟩ := of_decide_eq_true h
  exact decide_eq_true ⟨(k.2 ⟨h1, h2⟩).1, (k.2 ⟨h1, h2⟩).2, (k2.2 ⟨h3, h4⟩).1, (k2.2 ⟨h3, h4⟩).2⟩
theorem popR_ng : ∀ (l : List Pt) (x : Pt), popR (l.map ng) (ng x) = (popR l x).map ng
 | [], x => rfl
 | [a], x => rfl
 | b :: a :: r, x => by
  simp only [List.map_cons, popR, crossP_ng]
  split
  ·exact popR_ng (a :: r) x
  ·rfl
theorem fold_ng : ∀ (l C : List Pt), (l.map ng).foldl pushR (C.map ng) = (l.foldl pushR C).map ng
 | [], C => rfl
 | x :: l, C => by
  simp only [List.map_cons, List.foldl_cons]
  have : pushR (C.map ng) (ng x) = (pushR C x).map ng := by simp [pushR, popR_ng]
  rw [this]
  exact fold_ng l _
theorem mem_map_ng {l : List Pt} {p : Pt} : ng p ∈ l.map ng ↔ p ∈ l := by
 constructor
 ·intro h
  obtain ⟨q, hq, e⟩ := List.mem_map.1 h
  have : p = q := by rw [← ng_ng p, ← e, ng_ng]
  rw [this]; exact hq
 ·exact fun h => List.mem_map.2 ⟨p, h, rfl⟩
theorem E_ng {S T : List Pt} (hT : ∀ x, x ∈ T ↔ ng x ∈ S) {a b : Pt} (h : E S a b) : E T (ng a) (ng b) := by
 obtain ⟨h1, h2, h3, h4⟩ := h
 refine ⟨(hT _).2 (by rw [ng_ng]; exact h1), (hT _).2 (by rw [ng_ng]; exact h2), fun e => h3 (by rw [← ng_ng a, e, ng_ng]), fun y hy => ?_⟩
 have := h4 (ng y) ((hT y).1 hy)
 rw [← crossP_ng, ng_ng, ← betwB_ng, ng_ng] at this
 exact this
def Lk (R : Pt → Pt → Prop) : List Pt → Prop
 | a :: b :: r => R a b ∧ Lk R (b :: r)
 | _ => True
theorem Lk_append {R : Pt → Pt → Prop} : ∀ {l r : List Pt} {m : Pt}, Lk R (l ++ [m]) → Lk R (m :: r) → Lk R (l ++ m :: r)
 | [], r, m, _, h => h
 | [a], r, m, h, k => ⟨h.1, k⟩
 | a :: b :: l, r, m, h, k => ⟨h.1, Lk_append (l := b :: l) h.2 k⟩
theorem Lk_get {R : Pt → Pt → Prop} : ∀ {l : List Pt}, Lk R l → ∀ i, i + 1 < l.length → R (gp l i) (gp l (i + 1))
 | a :: b :: r, h, 0, _ => h.1
 | a :: b :: r, h, i + 1, hi => by
  have := Lk_get (l := b :: r) h.2 i (by simpa using hi)
  simpa [gp] using this
 | [], _, i, hi => by simp at hi
 | [a], _, i, hi => by simp at hi
theorem Lk_mono {R R' : Pt → Pt → Prop} (h : ∀ a b, R a b → R' a b) : ∀ {l : List Pt}, Lk R l → Lk R' l
 | [], _ => trivial
 | [_], _ => trivial
 | _ :: _ :: _, ⟨h1, h2⟩ => ⟨h _ _ h1, Lk_mono h h2⟩
theorem Lk_snoc {R : Pt → Pt → Prop} {l : List Pt} {a b : Pt} (h : Lk R (l ++ [a])) (k : R a b) : Lk R (l ++ [a] ++ [b]) := by
 have := Lk_append (R := R) (l := l) (m := a) (r := [b]) h ⟨k, trivial⟩
 simpa using this
theorem Lnk_rev {S : List Pt} : ∀ {C : List Pt}, Lnk S C → Lk (Edge S) C.reverse
 | [], _ => trivial
 | [a], _ => trivial
 | b :: a :: r, h => by
  have ih := Lnk_rev (C := a :: r) h.2
  rw [List.reverse_cons, List.reverse_cons]
  rw [List.reverse_cons] at ih
  exact Lk_snoc ih h.1
theorem Lk_map {R R' : Pt → Pt → Prop} (h : ∀ a b, R a b → R' (ng a) (ng b)) : ∀ {l : List Pt}, Lk R l → Lk R' (l.map ng)
 | [], _ => trivial
 | [_], _ => trivial
 | _ :: _ :: _, ⟨h1, h2⟩ => ⟨h _ _ h1, Lk_map h (l := _ :: _) h2⟩
def lowP (s : List Pt) : List Pt := (s.foldl pushR []).tail.reverse
def highP (s : List Pt) : List Pt := (s.reverse.foldl pushR []).tail.reverse
theorem low_spec {s : List Pt} (hne : s ≠ []) (hs : s.Pairwise lexLt) : ∃ mx, mx ∈ s ∧ (∀ y ∈ s, lexLe y mx) ∧ Lk (fun a b => E s a b ∧ lexLt a b) (lowP s ++ [mx]) ∧ ∃ mn r, lowP s ++ [mx] = mn :: r ∧ mn ∈ s ∧ ∀ y ∈ s, lexLe mn y := by
 have h := ch_of hne hs
 unfold lowP
 generalize s.foldl pushR [] = C at h
 match C, h with
 | [], h => exact absurd rfl h.ne
 | x :: r, h =>
  obtain ⟨t1, t2⟩ := h.top x rfl
  refine ⟨x, t1, t2, ?_, ?_⟩
  ·have := Lnk_rev h.lnk
   rw [List.reverse_cons] at this
   exact Lk_mono (fun a b e => ⟨e.e, e.2.2.1⟩) this
  ·have e : List.tail (x :: r) = r := rfl
   rw [e]
   have hl : (x :: r).reverse = r.reverse ++ [x] := by simp
   cases hr : (x :: r).reverse with
   | nil => simp at hr
   | cons m q =>
    refine ⟨m, q, by rw [← hl, hr], ?_⟩
    refine h.bot m ?_
    have : (x :: r) = q.reverse ++ [m] := by rw [← List.reverse_reverse (x :: r), hr]; simp
    rw [this]; simp
theorem high_spec {s : List Pt} (hne : s ≠ []) (hs : s.Pairwise lexLt) : ∃ mn, mn ∈ s ∧ (∀ y ∈ s, lexLe mn y) ∧ Lk (fun a b => E s a b ∧ lexLt b a) (highP s ++ [mn]) ∧ ∃ mx r, highP s ++ [mn] = mx :: r ∧ mx ∈ s ∧ ∀ y ∈ s, lexLe y mx := by
 have hne' : s.reverse.map ng ≠ [] := by simpa using hne
 have hs' : (s.reverse.map ng).Pairwise lexLt := by
  rw [List.pairwise_map, List.pairwise_reverse]
  exact hs.imp fun h => lexLt_ng.2 h
 obtain ⟨mx, h1, h2, h3, mn, r, h4, h5, h6⟩ := low_spec hne' hs'
 have hT : ∀ x, x ∈ s ↔ ng x ∈ s.reverse.map ng := fun x => by rw [mem_map_ng, List.mem_reverse]
 have e : lowP (s.reverse.map ng) = (highP s).map ng := by
  unfold lowP highP
  have := fold_ng s.reverse []
  rw [List.map_nil] at this
  rw [this]
  simp [List.map_tail]
 rw [e] at h3 h4
 have em : ∀ l : List Pt, (l.map ng).map ng = l := fun l => by
  rw [List.map_map]
  have : ng ∘ ng = id := funext ng_ng
  rw [this, List.map_id]
 refine ⟨ng mx, (hT _).2 (by rw [ng_ng]; exact h1), fun y hy => ?_, ?_, ng mn, r.map ng, ?_, (hT _).2 (by rw [ng_ng]; exact h5), fun y hy => ?_⟩
 ·have := h2 (ng y) ((hT y).1 hy)
  rw [← ng_ng mx] at this
  exact lexLe_ng.1 this
 ·have := Lk_map (R' := fun a b => E s a b ∧ lexLt b a) (fun a b h => ⟨E_ng hT h.1, lexLt_ng.2 h.2⟩) h3
  rw [List.map_append, em] at this
  exact this
 ·have := congrArg (List.map ng) h4
  rw [List.map_append, em] at this
  exact this
 ·have := h6 (ng y) ((hT y).1 hy)
  rw [← ng_ng mn] at this
  exact lexLe_ng.1 this
structure Cyc (S p : List Pt) : Prop where
 two : 2 ≤ p.length
 fst : ∀ y ∈ S, lexLe (gp p 0) y
 inj : ∀ i j, i < j → j < p.length → gp p i ≠ gp p j
 side : ∀ i, i < p.length → E S (gp p i) (gp p ((i + 1) % p.length))
theorem gp_append_left {l r : List Pt} {i : Nat} (h : i < l.length) : gp (l ++ r) i = gp l i := by
 unfold gp; simp [List.getD_eq_getElem?_getD, List.getElem?_append_left h]
theorem gp_append_right {l r : List Pt} {i : Nat} (h : l.length ≤ i) : gp (l ++ r) i = gp r (i - l.length) := by
 unfold gp; simp [List.getD_eq_getElem?_getD, List.getElem?_append_right h]
theorem gp_mem {l : List Pt} {i : Nat} (h : i < l.length) : gp l i ∈ l := by
 unfold gp; simp [List.getD_eq_getElem?_getD, List.getElem?_eq_getElem h]
theorem mem_gp {l : List Pt} {x : Pt} (h : x ∈ l) : ∃ i, i < l.length ∧ gp l i = x := by
 obtain ⟨i, hi, e⟩ := List.getElem_of_mem h
 exact ⟨i, hi, by unfold gp; simp [List.getD_eq_getElem?_getD, List.getElem?_eq_getElem hi, e]⟩
theorem Lk_lt {l : List Pt} (h : Lk lexLt l) : ∀ j i, i < j → j < l.length → lexLt (gp l i) (gp l j)
 | 0, i, hi, _ => by omega
 | j + 1, i, hi, hj => by
  have h1 := Lk_get h j hj
  by_cases e : i = j
  ·subst e; exact h1
  ·exact lexLt_trans (Lk_lt h j i (by omega) (by omega)) h1
theorem Lk_gt {l : List Pt} (h : Lk (fun a b => lexLt b a) l) : ∀ j i, i < j → j < l.length → lexLt (gp l j) (gp l i)
 | 0, i, hi, _ => by omega
 | j + 1, i, hi, hj => by
  have h1 := Lk_get h j hj
  by_cases e : i = j
  ·subst e; exact h1
  ·exact lexLt_trans h1 (Lk_gt h j i (by omega) (by omega))
theorem cyc_of {s : List Pt} (h2 : 2 ≤ s.length) (hs : s.Pairwise lexLt) : Cyc s (lowP s ++ highP s) := by
 have hne : s ≠ [] := fun e => by rw [e] at h2; simp at h2
 obtain ⟨mx, l1, l2, l3, mn, lr, l4, l5, l6⟩ := low_spec hne hs
 obtain ⟨mn', u1, u2, u3, mx', ur, u4, u5, u6⟩ := high_spec hne hs
 obtain rfl : mn = mn' := lexLe_antisymm (l6 _ u1) (u2 _ l5)
 obtain rfl : mx = mx' := lexLe_antisymm (u6 _ l1) (l2 _ u5)
 have hmm : mn ≠ mx := fun e => by
  match s, h2 with
  | a :: b :: r, _ =>
   have hab : lexLt a b := by
    rw [List.pairwise_cons] at hs
    exact hs.1 b (by simp)
   have h1 := l6 a (by simp)
   have h3 := l2 b (by simp)
   rw [e] at h1
   unfold lexLt at hab; unfold lexLe at h1 h3
   omega
 -- both chains begin with something
 obtain ⟨lt, hlt⟩ : ∃ lt, lowP s = mn :: lt := by
  cases hl : lowP s with
  | nil => rw [hl] at l4; simp at l4; exact absurd l4.1.symm hmm
  | cons a r => rw [hl] at l4; simp at l4; exact ⟨r, by rw [l4.1]⟩
 obtain ⟨ht, hht⟩ : ∃ ht, highP s = mx :: ht := by
  cases hl : highP s with
  | nil => rw [hl] at u4; simp at u4; exact absurd u4.1 hmm
  | cons a r => rw [hl] at u4; simp at u4; exact ⟨r, by rw [u4.1]⟩
 have hall : Lk (E s) (lowP s ++ highP s ++ [mn]) := by
  have e1 := Lk_mono (fun a b h => h.1) l3
  have e2 := Lk_mono (fun a b h => h.1) u3
  rw [hht] at e2 ⊢
  have := Lk_append (l := lowP s) (m := mx) (r := ht ++ [mn]) e1 (by simpa using e2)
  simpa using this
 have g0 : gp (lowP s ++ highP s) 0 = mn := by rw [hlt]; rfl
 have len : (lowP s ++ highP s).length = (lowP s).length + (highP s).length := by simp
 have n1 : 0 < (lowP s).length := by rw [hlt]; simp
 have n2 : 0 < (highP s).length := by rw [hht]; simp
 have side : ∀ i, i < (lowP s ++ highP s).length → E s (gp (lowP s ++ highP s) i) (gp (lowP s ++ highP s) ((i + 1) % (lowP s ++ highP s).length)) := by
  intro i hi
  have := Lk_get hall i (by simp at hi ⊢; omega)
  rw [gp_append_left hi] at this
  by_cases e : i + 1 < (lowP s ++ highP s).length
  ·rw [gp_append_left e] at this
   rw [Nat.mod_eq_of_lt e]; exact this
  ·have e' : i + 1 = (lowP s ++ highP s).length := by omega
   rw [e', gp_append_right (Nat.le_refl _), Nat.sub_self] at this
   rw [e', Nat.mod_self, g0]
   exact this
 have lows : ∀ i, i < (lowP s).length → ∃ b, E s (gp (lowP s) i) b ∧ lexLt (gp (lowP s) i) b := fun i hi => by
  have := Lk_get l3 i (by simp; omega)
  rw [gp_append_left hi] at this
  exact ⟨_, this⟩
 have highs : ∀ i, i < (highP s).length → ∃ b, E s (gp (highP s) i) b ∧ lexLt b (gp (highP s) i) := fun i hi => by
  have := Lk_get u3 i (by simp; omega)
  rw [gp_append_left hi] at this
  exact ⟨_, this⟩
 refine ⟨by omega, by rw [g0]; exact l6, fun i j hij hj e => ?_, side⟩
 by_cases hjl : j < (lowP s).length
 ·rw [gp_append_left hjl, gp_append_left (by omega)] at e
  have := Lk_lt (Lk_mono (fun a b h => h.2) l3) j i hij (by simp; omega)
  rw [gp_append_left hjl, gp_append_left (show i < (lowP s).length by omega), e] at this
  exact lexLt_irrefl _ this
 ·rw [gp_append_right (by omega : (lowP s).length ≤ j)] at e
  by_cases hil : i < (lowP s).length
  ·rw [gp_append_left hil] at e
   obtain ⟨b, b1, b2⟩ := lows i hil
   obtain ⟨c, c1, c2⟩ := highs (j - (lowP s).length) (by omega)
   rw [← e] at c1 c2
   have := E_next b1 c1
   subst this
   exact lexLt_irrefl _ (lexLt_trans b2 c2)
  ·rw [gp_append_right (by omega : (lowP s).length ≤ i)] at e
   have := Lk_gt (Lk_mono (fun a b h => h.2) u3) (j - (lowP s).length) (i - (lowP s).length) (by omega) (by simp; omega)
   rw [gp_append_left (by omega), gp_append_left (by omega), e] at this
   exact lexLt_irrefl _ this
theorem ext_gp {p q : List Pt} (hl : p.length = q.length) (h : ∀ i, i < p.length → gp p i = gp q i) : p = q := by
 refine List.ext_getElem hl fun i h1 h2 => ?_
 have := h i h1
 simpa [gp, List.getD_eq_getElem?_getD, List.getElem?_eq_getElem h1, List.getElem?_eq_getElem h2] using this
theorem cyc_unique {S p q : List Pt} (hp : Cyc S p) (hq : Cyc S q) : p = q := by
 have h0 : gp p 0 = gp q 0 := by
  have a := (hp.side 0 (by have := hp.two; omega)).1
  have b := (hq.side 0 (by have := hq.two; omega)).1
  exact lexLe_antisymm (hp.fst _ b) (hq.fst _ a)
 have main : ∀ {p q : List Pt}, Cyc S p → Cyc S q → gp p 0 = gp q 0 → ∀ i, i < p.length → i < q.length → gp p i = gp q i := by
  intro p q hp hq h0 i
  induction i with
  | zero => intro _ _; exact h0
  | succ i ih =>
   intro h1 h2
   have e := ih (by omega) (by omega)
   have a := hp.side i (by omega)
   have b := hq.side i (by omega)
   rw [Nat.mod_eq_of_lt h1] at a
   rw [Nat.mod_eq_of_lt h2, ← e] at b
   exact E_next a b
 have le : ∀ {p q : List Pt}, Cyc S p → Cyc S q → gp p 0 = gp q 0 → p.length ≤ q.length := by
  intro p q hp hq h0
  refine Nat.not_lt.1 fun hlt => ?_
  have h2 := hq.two
  have e := main hp hq h0 (q.length - 1) (by omega) (by omega)
  have a := hp.side (q.length - 1) (by omega)
  have b := hq.side (q.length - 1) (by omega)
  rw [Nat.sub_add_cancel (by omega), Nat.mod_eq_of_lt hlt] at a
  rw [Nat.sub_add_cancel (by omega), Nat.mod_self, ← e, ← h0] at b
  exact hp.inj 0 q.length (by omega) hlt (E_next b a)
 have hl : p.length = q.length := Nat.le_antisymm (le hp hq h0) (le hq hp h0.symm)
 exact ext_gp hl fun i hi => main hp hq h0 i hi (by omega)
end Go.Proofs.YtdfhnemhkpplbaaGreatDoor
namespace Go.Proofs.YtdfhnemhkpplbaaGreatDoor
open Go Go.V Go.RowKit
theorem Clone_call {nt : Nat} {v : Value} {ps : List Pt} {M : Mem} {G : Gh} {K : SV → St → Prop} (hv : Pts M v ps) (hn : 1 ≤ ps.length) (hn' : ps.length ≤ 100000)
  (hK : K (.row 0) ⟨[], [(0, some (.row 24 2 ps.length (cellsP ps)))], 1, M, nt, G⟩) :
  VCall Tryz.prog 83 [.v v] ⟨[], [], 0, M, nt, G⟩ K := by
 obtain ⟨ad, c, rfl⟩ := hv.shape
 obtain ⟨_, hm, hrd⟩ := hv.cellsOf
 obtain ⟨ad', rfl, _⟩ := hrd M (Mem.le_refl _) 0 (by omega)
 refine VCall.post ?_
 refine VCall.inline cxOK Tryz.func83 rfl rfl rfl [] [] trivial trivial ?_
 intro val f0
 repeat (first | refine VIf.tt ?_ | refine VIf.ff ?_)
 refine VSl.mk ps.length (cellsP ps) hv ?_
 repeat (first | refine VIf.tt ?_ | refine VIf.ff ?_)
 refine VFact.mk (by simp only; omega) ?_
 repeat (first | refine VIf.tt ?_ | refine VIf.ff ?_)
 refine VFact.mk (fun _ _ h => h) ?_
 repeat (first | refine VIf.tt ?_ | refine VIf.ff ?_)
 refine VFact.mk (fun _ => rfl) ?_
 refine ⟨_, ⟨[], [(0, some (.row 24 2 ps.length (cellsP ps)))], 1, M, nt, G⟩, ⟨⟨fun _ => 1, rfl, rfl, trivial, ⟨⟨rfl, rfl, rfl, ?_, ?_⟩, trivial⟩, injOK_one _ _ _⟩, rfl, rfl, rfl⟩, hK⟩
 ·exact (Nat.zero_add _).symm
 ·exact (List.nil_append _).symm
def injB (r : Nat → Nat) : List (Nat × Option OE) → Bool
 | [] => true
 | (i, _) :: l => (l.all fun p => Nat.beq i p.1 || !(Nat.beq (r i) (r p.1))) && injB r l
theorem injOK_b {r : Nat → Nat} : ∀ {l : List (Nat × Option OE)}, injB r l = true → injOK r l
 | [], _ => trivial
 | (i, e) :: l, h => by
  simp only [injB, Bool.and_eq_true, List.all_eq_true, Bool.or_eq_true, Bool.not_eq_true'] at h
  refine ⟨fun j hj => ?_, injOK_b h.2⟩
  obtain ⟨p, hp, rfl⟩ := List.mem_map.1 hj
  rcases h.1 p hp with h | h
  ·exact .inl (Nat.eq_of_beq_eq_true h)
  ·refine .inr fun e => ?_
   rw [e] at h
   have : Nat.beq (r p.1) (r p.1) = true := Nat.beq_refl _
   rw [this] at h; cases h
set_option maxHeartbeats 2000000 in
theorem Push_call0 {s : List Pt} {z : Int} {nt : Nat} {n m : Nat} {cs ds : List Value} {C : List Pt} {x : Pt} {M : Mem} {G : Gh} {K : SV → St → Prop} (hn : n = C.length) (hc : cs = cellsP C.reverse) (hlen : C.length ≤ 100000) (hC : ∀ p ∈ C, isC p.1 ∧ isC p.2) (hx : isC x.1 ∧ isC x.2)
  (hK : K (.v (.tuple #[])) ⟨[(4, .box 0 0), (5, .box 2 0), (6, .box 4 0), (22, .row 5), (3, .row 5), (23, .v (.int .i64 s.length)), (24, .v (.int .i64 z))], [(0, some (.box 101 [.row 1])), (1, some (.row 24 2 (pushR C x).length (cellsP (pushR C x).reverse))), (2, some (.box 101 [.row 3])), (3, some (.row 24 2 m ds)), (4, some (.box 102 [.clo 87 [.box 0 0] []])), (5, some (.row 24 2 s.length (cellsP s)))], 6, M, nt, G⟩) :
  VCall Tryz.prog 87 [.box 0 0, .v (ptv x)] ⟨[(4, .box 0 0), (5, .box 2 0), (6, .box 4 0), (22, .row 5), (3, .row 5), (23, .v (.int .i64 s.length)), (24, .v (.int .i64 z))], [(0, some (.box 101 [.row 1])), (1, some (.row 24 2 n cs)), (2, some (.box 101 [.row 3])), (3, some (.row 24 2 m ds)), (4, some (.box 102 [.clo 87 [.box 0 0] []])), (5, some (.row 24 2 s.length (cellsP s)))], 6, M, nt, G⟩ K := by
 subst hn; subst hc
 refine VCall.post ?_
 refine VCall.inline cxOK Tryz.func87 rfl rfl rfl [(4, .box 0 0), (5, .box 2 0), (6, .box 4 0), (22, .row 5), (3, .row 5)] [(23, .int .i64 s.length), (24, .int .i64 z)] (by repeat' constructor) (by repeat' constructor) ?_
 intro val f0
 repeat (first | refine VIf.tt ?_ | refine VIf.ff ?_)
 refine VCode.loopG cxOK (fun m => m = fun _ => none) rfl (List Pt) (fun R => ⟨[(0, .box 0 0), (3, .box 11 0), (4, .row 1)], [(0, some (.box 101 [.row 12])), (1, some (.row 24 2 R.length (cellsP R.reverse))), (2, some (.box 101 [.row 3])), (3, some (.row 24 2 m ds)), (4, some (.box 102 [.clo 87 [.box 0 0] []])), (5, some (.row 24 2 s.length (cellsP s))), (6, some (.gh 4 (val 4) (.box 0 0))), (7, some (.gh 5 (val 5) (.box 2 0))), (8, some (.gh 6 (val 6) (.box 4 0))), (9, some (.gh 22 (val 22) (.row 5))), (10, some (.gh 3 (val 3) (.row 5))), (11, some (.box 24 [.v (.int .i64 x.1), .v (.int .i64 x.2)]))], 13, M, 39, ⟨fun _ => none, none, f0⟩⟩)
  (fun R => popR R x = popR C x ∧ R.length ≤ C.length ∧ ∀ p ∈ R, p ∈ C) (fun R => R.length) C ⟨rfl, Nat.le_refl _, fun p hp => hp⟩ ?_ ?_
 ·refine Wk.mk' (fun i => if i = 12 then 1 else i) (by repeat' constructor) (by repeat' constructor) (injOK_b rfl) rfl rfl rfl
 rintro R ⟨hp1, hp2, hp3⟩ m' rfl
 repeat (first | refine VIf.tt ?_ | refine VIf.ff ?_)
 refine VDraw.go (by kernel_rfl) ?_
 repeat (first | refine VIf.tt ?_ | refine VIf.ff ?_)
 refine VIf.mk (fun h1 => ?_) (fun h1 => ?_)
 ·have h1 : 1 < R.length := by have := of_decide_eq_true h1; omega
  obtain ⟨b, a, r, rfl⟩ : ∃ b a r, R = b :: a :: r := by
   match R, h1 with
   | b :: a :: r, _ => exact ⟨b, a, r, rfl⟩
  have hl : (b :: a :: r).length = r.length + 2 := rfl
  have hlr : (b :: a :: r).reverse.length = r.length + 2 := by simp
  have e1 : gp (b :: a :: r).reverse r.length = a := by simp [gp, List.getD_eq_getElem?_getD]
  have e2 : gp (b :: a :: r).reverse (r.length + 1) = b := by simp [gp, List.getD_eq_getElem?_getD]
  have ha := hC a (hp3 a (by simp))
  have hb := hC b (hp3 b (by simp))
  repeat (first | refine VIf.tt ?_ | refine VIf.ff ?_)
  refine VArith.ok (by first | omega | (simp only; omega)) (by first | omega | (simp only; omega)) ?_
  repeat (first | refine VIf.tt ?_ | refine VIf.ff ?_)
  refine VIdxR.mk r.length (by omega) (by omega) ?_
  repeat (first | refine VIf.tt ?_ | refine VIf.ff ?_)
  refine VCells.mk [.int .i64 a.1, .int .i64 a.2] rfl (by have := rowP_get (b :: a :: r).reverse (i := r.length) (by omega); rw [e1] at this; exact this) ?_
  repeat (first | refine VIf.tt ?_ | refine VIf.ff ?_)
  refine VArith.ok (by first | omega | (simp only; omega)) (by first | omega | (simp only; omega)) ?_
  repeat (first | refine VIf.tt ?_ | refine VIf.ff ?_)
  refine VIdxR.mk (r.length + 1) (by omega) (by omega) ?_
  repeat (first | refine VIf.tt ?_ | refine VIf.ff ?_)
  refine VCells.mk [.int .i64 b.1, .int .i64 b.2] rfl (by have := rowP_get (b :: a :: r).reverse (i := r.length + 1) (by omega); rw [e2] at this; exact this) ?_
  repeat (first | refine VIf.tt ?_ | refine VIf.ff ?_)
  refine VFn.p (turn_fn _ _ _ _ _ _ _ ha.1 ha.2 hb.1 hb.2 hx.1 hx.2) ?_
  repeat (first | refine VIf.tt ?_ | refine VIf.ff ?_)
  refine VIf.mk (fun hc => ?_) (fun hc => ?_)
  ·have hc : crossP a b x ≤ 0 := of_decide_eq_true hc
   repeat (first | refine VIf.tt ?_ | refine VIf.ff ?_)
   refine VArith.ok (by first | omega | (simp only; omega)) (by first | omega | (simp only; omega)) ?_
   repeat (first | refine VIf.tt ?_ | refine VIf.ff ?_)
   refine VBnd.mk (r.length + 1) (by omega) (by omega) ?_
   refine ⟨rfl, a :: r, ⟨?_, ?_, ?_⟩, ?_, ?_⟩
   ·rw [← hp1]; simp only [popR]; rw [if_pos hc]
   ·have : (a :: r).length = r.length + 1 := rfl
    omega
   ·exact fun p hp => hp3 p (List.mem_cons_of_mem _ hp)
   ·simp
   ·have e : List.take ((r.length + 1) * 2) (cellsP (b :: a :: r).reverse) = cellsP (a :: r).reverse := by
     rw [cellsP_take, List.reverse_cons, List.take_append_of_le_length (by simp), List.take_of_length_le (by simp)]
    exact Wk.mk' (fun i => if i = 1 then 13 else i) (by repeat' constructor) (by repeat' (first | exact e.symm | constructor)) (injOK_b rfl) rfl rfl rfl
  ·have hc : ¬ crossP a b x ≤ 0 := of_decide_eq_false hc
   have hend : popR (b :: a :: r) x = b :: a :: r := by simp only [popR]; rw [if_neg hc]
   have hlen' : (b :: a :: r).length ≤ 100000 := by omega
   generalize b :: a :: r = R at *
   repeat (first | refine VIf.tt ?_ | refine VIf.ff ?_)
   refine VFact.mk (by simp only; omega) ?_
   repeat (first | refine VIf.tt ?_ | refine VIf.ff ?_)
   refine VFact.mk (fun _ _ h => h) ?_
   repeat (first | refine VIf.tt ?_ | refine VIf.ff ?_)
   refine VFact.mk (fun _ => rfl) ?_
   repeat refine VFact.mk rfl ?_
   have hpu : pushR C x = x :: R := by unfold pushR; rw [← hp1, hend]
   have el : (pushR C x).length = R.length + 1 := by rw [hpu]; rfl
   have ec : cellsP R.reverse ++ ([Value.int .i64 x.1, .int .i64 x.2] ++ []) = cellsP (pushR C x).reverse := by rw [hpu, List.reverse_cons]; simp [cellsP]
   refine ⟨.v (.tuple #[]), _, ?_, hK⟩
   refine ⟨⟨fun i => if i = 1 then 14 else i, rfl, rfl, ?_, ?_, ?_⟩, rfl, rfl, rfl⟩
   ·repeat' constructor
   ·repeat' (first | exact el | exact ec.symm | exact el.symm | exact ec | constructor)
   ·exact injOK_b rfl
 ·have hend : popR R x = R := popR_short x (by have := of_decide_eq_false h1; omega)
  have hlen' : R.length ≤ 100000 := by omega
  repeat (first | refine VIf.tt ?_ | refine VIf.ff ?_)
  refine VFact.mk (by simp only; omega) ?_
  repeat (first | refine VIf.tt ?_ | refine VIf.ff ?_)
  refine VFact.mk (fun _ _ h => h) ?_
  repeat (first | refine VIf.tt ?_ | refine VIf.ff ?_)
  refine VFact.mk (fun _ => rfl) ?_
  repeat refine VFact.mk rfl ?_
  have hpu : pushR C x = x :: R := by unfold pushR; rw [← hp1, hend]
  have el : (pushR C x).length = R.length + 1 := by rw [hpu]; rfl
  have ec : cellsP R.reverse ++ ([Value.int .i64 x.1, .int .i64 x.2] ++ []) = cellsP (pushR C x).reverse := by rw [hpu, List.reverse_cons]; simp [cellsP]
  refine ⟨.v (.tuple #[]), _, ?_, hK⟩
  refine ⟨⟨fun i => if i = 1 then 14 else i, rfl, rfl, ?_, ?_, ?_⟩, rfl, rfl, rfl⟩
  ·repeat' constructor
  ·repeat' (first | exact el | exact ec.symm | exact el.symm | exact ec | constructor)
  ·exact injOK_b rfl
set_option maxHeartbeats 2000000 in
theorem Push_call2 {nt : Nat} {n m : Nat} {cs ds : List Value} {C : List Pt} {x : Pt} {M : Mem} {G : Gh} {K : SV → St → Prop} (hn : n = C.length) (hc : cs = cellsP C.reverse) (hlen : C.length ≤ 100000) (hC : ∀ p ∈ C, isC p.1 ∧ isC p.2) (hx : isC x.1 ∧ isC x.2)
  (hK : K (.v (.tuple #[])) ⟨[(4, .box 0 0), (5, .box 2 0), (6, .box 4 0)], [(2, some (.box 101 [.row 3])), (3, some (.row 24 2 (pushR C x).length (cellsP (pushR C x).reverse))), (0, some (.box 101 [.row 1])), (1, some (.row 24 2 m ds)), (4, some (.box 102 [.clo 87 [.box 2 0] []]))], 5, M, nt, G⟩) :
  VCall Tryz.prog 87 [.box 2 0, .v (ptv x)] ⟨[(4, .box 0 0), (5, .box 2 0), (6, .box 4 0)], [(2, some (.box 101 [.row 3])), (3, some (.row 24 2 n cs)), (0, some (.box 101 [.row 1])), (1, some (.row 24 2 m ds)), (4, some (.box 102 [.clo 87 [.box 2 0] []]))], 5, M, nt, G⟩ K := by
 subst hn; subst hc
 refine VCall.post ?_
 refine VCall.inline cxOK Tryz.func87 rfl rfl rfl [(4, .box 0 0), (5, .box 2 0), (6, .box 4 0)] [] (by repeat' constructor) (by repeat' constructor) ?_
 intro val f0
 repeat (first | refine VIf.tt ?_ | refine VIf.ff ?_)
 refine VCode.loopG cxOK (fun m => m = fun _ => none) rfl (List Pt) (fun R => ⟨[(0, .box 2 0), (3, .box 8 0), (4, .row 3)], [(2, some (.box 101 [.row 9])), (3, some (.row 24 2 R.length (cellsP R.reverse))), (0, some (.box 101 [.row 1])), (1, some (.row 24 2 m ds)), (4, some (.box 102 [.clo 87 [.box 2 0] []])), (5, some (.gh 4 (val 4) (.box 0 0))), (6, some (.gh 5 (val 5) (.box 2 0))), (7, some (.gh 6 (val 6) (.box 4 0))), (8, some (.box 24 [.v (.int .i64 x.1), .v (.int .i64 x.2)]))], 10, M, 39, ⟨fun _ => none, none, f0⟩⟩)
  (fun R => popR R x = popR C x ∧ R.length ≤ C.length ∧ ∀ p ∈ R, p ∈ C) (fun R => R.length) C ⟨rfl, Nat.le_refl _, fun p hp => hp⟩ ?_ ?_
 ·refine Wk.mk' (fun i => if i = 9 then 3 else i) (by repeat' constructor) (by repeat' constructor) (injOK_b rfl) rfl rfl rfl
 rintro R ⟨hp1, hp2, hp3⟩ m' rfl
 repeat (first | refine VIf.tt ?_ | refine VIf.ff ?_)
 refine VDraw.go (by kernel_rfl) ?_
 repeat (first | refine VIf.tt ?_ | refine VIf.ff ?_)
 refine VIf.mk (fun h1 => ?_) (fun h1 => ?_)
 ·have h1 : 1 < R.length := by have := of_decide_eq_true h1; omega
  obtain ⟨b, a, r, rfl⟩ : ∃ b a r, R = b :: a :: r := by
   match R, h1 with
   | b :: a :: r, _ => exact ⟨b, a, r, rfl⟩
  have hl : (b :: a :: r).length = r.length + 2 := rfl
  have hlr : (b :: a :: r).reverse.length = r.length + 2 := by simp
  have e1 : gp (b :: a :: r).reverse r.length = a := by simp [gp, List.getD_eq_getElem?_getD]
  have e2 : gp (b :: a :: r).reverse (r.length + 1) = b := by simp [gp, List.getD_eq_getElem?_getD]
  have ha := hC a (hp3 a (by simp))
  have hb := hC b (hp3 b (by simp))
  repeat (first | refine VIf.tt ?_ | refine VIf.ff ?_)
  refine VArith.ok (by first | omega | (simp only; omega)) (by first | omega | (simp only; omega)) ?_
  repeat (first | refine VIf.tt ?_ | refine VIf.ff ?_)
  refine VIdxR.mk r.length (by omega) (by omega) ?_
  repeat (first | refine VIf.tt ?_ | refine VIf.ff ?_)
  refine VCells.mk [.int .i64 a.1, .int .i64 a.2] rfl (by have := rowP_get (b :: a :: r).reverse (i := r.length) (by omega); rw [e1] at this; exact this) ?_
  repeat (first | refine VIf.tt ?_ | refine VIf.ff ?_)
  refine VArith.ok (by first | omega | (simp only; omega)) (by first | omega | (simp only; omega)) ?_
  repeat (first | refine VIf.tt ?_ | refine VIf.ff ?_)
  refine VIdxR.mk (r.length + 1) (by omega) (by omega) ?_
  repeat (first | refine VIf.tt ?_ | refine VIf.ff ?_)
  refine VCells.mk [.int .i64 b.1, .int .i64 b.2] rfl (by have := rowP_get (b :: a :: r).reverse (i := r.length + 1) (by omega); rw [e2] at this; exact this) ?_
  repeat (first | refine VIf.tt ?_ | refine VIf.ff ?_)
  refine VFn.p (turn_fn _ _ _ _ _ _ _ ha.1 ha.2 hb.1 hb.2 hx.1 hx.2) ?_
  repeat (first | refine VIf.tt ?_ | refine VIf.ff ?_)
  refine VIf.mk (fun hc => ?_) (fun hc => ?_)
  ·have hc : crossP a b x ≤ 0 := of_decide_eq_true hc
   repeat (first | refine VIf.tt ?_ | refine VIf.ff ?_)
   refine VArith.ok (by first | omega | (simp only; omega)) (by first | omega | (simp only; omega)) ?_
   repeat (first | refine VIf.tt ?_ | refine VIf.ff ?_)
   refine VBnd.mk (r.length + 1) (by omega) (by omega) ?_
   refine ⟨rfl, a :: r, ⟨?_, ?_, ?_⟩, ?_, ?_⟩
   ·rw [← hp1]; simp only [popR]; rw [if_pos hc]
   ·have : (a :: r).length = r.length + 1 := rfl
    omega
   ·exact fun p hp => hp3 p (List.mem_cons_of_mem _ hp)
   ·simp
   ·have e : List.take ((r.length + 1) * 2) (cellsP (b :: a :: r).reverse) = cellsP (a :: r).reverse := by
     rw [cellsP_take, List.reverse_cons, List.take_append_of_le_length (by simp), List.take_of_length_le (by simp)]
    exact Wk.mk' (fun i => if i = 3 then 10 else i) (by repeat' constructor) (by repeat' (first | exact e.symm | constructor)) (injOK_b rfl) rfl rfl rfl
  ·have hc : ¬ crossP a b x ≤ 0 := of_decide_eq_false hc
   have hend : popR (b :: a :: r) x = b :: a :: r := by simp only [popR]; rw [if_neg hc]
   have hlen' : (b :: a :: r).length ≤ 100000 := by omega
   generalize b :: a :: r = R at *
   repeat (first | refine VIf.tt ?_ | refine VIf.ff ?_)
   refine VFact.mk (by simp only; omega) ?_
   repeat (first | refine VIf.tt ?_ | refine VIf.ff ?_)
   refine VFact.mk (fun _ _ h => h) ?_
   repeat (first | refine VIf.tt ?_ | refine VIf.ff ?_)
   refine VFact.mk (fun _ => rfl) ?_
   repeat refine VFact.mk rfl ?_
   have hpu : pushR C x = x :: R := by unfold pushR; rw [← hp1, hend]
   have el : (pushR C x).length = R.length + 1 := by rw [hpu]; rfl
   have ec : cellsP R.reverse ++ ([Value.int .i64 x.1, .int .i64 x.2] ++ []) = cellsP (pushR C x).reverse := by rw [hpu, List.reverse_cons]; simp [cellsP]
   refine ⟨.v (.tuple #[]), _, ?_, hK⟩
   refine ⟨⟨fun i => if i = 3 then 11 else i, rfl, rfl, ?_, ?_, ?_⟩, rfl, rfl, rfl⟩
   ·repeat' constructor
   ·repeat' (first | exact el | exact ec.symm | exact el.symm | exact ec | constructor)
   ·exact injOK_b rfl
 ·have hend : popR R x = R := popR_short x (by have := of_decide_eq_false h1; omega)
  have hlen' : R.length ≤ 100000 := by omega
  repeat (first | refine VIf.tt ?_ | refine VIf.ff ?_)
  refine VFact.mk (by simp only; omega) ?_
  repeat (first | refine VIf.tt ?_ | refine VIf.ff ?_)
  refine VFact.mk (fun _ _ h => h) ?_
  repeat (first | refine VIf.tt ?_ | refine VIf.ff ?_)
  refine VFact.mk (fun _ => rfl) ?_
  repeat refine VFact.mk rfl ?_
  have hpu : pushR C x = x :: R := by unfold pushR; rw [← hp1, hend]
  have el : (pushR C x).length = R.length + 1 := by rw [hpu]; rfl
  have ec : cellsP R.reverse ++ ([Value.int .i64 x.1, .int .i64 x.2] ++ []) = cellsP (pushR C x).reverse := by rw [hpu, List.reverse_cons]; simp [cellsP]
  refine ⟨.v (.tuple #[]), _, ?_, hK⟩
  refine ⟨⟨fun i => if i = 3 then 11 else i, rfl, rfl, ?_, ?_, ?_⟩, rfl, rfl, rfl⟩
  ·repeat' constructor
  ·repeat' (first | exact el | exact ec.symm | exact el.symm | exact ec | constructor)
  ·exact injOK_b rfl
end Go.Proofs.YtdfhnemhkpplbaaGreatDoor
namespace Go.Proofs.YtdfhnemhkpplbaaGreatDoor
open Go Go.V Go.RowKit
def backL (ps : List Pt) : List (List Value) := (List.range ps.length).map fun (j : Nat) => [.int .i64 ((ps.length : Int) - 1 - (j : Int)), ptv (gp ps (ps.length - 1 - j))]
theorem Backward_fn (ad : Option Addr) (n c : Nat) (M : Mem) : V.Fn Tryz.prog 88 [.slice ad n c] M fun rs M' => ∃ B, rs = [.func (.func 115) #[] #[.pointer (some ⟨B, 0, none⟩)]] ∧ M' B = some (.cells #[.slice ad n c] 27 (0, 0)) := by
 refine Fn.of_vc cxOK Tryz.func88 rfl rfl rfl ?_
 repeat (first | refine VIf.tt ?_ | refine VIf.ff ?_)
 refine VFzB.mk fun x B M' hle hB => ?_
 repeat (first | refine VIf.tt ?_ | refine VIf.ff ?_)
 exact VFact.mk ⟨B, rfl, hB⟩ trivial
theorem Backward_iter (M : Mem) (B : Nat) (v : Value) (ps : List Pt) (hB : M B = some (.cells #[v] 27 (0, 0))) (hv : Pts M v ps) :
  Iter Tryz.prog 115 #[.pointer (some ⟨B, 0, none⟩)] M (backL ps) := by
 obtain ⟨ad, c, rfl⟩ := hv.shape
 obtain ⟨_, hm, hrd⟩ := hv.cellsOf
 unfold maxLen at hm
 refine Iter.of_vc cxOK Tryz.func115 rfl rfl rfl rfl fun l => ?_
 repeat (first | refine VIf.tt ?_ | refine VIf.ff ?_)
 refine VRead.mk _ (box1 hB) ?_
 conv => whnf
 repeat (first | refine VIf.tt ?_ | refine VIf.ff ?_)
 refine VArith.ok (by first | omega | (simp only; omega)) (by first | omega | (simp only; omega)) ?_
 repeat (first | refine VIf.tt ?_ | refine VIf.ff ?_)
 refine VCode.loopG cxOK (fun m => m = fun _ => none) rfl (Nat × Int)
  (fun s => ⟨[(0, .v (.func (.yield l) #[] #[])), (1, .v (.pointer (some ⟨B, 0, none⟩))), (3, .v (.int .i64 s.2))], [], 0, M, 19, ⟨fun _ => none, some (l, (backL ps).drop s.1), fun _ => none⟩⟩)
  (fun s => s.1 ≤ ps.length ∧ s.2 = (ps.length : Int) - 1 - (s.1 : Int)) (fun s => ps.length - s.1) (0, (ps.length : Int) - 1) ⟨Nat.zero_le _, by simp⟩ (Wk.mk' id (by repeat' constructor) (by repeat' constructor) (injOK_id _) rfl rfl rfl) ?_
 rintro ⟨i, z⟩ ⟨hi, hz⟩ m rfl
 have hi : i ≤ ps.length := hi
 have hz : z = (ps.length : Int) - 1 - (i : Int) := hz
 repeat (first | refine VIf.tt ?_ | refine VIf.ff ?_)
 refine VIf.mk (fun hlt => ?_) (fun hge => ?_)
 ·have hlt : i < ps.length := by have := of_decide_eq_true hlt; omega
  obtain ⟨ad', ead, hpi⟩ := hrd M (Mem.le_refl _) (ps.length - 1 - i) (by omega)
  repeat (first | refine VIf.tt ?_ | refine VIf.ff ?_)
  refine VRead.mk _ (box1 hB) ?_
  conv => whnf
  repeat (first | refine VIf.tt ?_ | refine VIf.ff ?_)
  refine VIdx.mk ad' (ps.length - 1 - i) ead (by omega) (by omega) ?_
  repeat (first | refine VIf.tt ?_ | refine VIf.ff ?_)
  refine VReads.mk [.int .i64 (gp ps (ps.length - 1 - i)).1, .int .i64 (gp ps (ps.length - 1 - i)).2] rfl hpi ?_
  repeat (first | refine VIf.tt ?_ | refine VIf.ff ?_)
  refine VYield.mk ((backL ps).drop (i + 1)) ?_ ?_ ?_
  ·simp only [Gh.mk.injEq, and_true, true_and, Option.some.injEq, Prod.mk.injEq]
   rw [List.drop_eq_getElem_cons (by simpa [backL] using hlt)]
   simp [backL, ptv, pt, hz]
  ·repeat (first | refine VIf.tt ?_ | refine VIf.ff ?_)
   refine VArith.ok (by first | omega | (simp only; omega)) (by first | omega | (simp only; omega)) ?_
   exact ⟨rfl, (i + 1, z - 1), ⟨hlt, by simp only; omega⟩, (by first | omega | (simp only; omega)), (Wk.mk' id (by repeat' constructor) (by repeat' constructor) (injOK_id _) rfl rfl rfl)⟩
  ·refine VIf.tt ?_
   exact VEnd.stop rfl
 ·have hge : i = ps.length := by have := of_decide_eq_false hge; omega
  subst hge
  refine VEnd.all ?_
  simp [backL]
theorem backL_get {ps : List Pt} {k : Nat} {args : List Value} (h : (backL ps)[k]? = some args) : k < ps.length ∧ args = [.int .i64 ((ps.length : Int) - 1 - k), ptv (gp ps (ps.length - 1 - k))] := by
 simp only [backL, List.getElem?_map] at h
 cases hr : (List.range ps.length)[k]? with
 | none => rw [hr] at h; cases h
 | some i =>
  rw [hr] at h
  simp only [Option.map_some, Option.some.injEq] at h
  obtain ⟨h1, h2⟩ := List.getElem?_eq_some_iff.1 hr
  simp at h1 h2
  subst h2
  exact ⟨h1, h.symm⟩
theorem fold_mem : ∀ (l C : List Pt), ∀ {S : List Pt}, (∀ p ∈ C, p ∈ S) → ∀ p ∈ l.foldl pushR C, p ∈ S ∨ p ∈ l
 | [], C, S, h, p, hp => .inl (h p hp)
 | x :: l, C, S, h, p, hp => by
  simp only [List.foldl_cons] at hp
  rcases fold_mem l (pushR C x) (S := x :: S) (fun q hq => by
   rcases List.mem_cons.1 hq with rfl | hq
   ·simp
   ·exact List.mem_cons_of_mem _ (h q (popR_mem _ _ _ hq))) p hp with h1 | h1
  ·rcases List.mem_cons.1 h1 with rfl | h1
   ·exact .inr (by simp)
   ·exact .inl h1
  ·exact .inr (List.mem_cons_of_mem _ h1)
theorem fold_mem0 {l : List Pt} {p : Pt} (hp : p ∈ l.foldl pushR []) : p ∈ l := by
 rcases fold_mem l [] (S := []) (fun _ h => h) p hp with h | h
 ·cases h
 ·exact h
theorem fold_len : ∀ (l C : List Pt), (l.foldl pushR C).length ≤ C.length + l.length
 | [], C => by simp
 | x :: l, C => by
  have h1 := fold_len l (pushR C x)
  have h2 := popR_len C x
  have h3 : (pushR C x).length = (popR C x).length + 1 := rfl
  simp only [List.foldl_cons, List.length_cons]
  omega
theorem fold_pos : ∀ (l C : List Pt), l ≠ [] ∨ C ≠ [] → 0 < (l.foldl pushR C).length
 | [], C, h => by
  rcases h with h | h
  ·exact absurd rfl h
  ·exact List.length_pos_iff.2 h
 | x :: l, C, _ => by
  simp only [List.foldl_cons]
  exact fold_pos l _ (.inr (by simp [pushR]))
theorem SlAt.some {M : Mem} {sz n c : Nat} {ad : Option Addr} {xs : List Value} (h : SlAt M sz (.slice ad n c) n xs) (hn : 0 < n) : ∃ a, ad = .some a := by
 obtain ⟨a', c1, e, h1, h2, h3, h4, h5⟩ := h
 cases e
 obtain ⟨a, e, _⟩ := h5 hn
 exact ⟨a, e⟩
theorem SlAt.pre {M M' : Mem} (hM : M.le M') {ad : Option Addr} {c : Nat} {A : List Pt} (h : SlAt M 2 (.slice ad A.length c) A.length (cellsP A.reverse)) (hA : 0 < A.length) :
  A.length ≤ c ∧ ∀ c', (c' = A.length - 1 ∨ c' = c) → SlAt M' 2 (.slice ad (A.length - 1) c') (A.length - 1) (cellsP A.tail.reverse) := by
 obtain ⟨a', c1, e, h1, h2, h3, h4, h5⟩ := h
 cases e
 refine ⟨h1, fun c' hc' => ?_⟩
 have hle : A.length - 1 ≤ c' := by omega
 have e : cellsP A.tail.reverse = (cellsP A.reverse).take ((A.length - 1) * 2) := by
  rw [cellsP_take]
  cases A with
  | nil => rfl
  | cons x r => simp
 refine ⟨ad, c', rfl, hle, by omega, by rw [cellsP_length]; simp, fun v hv => h4 v (by rw [e] at hv; exact List.mem_of_mem_take hv), fun hpos => ?_⟩
 obtain ⟨ad', rfl, hrd⟩ := h5 (by omega)
 refine ⟨ad', rfl, fun j v hj => Mem.cell_le hM (hrd j v ?_)⟩
 rw [e, List.getElem?_take] at hj
 split at hj
 ·exact hj
 ·cases hj
def aroundP (ps : List Pt) : List Pt := if (compactP (sortP ps)).length < 3 then compactP (sortP ps) else lowP (compactP (sortP ps)) ++ highP (compactP (sortP ps))
set_option maxHeartbeats 1000000 in
theorem around_fn (v : Value) (ps : List Pt) (M : Mem) (hv : Pts M v ps) (hn : 1 ≤ ps.length) (hn' : ps.length ≤ 4000) (hC : ∀ p ∈ ps, isC p.1 ∧ isC p.2) : V.Fn Tryz.prog 54 [v] M fun rs M' => ∃ u, rs = [u] ∧ Pts M' u (aroundP ps) := by
 obtain ⟨ad, c, rfl⟩ := hv.shape
 refine Fn.of_vc cxIOK Tryz.func54 rfl rfl rfl ?_
 repeat (first | refine VIf.tt ?_ | refine VIf.ff ?_)
 refine VOwn.own ?_
 refine VCall.wk (st1 := ⟨[], [], 0, M, 54, ⟨fun _ => none, none, fun _ => none⟩⟩) (args1 := [.v (.slice ad ps.length c)]) id rfl rfl (by repeat' constructor) (by repeat' constructor) (injOK_id _) rfl rfl rfl ?_
 refine Clone_call hv hn (by omega) ?_
 repeat (first | refine VIf.tt ?_ | refine VIf.ff ?_)
 refine VOwn.own ?_
 refine Sort_call (ps := ps) rfl rfl rfl (by omega) ?_
 repeat (first | refine VIf.tt ?_ | refine VIf.ff ?_)
 refine VOwn.own ?_
 refine VCall.wk (st1 := ⟨[], [(0, some (.row 24 2 ps.length (cellsP (sortP ps))))], 1, M, 54, ⟨fun _ => none, none, fun _ => none⟩⟩) (args1 := [.row 0]) id rfl rfl (by repeat' constructor) (by repeat' constructor) (injOK_id _) rfl rfl rfl ?_
 refine Compact_call (ps := sortP ps) (by simp [sortP]) rfl (by simp [sortP]; omega) ?_
 have hlen : (compactP (sortP ps)).length ≤ 4000 := by
  have := comp_len (sortP ps) (sortP ps).length
  have e : (sortP ps).length = ps.length := by simp [sortP]
  unfold compactP; omega
 have hS : ∀ p ∈ compactP (sortP ps), isC p.1 ∧ isC p.2 := fun p hp => by
  simp only [compactP, comp, List.mem_map, List.mem_filter, List.mem_range] at hp
  obtain ⟨i, ⟨hi, _⟩, rfl⟩ := hp
  have : gp (sortP ps) i ∈ sortP ps := gp_mem hi
  exact hC _ (by simpa [sortP] using this)
 unfold aroundP
 generalize compactP (sortP ps) = s at *
 repeat (first | refine VIf.tt ?_ | refine VIf.ff ?_)
 refine VIf.mk (fun h => ?_) (fun h => ?_)
 ·have h : s.length < 3 := by have := of_decide_eq_true h; omega
  rw [if_pos h]
  repeat (first | refine VIf.tt ?_ | refine VIf.ff ?_)
  refine VFz.mk fun x B M' hle hx => ?_
  repeat (first | refine VIf.tt ?_ | refine VIf.ff ?_)
  exact VFact.mk ⟨x, rfl, hx⟩ trivial
 have h : ¬ s.length < 3 := by have := of_decide_eq_false h; omega
 rw [if_neg h]
 repeat (first | refine VIf.tt ?_ | refine VIf.ff ?_)
 refine VCode.loop cxIOK Nat
  (fun k => ⟨[(4, .box 0 0), (5, .box 2 0), (6, .box 4 0), (22, .row 5), (3, .row 5), (23, .v (.int .i64 s.length)), (24, .v (.int .i64 k))],
   [(0, some (.box 101 [.row 1])), (1, some (.row 24 2 ((s.take k).foldl pushR []).length (cellsP ((s.take k).foldl pushR []).reverse))), (2, some (.box 101 [.row 3])), (3, some (.row 24 2 0 [])), (4, some (.box 102 [.clo 87 [.box 0 0] []])), (5, some (.row 24 2 s.length (cellsP s)))], 6, M, 54, ⟨fun _ => none, none, fun _ => none⟩⟩)
  (fun k => k ≤ s.length) (fun k => s.length - k) 0 (Nat.zero_le _) ?_ ?_
 ·refine Wk.nilBox 1 101 [] [] 24 2 rfl ?_
  refine Wk.nilBox 2 101 [] [] 24 2 rfl ?_
  refine Wk.mk' (fun i => if i = 0 then 1 else if i = 1 then 4 else if i = 2 then 2 else if i = 3 then 5 else if i = 4 then 3 else 0) (by repeat' constructor) (by repeat' constructor) (injOK_b rfl) rfl rfl rfl
 ·rintro k hk m
  have hk : k ≤ s.length := hk
  repeat (first | refine VIf.tt ?_ | refine VIf.ff ?_)
  refine VIf.mk (fun hlt => ?_) (fun hge => ?_)
  ·have hlt : k < s.length := lt_of_dec hlt
   have hCm : ∀ p ∈ (s.take k).foldl pushR [], isC p.1 ∧ isC p.2 := fun p hp => hS p (List.mem_of_mem_take (fold_mem0 hp))
   have hCl : ((s.take k).foldl pushR []).length ≤ 100000 := by
    have := fold_len (s.take k) []
    simp at this; omega
   repeat (first | refine VIf.tt ?_ | refine VIf.ff ?_)
   refine VIdxR.mk k rfl hlt ?_
   repeat (first | refine VIf.tt ?_ | refine VIf.ff ?_)
   refine VCells.mk [.int .i64 (gp s k).1, .int .i64 (gp s k).2] rfl (rowP_get s hlt) ?_
   repeat (first | refine VIf.tt ?_ | refine VIf.ff ?_)
   refine VOwn.own ?_
   refine VCall.wk (st1 := ⟨[(4, .box 0 0), (5, .box 2 0), (6, .box 4 0), (22, .row 5), (3, .row 5), (23, .v (.int .i64 s.length)), (24, .v (.int .i64 k))],
    [(0, some (.box 101 [.row 1])), (1, some (.row 24 2 ((s.take k).foldl pushR []).length (cellsP ((s.take k).foldl pushR []).reverse))), (2, some (.box 101 [.row 3])), (3, some (.row 24 2 0 [])), (4, some (.box 102 [.clo 87 [.box 0 0] []])), (5, some (.row 24 2 s.length (cellsP s)))], 6, M, 54, ⟨m, none, fun _ => none⟩⟩) (args1 := [.box 0 0, .v (ptv (gp s k))]) id rfl rfl (by repeat' constructor) (by repeat' constructor) (injOK_id _) rfl rfl rfl ?_
   refine Push_call0 rfl rfl hCl hCm (hS _ (gp_mem hlt)) ?_
   repeat (first | refine VIf.tt ?_ | refine VIf.ff ?_)
   refine VArith.ok (by first | omega | (simp only; omega)) (by first | omega | (simp only; omega)) ?_
   have e : (s.take (k + 1)).foldl pushR [] = pushR ((s.take k).foldl pushR []) (gp s k) := by
    have : s[k]? = some (gp s k) := by simp [gp, hlt]
    rw [List.take_add_one, List.foldl_append, this]; rfl
   have e1 := congrArg List.length e
   have e2 := congrArg (fun l : List Pt => cellsP l.reverse) e
   exact ⟨k + 1, hlt, (by first | omega | (simp only; omega)), Wk.mk' id (by repeat' constructor) (by repeat' (first | exact e1.symm | exact e2.symm | exact e1 | exact e2 | constructor)) (injOK_id _) rfl rfl rfl⟩
  ·have : k = s.length := by have := ge_of_dec hge; omega
   subst this
   rw [List.take_length]
   repeat (first | refine VIf.tt ?_ | refine VIf.ff ?_)
   refine VOwn.frz ?_
   repeat (first | refine VIf.tt ?_ | refine VIf.ff ?_)
   refine VFz.mk fun x B M1 hle hx => ?_
   obtain ⟨xd, xc, rfl⟩ := SlAt.shape hx
   repeat (first | refine VIf.tt ?_ | refine VIf.ff ?_)
   refine VFn.mk _ (Backward_fn xd s.length xc M1) ?_
   rintro rs M2 hM2 ⟨B2, rfl, hB2⟩
   repeat (first | refine VIf.tt ?_ | refine VIf.ff ?_)
   refine VCode.rangeB cxIOK rfl (Backward_iter M2 B2 _ s hB2 (hx.le hM2)) (fun x hx => ?_) [(4, .box 0 0), (5, .box 2 0), (6, .box 4 0)] rfl (by kernel_rfl) (by kernel_rfl) Unit
    (fun k _ => ⟨[(4, .box 0 0), (5, .box 2 0), (6, .box 4 0)],
     [(2, some (.box 101 [.row 3])), (3, some (.row 24 2 ((s.reverse.take k).foldl pushR []).length (cellsP ((s.reverse.take k).foldl pushR []).reverse))), (0, some (.box 101 [.row 1])), (1, some (.row 24 2 (s.foldl pushR []).length (cellsP (s.foldl pushR []).reverse))), (4, some (.box 102 [.clo 87 [.box 2 0] []]))], 5, M2, 54, ⟨fun _ => none, none, fun _ => none⟩⟩)
    (fun k _ => k ≤ s.length) () (Nat.zero_le _) ?_ (fun k s => ⟨rfl, rfl⟩) ?_ ?_
   ·obtain ⟨i, hi⟩ := List.getElem?_of_mem hx
    obtain ⟨_, rfl⟩ := backL_get hi
    rfl
   ·refine Wk.mk' id (by repeat' constructor) (by repeat' constructor) (injOK_id _) rfl rfl rfl
   ·rintro k _ args hk hxs m f
    obtain ⟨hk', rfl⟩ := backL_get hxs
    intro m'
    have hCm : ∀ p ∈ (s.reverse.take k).foldl pushR [], isC p.1 ∧ isC p.2 := fun p hp => hS p (List.mem_reverse.1 (List.mem_of_mem_take (fold_mem0 hp)))
    have hCl : ((s.reverse.take k).foldl pushR []).length ≤ 100000 := by
     have := fold_len (s.reverse.take k) []
     simp at this; omega
    repeat (first | refine VIf.tt ?_ | refine VIf.ff ?_)
    refine VOwn.own ?_
    refine VCall.wk (st1 := ⟨[(4, .box 0 0), (5, .box 2 0), (6, .box 4 0)],
     [(2, some (.box 101 [.row 3])), (3, some (.row 24 2 ((s.reverse.take k).foldl pushR []).length (cellsP ((s.reverse.take k).foldl pushR []).reverse))), (0, some (.box 101 [.row 1])), (1, some (.row 24 2 (s.foldl pushR []).length (cellsP (s.foldl pushR []).reverse))), (4, some (.box 102 [.clo 87 [.box 2 0] []]))], 5, M2, 54, ⟨m', none, f⟩⟩) (args1 := [.box 2 0, .v (ptv (gp s (s.length - 1 - k)))]) id rfl rfl (by repeat' constructor) (by repeat' constructor) (injOK_id _) rfl rfl rfl ?_
    refine Push_call2 rfl rfl hCl hCm (hS _ (gp_mem (by omega))) ?_
    have e : (s.reverse.take (k + 1)).foldl pushR [] = pushR ((s.reverse.take k).foldl pushR []) (gp s (s.length - 1 - k)) := by
     have : s.reverse[k]? = some (gp s (s.length - 1 - k)) := by
      have h1 : s.length - 1 - k < s.length := by omega
      simp [gp, List.getElem?_reverse, hk', h1]
     rw [List.take_add_one, List.foldl_append, this]; rfl
    have e1 := congrArg List.length e
    have e2 := congrArg (fun l : List Pt => cellsP l.reverse) e
    exact ⟨(), hk', Wk.mk' id (by repeat' constructor) (by repeat' (first | exact e1.symm | exact e2.symm | exact e1 | exact e2 | constructor)) (injOK_id _) rfl rfl rfl⟩
   ·rintro _ m hk
    have hl : (backL s).length = s.length := by simp [backL]
    rw [hl]
    repeat (first | refine VIf.tt ?_ | refine VIf.ff ?_)
    refine VDraw.frz [4, 5] (by kernel_rfl) ?_
    repeat (first | refine VIf.tt ?_ | refine VIf.ff ?_)
    refine VFz.mk fun x1 B1 M3 hM3 hx1 => ?_
    obtain ⟨a1, c1, rfl⟩ := SlAt.shape hx1
    obtain ⟨a1, rfl⟩ := SlAt.some hx1 (fold_pos s [] (.inl (by intro e; subst e; simp at h)))
    repeat (first | refine VIf.tt ?_ | refine VIf.ff ?_)
    refine VFzB.mk fun x1' C1 M4 hM4 hC1 => ?_
    repeat (first | refine VIf.tt ?_ | refine VIf.ff ?_)
    refine VFz.mk fun x2 B2 M5 hM5 hx2 => ?_
    obtain ⟨a2, c2, rfl⟩ := SlAt.shape hx2
    repeat (first | refine VIf.tt ?_ | refine VIf.ff ?_)
    refine VFzB.mk fun x2' C2 M6 hM6 hC2 => ?_
    have k1 : M6.cell ⟨C1, 0, none⟩ = some (.slice (some a1) (s.foldl pushR []).length c1) := by
     have := (hM5.trans hM6) _ _ hC1
     simp [Mem.cell, this]
    have k2 : M6.cell ⟨C2, 0, none⟩ = some (.slice a2 ((s.reverse.take s.length).foldl pushR []).length c2) := by
     simp [Mem.cell, hC2]
    repeat (first | refine VIf.tt ?_ | refine VIf.ff ?_)
    refine VRead.mk _ k1 ?_
    repeat (first | refine VIf.tt ?_ | refine VIf.ff ?_)
    refine VRead.mk _ k1 ?_
    rw [List.take_of_length_le (show s.reverse.length ≤ s.length by simp)] at hx2 k2 ⊢
    have n1 := fold_pos s [] (.inl (by intro e; subst e; simp at h))
    have n2 := fold_pos s.reverse [] (.inl (by intro e; simp at e; subst e; simp at h))
    have b1 := fold_len s []
    have b2 := fold_len s.reverse []
    simp only [List.length_nil, List.length_reverse, Nat.zero_add] at b1 b2
    have p1 := SlAt.pre (((hM4.trans hM5).trans hM6)) hx1 n1
    have p2 := SlAt.pre hM6 hx2 n2
    generalize hA : s.foldl pushR [] = A at *
    generalize hB : s.reverse.foldl pushR [] = B at *
    repeat (first | refine VIf.tt ?_ | refine VIf.ff ?_)
    refine VArith.ok (by first | omega | (simp only; omega)) (by first | omega | (simp only; omega)) ?_
    repeat (first | refine VIf.tt ?_ | refine VIf.ff ?_)
    refine VRead.mk _ k1 ?_
    repeat (first | refine VIf.tt ?_ | refine VIf.ff ?_)
    refine VArith.ok (by first | omega | (simp only; omega)) (by first | omega | (simp only; omega)) ?_
    repeat (first | refine VIf.tt ?_ | refine VIf.ff ?_)
    refine VBnd.mk (A.length - 1) (by omega) (by omega) ?_
    repeat (first | refine VIf.tt ?_ | refine VIf.ff ?_)
    refine VBnd.mk (A.length - 1) (by omega) (Nat.le_refl _) ?_
    repeat (first | refine VIf.tt ?_ | refine VIf.ff ?_)
    refine VRead.mk _ k2 ?_
    repeat (first | refine VIf.tt ?_ | refine VIf.ff ?_)
    refine VRead.mk _ k2 ?_
    repeat (first | refine VIf.tt ?_ | refine VIf.ff ?_)
    refine VArith.ok (by first | omega | (simp only; omega)) (by first | omega | (simp only; omega)) ?_
    repeat (first | refine VIf.tt ?_ | refine VIf.ff ?_)
    refine VBnd.mk (B.length - 1) (by omega) (by omega) ?_
    repeat (first | refine VIf.tt ?_ | refine VIf.ff ?_)
    refine VSl.mk (A.length - 1) (cellsP A.tail.reverse) (p1.2 _ (.inl rfl)) ?_
    repeat (first | refine VIf.tt ?_ | refine VIf.ff ?_)
    refine VFact.mk rfl ?_
    repeat (first | refine VIf.tt ?_ | refine VIf.ff ?_)
    refine VSl.mk (B.length - 1) (cellsP B.tail.reverse) (p2.2 _ (.inr rfl)) ?_
    repeat (first | refine VIf.tt ?_ | refine VIf.ff ?_)
    refine VFact.mk (by simp only; omega) ?_
    have e1 : lowP s = A.tail.reverse := by unfold lowP; rw [hA]
    have e2 : highP s = B.tail.reverse := by unfold highP; rw [hB]
    repeat (first | refine VIf.tt ?_ | refine VIf.ff ?_)
    refine VFact.mk (fun hz => ?_) (fun hp => ?_)
    ·repeat (first | refine VIf.tt ?_ | refine VIf.ff ?_)
     refine VFact.mk ⟨_, rfl, ?_⟩ trivial
     have hz' : B.tail = [] := List.eq_nil_of_length_eq_zero (by rw [List.length_tail]; omega)
     rw [e1, e2, hz', List.reverse_nil, List.append_nil]
     have := p1.2 _ (.inl rfl)
     unfold Pts
     rw [show A.tail.reverse.length = A.length - 1 by simp]
     exact this
    ·repeat (first | refine VIf.tt ?_ | refine VIf.ff ?_)
     refine VFz.mk fun x B9 M' hle hx => ?_
     repeat (first | refine VIf.tt ?_ | refine VIf.ff ?_)
     refine VFact.mk ⟨x, rfl, ?_⟩ trivial
     rw [e1, e2]
     unfold Pts
     have : cellsP (A.tail.reverse ++ B.tail.reverse) = cellsP A.tail.reverse ++ cellsP B.tail.reverse := by simp [cellsP]
     rw [this, show (A.tail.reverse ++ B.tail.reverse).length = A.length - 1 + (B.length - 1) by simp]
     exact hx
end Go.Proofs.YtdfhnemhkpplbaaGreatDoor
namespace Go.Proofs.YtdfhnemhkpplbaaGreatDoor
open Go
theorem cmp_lex {a b : Pt} : cmpPt a b < 0 ↔ lexLt a b := by
 constructor
 ·exact fun h => cmp_lt h
 ·intro h
  have := lessB_iff a b
  have h2 : lessB a b = true := by
   unfold lexLt at h
   simp only [lessB, Bool.or_eq_true, Bool.and_eq_true, decide_eq_true_eq, beq_iff_eq]
   exact h
  rw [h2] at this
  exact of_decide_eq_true this.symm
inductive Hl (S p : List Pt) : Prop
 | one (a : Pt) (hp : p = [a]) (hS : ∀ y ∈ S, y = a) (ha : a ∈ S)
 | many (h : Cyc S p)
theorem crossP_b (a b : Pt) : crossP a b b = 0 := by unfold crossP cross; grind
theorem crossP_a (a b : Pt) : crossP a b a = 0 := by unfold crossP cross; grind
theorem betw_l (a b : Pt) : betwB a b a = true := by simp only [betwB, decide_eq_true_eq]; omega
theorem betw_r (a b : Pt) : betwB a b b = true := by simp only [betwB, decide_eq_true_eq]; omega
theorem Hl.mem {S p : List Pt} (h : Hl S p) {i : Nat} (hi : i < p.length) : gp p i ∈ S := by
 cases h with
 | one a hp hS ha => subst hp; simp at hi; subst hi; exact ha
 | many h => exact (h.side i hi).1
theorem Hl.sub {S p : List Pt} (h : Hl S p) : ∀ x ∈ p, x ∈ S := fun x hx => by
 obtain ⟨i, hi, rfl⟩ := mem_gp hx
 exact h.mem hi
theorem Hl.pos {S p : List Pt} (h : Hl S p) : 1 ≤ p.length := by
 cases h with
 | one a hp hS ha => subst hp; simp
 | many h => have := h.two; omega
theorem Cyc.restrict {S T p : List Pt} (h : Cyc S p) (hT : ∀ x ∈ T, x ∈ S) (hp : ∀ x ∈ p, x ∈ T) : Cyc T p :=
 ⟨h.two, fun y hy => h.fst y (hT y hy), h.inj, fun i hi => E_sub (h.side i hi) hT (hp _ (gp_mem hi)) (hp _ (gp_mem (Nat.mod_lt _ (by omega))))⟩
theorem Hl.restrict {S T p : List Pt} (h : Hl S p) (hT : ∀ x ∈ T, x ∈ S) (hp : ∀ x ∈ p, x ∈ T) : Hl T p := by
 cases h with
 | one a hp' hS ha => exact .one a hp' (fun y hy => hS y (hT y hy)) (hp a (by rw [hp']; simp))
 | many h => exact .many (h.restrict hT hp)
theorem Hl.congr {S T p : List Pt} (h : Hl S p) (hT : ∀ x, x ∈ T ↔ x ∈ S) : Hl T p := h.restrict (fun x hx => (hT x).1 hx) fun x hx => (hT x).2 (h.sub x hx)
theorem Hl.unique {S p q : List Pt} (h : Hl S p) (k : Hl S q) : p = q := by
 cases h with
 | one a hp hS ha =>
  cases k with
  | one b hq hS' hb => rw [hp, hq, hS b hb]
  | many k =>
   exfalso
   have h2 := k.two
   obtain ⟨e1, e2, e3, _⟩ := k.side 0 (by omega)
   exact e3 ((hS _ e1).trans (hS _ e2).symm)
 | many h =>
  cases k with
  | one b hq hS' hb =>
   exfalso
   have h2 := h.two
   obtain ⟨e1, e2, e3, _⟩ := h.side 0 (by omega)
   exact e3 ((hS' _ e1).trans (hS' _ e2).symm)
  | many k => exact cyc_unique h k
theorem Cyc.strict {S p : List Pt} (h : Cyc S p) {i k : Nat} (hi : i < p.length) (hk : k < p.length) (h1 : k ≠ i) (h2 : k ≠ (i + 1) % p.length) : 0 < crossP (gp p i) (gp p ((i + 1) % p.length)) (gp p k) := by
 have hn := h.two
 obtain ⟨a1, a2, a3, a4⟩ := h.side i hi
 obtain ⟨b1, b2, b3, b4⟩ := h.side k hk
 have ne : ∀ {j l : Nat}, j < p.length → l < p.length → j ≠ l → gp p j ≠ gp p l := fun {j l} hj hl hne e => by
  rcases Nat.lt_or_gt_of_ne hne with h' | h'
  ·exact h.inj _ _ h' hl e
  ·exact h.inj _ _ h' hj e.symm
 have n1 := ne hk hi h1
 have n2 := ne hk (Nat.mod_lt _ (by omega)) h2
 rcases a4 (gp p k) b1 with g | ⟨g, gb⟩
 ·exact g
 exfalso
 have q1 := b4 _ a1
 have q2 := b4 _ a2
 generalize gp p i = a at *
 generalize gp p ((i + 1) % p.length) = b at *
 generalize gp p k = c at *
 generalize gp p ((k + 1) % p.length) = d at *
 -- c lies on the line between a and b; a and b lie on opposite sides of it, so on the line to d; but between c and d
 simp only [betwB, decide_eq_true_eq] at gb q1 q2
 have s1 : crossP c d a * (b.1 - c.1) = - (crossP c d b * (c.1 - a.1)) - (d.1 - c.1) * crossP a b c := by clear a4 b4 q1 q2 gb; unfold crossP cross; grind
 have s2 : crossP c d a * (b.2 - c.2) = - (crossP c d b * (c.2 - a.2)) - (d.2 - c.2) * crossP a b c := by clear a4 b4 q1 q2 gb; unfold crossP cross; grind
 rw [g, Int.mul_zero, Int.sub_zero] at s1 s2
 have p1 : 0 ≤ crossP c d a := by rcases q1 with h | h <;> omega
 have p2 : 0 ≤ crossP c d b := by rcases q2 with h | h <;> omega
 have t1 : ∀ X Y : Int, 0 ≤ X → 0 ≤ Y → ∀ u v : Int, 0 < u → 0 < v → X * u = - (Y * v) → X = 0 ∧ Y = 0 := by
  intro X Y hX hY u v hu hv e
  have m1 := Int.mul_nonneg hX (Int.le_of_lt hu)
  have m2 := Int.mul_nonneg hY (Int.le_of_lt hv)
  have z1 : X * u = 0 := by omega
  have z2 : Y * v = 0 := by omega
  rcases Int.mul_eq_zero.1 z1 with h | h <;> rcases Int.mul_eq_zero.1 z2 with k | k <;> omega
 have z : crossP c d a = 0 ∧ crossP c d b = 0 := by
  rcases Int.lt_trichotomy a.1 b.1 with hx | hx | hx
  ·
   by_cases e1 : c.1 = a.1
   ·exfalso
    have : crossP a b c = (b.1 - a.1) * (c.2 - a.2) := by unfold crossP cross; rw [e1]; grind
    rw [g] at this
    rcases Int.mul_eq_zero.1 this.symm with h | h
    ·omega
    ·exact n1 (Prod.ext e1 (by omega))
   by_cases e2 : c.1 = b.1
   ·exfalso
    have : crossP a b c = (b.1 - a.1) * (c.2 - b.2) := by unfold crossP cross; rw [e2]; grind
    rw [g] at this
    rcases Int.mul_eq_zero.1 this.symm with h | h
    ·omega
    ·exact n2 (Prod.ext e2 (by omega))
   exact t1 _ _ p1 p2 (b.1 - c.1) (c.1 - a.1) (by omega) (by omega) s1
  ·have e1 : c.1 = a.1 := by omega
   have ny1 : c.2 ≠ a.2 := fun e => n1 (Prod.ext e1 e)
   have ny2 : c.2 ≠ b.2 := fun e => n2 (Prod.ext (by omega) e)
   rcases Int.lt_trichotomy a.2 b.2 with hy | hy | hy
   ·exact t1 _ _ p1 p2 (b.2 - c.2) (c.2 - a.2) (by omega) (by omega) s2
   ·omega
   ·exact t1 _ _ p1 p2 (c.2 - b.2) (a.2 - c.2) (by omega) (by omega) (by
     have e1 : c.2 - b.2 = - (b.2 - c.2) := by omega
     have e2 : a.2 - c.2 = - (c.2 - a.2) := by omega
     rw [e1, e2, Int.mul_neg, Int.mul_neg, s2])
  ·by_cases e1 : c.1 = a.1
   ·exfalso
    have : crossP a b c = (b.1 - a.1) * (c.2 - a.2) := by unfold crossP cross; rw [e1]; grind
    rw [g] at this
    rcases Int.mul_eq_zero.1 this.symm with h | h
    ·omega
    ·exact n1 (Prod.ext e1 (by omega))
   by_cases e2 : c.1 = b.1
   ·exfalso
    have : crossP a b c = (b.1 - a.1) * (c.2 - b.2) := by unfold crossP cross; rw [e2]; grind
    rw [g] at this
    rcases Int.mul_eq_zero.1 this.symm with h | h
    ·omega
    ·exact n2 (Prod.ext e2 (by omega))
   exact t1 _ _ p1 p2 (c.1 - b.1) (a.1 - c.1) (by omega) (by omega) (by
    have e1 : c.1 - b.1 = - (b.1 - c.1) := by omega
    have e2 : a.1 - c.1 = - (c.1 - a.1) := by omega
    rw [e1, e2, Int.mul_neg, Int.mul_neg, s1])
 have w1 : c ≠ a := n1
 have w2 : c ≠ b := n2
 have hab : a ≠ b := a3
 rcases q1 with h | ⟨_, q1⟩
 ·omega
 rcases q2 with h | ⟨_, q2⟩
 ·omega
 -- c is between a and b, and both are between c and d
 have x1 : c.1 = a.1 ∨ c.1 = b.1 := by omega
 have x2 : c.2 = a.2 ∨ c.2 = b.2 := by omega
 have f1 : crossP a b c = (b.1 - a.1) * (c.2 - a.2) - (b.2 - a.2) * (c.1 - a.1) := rfl
 rw [g] at f1
 rcases x1 with x1 | x1
 ·rcases x2 with x2 | x2
  ·exact w1 (Prod.ext x1 x2)
  ·rw [x1, x2, Int.sub_self, Int.mul_zero, Int.sub_zero] at f1
   rcases Int.mul_eq_zero.1 f1.symm with h | h
   ·exact w2 (Prod.ext (by omega) x2)
   ·exact w1 (Prod.ext x1 (by omega))
 ·rcases x2 with x2 | x2
  ·rw [x1, x2, Int.sub_self, Int.mul_zero, Int.zero_sub] at f1
   have f1 : (b.2 - a.2) * (b.1 - a.1) = 0 := by omega
   rcases Int.mul_eq_zero.1 f1 with h | h
   ·exact w2 (Prod.ext x1 (by omega))
   ·exact w1 (Prod.ext (by omega) x2)
  ·exact w2 (Prod.ext x1 x2)
theorem Hl.valid {S p : List Pt} (h : Hl S p) (hS : ∀ x ∈ S, placeB x = true) (hl : p.length ≤ 64) : validB p = true := by
 have hpos := h.pos
 have hm : ∀ {i : Nat}, i < p.length → gp p i ∈ S := fun hi => h.mem hi
 cases h with
 | one a hp hS' ha =>
  subst hp
  have := hS a ha
  simp [validB, v1B, gp, this]
 | many h =>
  have hn := h.two
  simp only [validB, Bool.and_eq_true, Bool.or_eq_true, decide_eq_true_eq, all_iff, v1B, v3B, v2B, beq_iff_eq]
  refine ⟨⟨⟨hpos, hl⟩, fun i hi => ⟨hS _ (hm hi), ?_⟩⟩, .inr fun i hi k hk => ?_⟩
  ·by_cases e : i = 0
   ·exact .inl e
   ·refine .inr (cmp_lex.2 ?_)
    rcases lexLe_cases (h.fst _ (hm hi)) with g | g
    ·exact g
    ·exact absurd g (h.inj 0 i (by omega) hi)
  ·by_cases e1 : k = i
   ·exact .inl (.inl (by rw [e1]))
   by_cases e2 : k = (i + 1) % p.length
   ·exact .inl (.inr (by rw [e2]))
   exact .inr (h.strict hi hk e1 e2)
theorem Hl.has {S p : List Pt} (h : Hl S p) {x : Pt} (hx : x ∈ S) : hasB p x = true := by
 cases h with
 | one a hp hS' ha => subst hp; simp [hasB, gp, hS' x hx]
 | many h =>
  have hn := h.two
  unfold hasB
  rw [if_neg (by omega)]
  have hs : ∀ i, i < p.length → 0 < crossP (gp p i) (gp p ((i + 1) % p.length)) x ∨ crossP (gp p i) (gp p ((i + 1) % p.length)) x = 0 ∧ betwB (gp p i) (gp p ((i + 1) % p.length)) x = true := fun i hi => (h.side i hi).2.2.2 x hx
  by_cases h2 : p.length = 2
  ·rw [if_pos h2]
   have s0 := hs 0 (by omega)
   have s1 := hs 1 (by omega)
   rw [Nat.mod_eq_of_lt (by omega)] at s0
   rw [h2] at s1
   have e : crossP (gp p 1) (gp p ((1 + 1) % 2)) x = - crossP (gp p 0) (gp p 1) x := cross_flip _ _ _
   rw [e] at s1
   rw [Nat.zero_add] at s0
   simp only [Bool.and_eq_true, decide_eq_true_eq]
   rcases s0 with s0 | ⟨s0, b0⟩
   ·rcases s1 with s1 | ⟨s1, _⟩ <;> omega
   ·exact ⟨s0, b0⟩
  ·rw [if_neg h2]
   refine all_true fun i hi => ?_
   simp only [sideB, decide_eq_true_eq]
   rcases hs i hi with g | ⟨g, _⟩ <;> omega
theorem hl_of_valid {p : List Pt} (h : validB p = true) : Hl p p := by
 have h' := h
 obtain ⟨l1, l2⟩ := len_one h
 by_cases h1 : p.length = 1
 ·match p, h1 with
  | [a], _ => exact .one a rfl (by simp) (by simp)
 have inj : ∀ i j, i < j → j < p.length → gp p i ≠ gp p j := by
  intro i j hij hj
  by_cases h3 : p.length < 3
  ·have : i = 0 := by omega
   subst this
   exact fun e => lt_ne (valid_first h hij hj) e.symm
  ·refine corners_ne (n := p.length) (g := gp p) (fun i hi0 hi => lt_ne (valid_first h hi0 hi)) (fun i hi k hk => ?_) i j hij hj
   exact valid_side h h3 hi hk
 have fst : ∀ y ∈ p, lexLe (gp p 0) y := fun y hy => by
  obtain ⟨i, hi, rfl⟩ := mem_gp hy
  by_cases e : i = 0
  ·subst e; exact lexLe_refl _
  ·exact lexLe_of_lt (cmp_lex.1 (valid_first h (by omega) hi))
 refine .many ⟨by omega, fst, inj, fun i hi => ?_⟩
 have hi' : (i + 1) % p.length < p.length := Nat.mod_lt _ (by omega)
 have hne : gp p i ≠ gp p ((i + 1) % p.length) := by
  by_cases e : i + 1 < p.length
  ·rw [Nat.mod_eq_of_lt e]; exact inj _ _ (by omega) e
  ·rw [show i + 1 = p.length by omega, Nat.mod_self]
   exact fun e => inj 0 i (by omega) hi e.symm
 refine ⟨gp_mem hi, gp_mem hi', hne, fun y hy => ?_⟩
 obtain ⟨k, hk, rfl⟩ := mem_gp hy
 have cases3 : gp p k = gp p i ∨ gp p k = gp p ((i + 1) % p.length) ∨ 0 < crossP (gp p i) (gp p ((i + 1) % p.length)) (gp p k) := by
  by_cases h3 : p.length < 3
  ·have : k = i ∨ k = (i + 1) % p.length := by
    have h2 : p.length = 2 := by omega
    rw [h2]
    omega
   rcases this with e | e
   ·exact .inl (by rw [e])
   ·exact .inr (.inl (by rw [e]))
  ·exact valid_side h h3 hi hk
 rcases cases3 with e | e | e
 ·rw [e]; exact .inr ⟨crossP_a _ _, betw_l _ _⟩
 ·rw [e]; exact .inr ⟨crossP_b _ _, betw_r _ _⟩
 ·exact .inl e
end Go.Proofs.YtdfhnemhkpplbaaGreatDoor
namespace Go.Proofs.YtdfhnemhkpplbaaGreatDoor
open Go
theorem place_bd {p : Pt} (h : placeB p = true) : -500000 ≤ p.1 ∧ p.1 ≤ 500000 ∧ -500000 ≤ p.2 ∧ p.2 ≤ 500000 := by
 simp only [placeB, Bool.and_eq_true] at h
 have h1 := isCb_iff.1 h.1
 have h2 := isCb_iff.1 h.2
 unfold isC at *
 exact ⟨h1.1, h1.2, h2.1, h2.2⟩
theorem valid_place {p : List Pt} (h : validB p = true) {i : Nat} (hi : i < p.length) : placeB (gp p i) = true := by
 simp only [validB, Bool.and_eq_true, all_iff, v1B] at h
 exact (h.1.2 i hi).1
theorem has_bd {p : List Pt} (h : validB p = true) {x : Pt} (hx : hasB p x = true) : -500000 ≤ x.1 ∧ x.1 ≤ 500000 ∧ -500000 ≤ x.2 ∧ x.2 ≤ 500000 := by
 have hb : ∀ i, i < p.length → -500000 ≤ (gp p i).1 ∧ (gp p i).1 ≤ 500000 ∧ -500000 ≤ (gp p i).2 ∧ (gp p i).2 ≤ 500000 := fun i hi => place_bd (valid_place h hi)
 have e1 := at_corners h hx 1 0 500000 (fun i hi => by have := hb i hi; unfold aff; omega)
 have e2 := at_corners h hx (-1) 0 500000 (fun i hi => by have := hb i hi; unfold aff; omega)
 have e3 := at_corners h hx 0 1 500000 (fun i hi => by have := hb i hi; unfold aff; omega)
 have e4 := at_corners h hx 0 (-1) 500000 (fun i hi => by have := hb i hi; unfold aff; omega)
 unfold aff at e1 e2 e3 e4
 omega
theorem has_place {p : List Pt} (h : validB p = true) {x : Pt} (hx : hasB p x = true) : placeB x = true := by
 have := has_bd h hx
 simp only [placeB, isCb, Bool.and_eq_true, decide_eq_true_eq]
 omega
def dotP (a b x : Pt) : Int := (x.1 - a.1) * (b.1 - a.1) + (x.2 - a.2) * (b.2 - a.2)
theorem dot_aff (C : Int) (a b x : Pt) : C * crossP a b x + dotP a b x = aff (C * (-(b.2 - a.2)) + (b.1 - a.1)) (C * (b.1 - a.1) + (b.2 - a.2)) (C * ((b.2 - a.2) * a.1 - (b.1 - a.1) * a.2) - a.1 * (b.1 - a.1) - a.2 * (b.2 - a.2)) x := by
 unfold crossP cross dotP aff; grind
theorem mul_bdg {a b A B : Int} (ha : -A ≤ a) (ha' : a ≤ A) (hb : -B ≤ b) (hb' : b ≤ B) : -(A * B) ≤ a * b ∧ a * b ≤ A * B := by
 have h1 := Int.mul_nonneg (show 0 ≤ A - a by omega) (show 0 ≤ B + b by omega)
 have h2 := Int.mul_nonneg (show 0 ≤ A + a by omega) (show 0 ≤ B - b by omega)
 have h3 := Int.mul_nonneg (show 0 ≤ A - a by omega) (show 0 ≤ B - b by omega)
 have h4 := Int.mul_nonneg (show 0 ≤ A + a by omega) (show 0 ≤ B + b by omega)
 have e1 : (A - a) * (B + b) = A * B + A * b - a * B - a * b := by grind
 have e2 : (A + a) * (B - b) = A * B - A * b + a * B - a * b := by grind
 have e3 : (A - a) * (B - b) = A * B - A * b - a * B + a * b := by grind
 have e4 : (A + a) * (B + b) = A * B + A * b + a * B + a * b := by grind
 omega
theorem dot_bd {a b x : Pt} (ha : placeB a = true) (hb : placeB b = true) (hx : placeB x = true) : -2000000000000 ≤ dotP a b x ∧ dotP a b x ≤ 2000000000000 := by
 have h1 := place_bd ha
 have h2 := place_bd hb
 have h3 := place_bd hx
 have m1 := mul_bdg (a := x.1 - a.1) (b := b.1 - a.1) (A := 1000000) (B := 1000000) (by omega) (by omega) (by omega) (by omega)
 have m2 := mul_bdg (a := x.2 - a.2) (b := b.2 - a.2) (A := 1000000) (B := 1000000) (by omega) (by omega) (by omega) (by omega)
 unfold dotP
 omega
theorem betw_of_dot {a b x : Pt} (hab : a ≠ b) (hz : crossP a b x = 0) (h1 : 0 ≤ dotP a b x) (h2 : 0 ≤ dotP b a x) : betwB a b x = true := by
 have i1 : (x.1 - a.1) * ((b.1 - a.1) * (b.1 - a.1) + (b.2 - a.2) * (b.2 - a.2)) = (b.1 - a.1) * dotP a b x - (b.2 - a.2) * crossP a b x := by unfold dotP crossP cross; grind
 have i2 : (x.2 - a.2) * ((b.1 - a.1) * (b.1 - a.1) + (b.2 - a.2) * (b.2 - a.2)) = (b.2 - a.2) * dotP a b x + (b.1 - a.1) * crossP a b x := by unfold dotP crossP cross; grind
 have i3 : (b.1 - x.1) * ((b.1 - a.1) * (b.1 - a.1) + (b.2 - a.2) * (b.2 - a.2)) = (b.1 - a.1) * dotP b a x + (b.2 - a.2) * crossP a b x := by unfold dotP crossP cross; grind
 have i4 : (b.2 - x.2) * ((b.1 - a.1) * (b.1 - a.1) + (b.2 - a.2) * (b.2 - a.2)) = (b.2 - a.2) * dotP b a x - (b.1 - a.1) * crossP a b x := by unfold dotP crossP cross; grind
 rw [hz, Int.mul_zero] at i1 i2 i3 i4
 have hN : 0 < (b.1 - a.1) * (b.1 - a.1) + (b.2 - a.2) * (b.2 - a.2) := by
  have sq : ∀ z : Int, 0 ≤ z * z ∧ (z ≠ 0 → 0 < z * z) := fun z => by
   rcases Int.lt_trichotomy z 0 with h | h | h
   ·have := Int.mul_pos_of_neg_of_neg h h; omega
   ·subst h; simp
   ·have := Int.mul_pos h h; omega
  have s1 := sq (b.1 - a.1)
  have s2 := sq (b.2 - a.2)
  by_cases e1 : b.1 - a.1 = 0
  ·by_cases e2 : b.2 - a.2 = 0
   ·exact absurd (Prod.ext (by omega) (by omega)) hab
   ·have := s2.2 e2; omega
  ·have := s1.2 e1; omega
 generalize (b.1 - a.1) * (b.1 - a.1) + (b.2 - a.2) * (b.2 - a.2) = N at *
 have pos : ∀ u : Int, 0 ≤ u * N → 0 ≤ u := fun u h => pos_of_mul hN (by rw [Int.mul_comm]; exact h)
 have neg : ∀ u : Int, u * N ≤ 0 → u ≤ 0 := fun u h => by
  have := pos (-u) (by rw [Int.neg_mul]; omega)
  omega
 simp only [betwB, decide_eq_true_eq]
 have mm : ∀ u v : Int, 0 ≤ v → (0 ≤ u → 0 ≤ u * v) ∧ (u ≤ 0 → u * v ≤ 0) := fun u v hv => ⟨fun hu => Int.mul_nonneg hu hv, fun hu => Int.mul_nonpos_of_nonpos_of_nonneg hu hv⟩
 have X1 : (0 ≤ b.1 - a.1 → 0 ≤ x.1 - a.1 ∧ 0 ≤ b.1 - x.1) ∧ (b.1 - a.1 ≤ 0 → x.1 - a.1 ≤ 0 ∧ b.1 - x.1 ≤ 0) :=
  ⟨fun h => ⟨pos _ (by rw [i1]; have := (mm _ _ h1).1 h; omega), pos _ (by rw [i3]; have := (mm _ _ h2).1 h; omega)⟩,
   fun h => ⟨neg _ (by rw [i1]; have := (mm _ _ h1).2 h; omega), neg _ (by rw [i3]; have := (mm _ _ h2).2 h; omega)⟩⟩
 have X2 : (0 ≤ b.2 - a.2 → 0 ≤ x.2 - a.2 ∧ 0 ≤ b.2 - x.2) ∧ (b.2 - a.2 ≤ 0 → x.2 - a.2 ≤ 0 ∧ b.2 - x.2 ≤ 0) :=
  ⟨fun h => ⟨pos _ (by rw [i2]; have := (mm _ _ h1).1 h; omega), pos _ (by rw [i4]; have := (mm _ _ h2).1 h; omega)⟩,
   fun h => ⟨neg _ (by rw [i2]; have := (mm _ _ h1).2 h; omega), neg _ (by rw [i4]; have := (mm _ _ h2).2 h; omega)⟩⟩
 omega
theorem hl_of_has {T p : List Pt} (hv : validB p = true) (hT : ∀ y ∈ T, hasB p y = true) (hp : ∀ y ∈ p, y ∈ T) : Hl T p := by
 have hs := hl_of_valid hv
 have hpl : ∀ i, i < p.length → placeB (gp p i) = true := fun i hi => valid_place hv hi
 cases hs with
 | one a hpa hS ha =>
  subst hpa
  refine .one a rfl (fun y hy => ?_) (hp a (by simp))
  have := hT y hy
  simp [hasB, gp] at this
  exact this.symm
 | many h =>
  have hn := h.two
  refine .many ⟨hn, fun y hy => ?_, h.inj, fun i hi => ?_⟩
  ·have hy' := hT y hy
   have b := has_bd hv hy'
   have b0 := place_bd (hpl 0 (by omega))
   have := at_corners hv hy' 2000001 1 (-(2000001 * (gp p 0).1) - (gp p 0).2) (fun i hi => by
    have g := h.fst _ (gp_mem hi)
    have b1 := place_bd (hpl i hi)
    unfold lexLe at g
    unfold aff
    omega)
   unfold aff at this
   unfold lexLe
   omega
  ·have hi' : (i + 1) % p.length < p.length := Nat.mod_lt _ (by omega)
   obtain ⟨e1, e2, e3, e4⟩ := h.side i hi
   refine ⟨hp _ e1, hp _ e2, e3, fun y hy => ?_⟩
   have hy' := hT y hy
   have yp := has_place hv hy'
   have cr0 : 0 ≤ crossP (gp p i) (gp p ((i + 1) % p.length)) y := by
    have := at_corners hv hy' _ _ _ (fun k hk => by
     rw [← cross_aff (gp p i) (gp p ((i + 1) % p.length))]
     rcases e4 _ (gp_mem hk) with g | ⟨g, _⟩ <;> omega)
    rw [← cross_aff] at this
    exact this
   rcases Int.lt_or_eq_of_le cr0 with g | g
   ·exact .inl g
   refine .inr ⟨g.symm, betw_of_dot e3 g.symm ?_ ?_⟩
   ·have := at_corners hv hy' _ _ _ (fun k hk => by
     rw [← dot_aff 10000000000000 (gp p i) (gp p ((i + 1) % p.length))]
     have bd := dot_bd (hpl i hi) (hpl _ hi') (hpl k hk)
     rcases e4 _ (gp_mem hk) with g | ⟨g, gb⟩
     ·omega
     ·have : 0 ≤ dotP (gp p i) (gp p ((i + 1) % p.length)) (gp p k) := by
       simp only [betwB, decide_eq_true_eq] at gb
       unfold dotP
       generalize gp p i = a at *
       generalize gp p ((i + 1) % p.length) = b at *
       generalize gp p k = c at *
       have m : ∀ u v w : Int, min u v ≤ w → w ≤ max u v → 0 ≤ (w - u) * (v - u) := fun u v w h1 h2 => by
        rcases Int.le_total u v with h | h
        ·exact Int.mul_nonneg (by omega) (by omega)
        ·exact Int.mul_nonneg_of_nonpos_of_nonpos (by omega) (by omega)
       have := m a.1 b.1 c.1 gb.1 gb.2.1
       have := m a.2 b.2 c.2 gb.2.2.1 gb.2.2.2
       omega
      omega)
    rw [← dot_aff, ← g] at this
    omega
   ·have hz : crossP (gp p ((i + 1) % p.length)) (gp p i) y = 0 := by rw [cross_flip, ← g]; rfl
    have := at_corners hv hy' _ _ _ (fun k hk => by
     rw [← dot_aff (-10000000000000) (gp p ((i + 1) % p.length)) (gp p i), cross_flip]
     have bd := dot_bd (hpl _ hi') (hpl i hi) (hpl k hk)
     rcases e4 _ (gp_mem hk) with g | ⟨g, gb⟩
     ·omega
     ·have : 0 ≤ dotP (gp p ((i + 1) % p.length)) (gp p i) (gp p k) := by
       simp only [betwB, decide_eq_true_eq] at gb
       unfold dotP
       generalize gp p i = a at *
       generalize gp p ((i + 1) % p.length) = b at *
       generalize gp p k = c at *
       have m : ∀ u v w : Int, min v u ≤ w → w ≤ max v u → 0 ≤ (w - u) * (v - u) := fun u v w h1 h2 => by
        rcases Int.le_total u v with h | h
        ·exact Int.mul_nonneg (by omega) (by omega)
        ·exact Int.mul_nonneg_of_nonpos_of_nonpos (by omega) (by omega)
       have := m b.1 a.1 c.1 gb.1 gb.2.1
       have := m b.2 a.2 c.2 gb.2.2.1 gb.2.2.2
       omega
      omega)
    rw [← dot_aff, hz] at this
    omega
end Go.Proofs.YtdfhnemhkpplbaaGreatDoor
namespace Go.Proofs.YtdfhnemhkpplbaaGreatDoor
open Go
def sm (f : Nat → Int) : Nat → Int
 | 0 => 0
 | n + 1 => sm f n + f n
theorem sum_erase {α : Type} [DecidableEq α] (w : α → Int) {x : α} : ∀ {m : List α}, x ∈ m → (m.map w).sum = w x + ((m.erase x).map w).sum
 | y :: m, h => by
  by_cases e : y = x
  ·subst e; simp
  ·have hm : x ∈ m := by
    rcases List.mem_cons.1 h with h | h
    ·exact absurd h.symm e
    ·exact h
   rw [List.erase_cons_tail (by simpa using e)]
   simp only [List.map_cons, List.sum_cons]
   rw [sum_erase w hm]
   omega
theorem sum_nonneg {α : Type} (w : α → Int) : ∀ {m : List α}, (∀ x ∈ m, 0 ≤ w x) → 0 ≤ (m.map w).sum
 | [], _ => by simp
 | y :: m, h => by
  simp only [List.map_cons, List.sum_cons]
  have := sum_nonneg w (m := m) fun x hx => h x (List.mem_cons_of_mem _ hx)
  have := h y (by simp)
  omega
theorem sum_sub {α : Type} [DecidableEq α] (w : α → Int) : ∀ {l m : List α}, l.Nodup → (∀ x ∈ l, x ∈ m) → (∀ x ∈ m, 0 ≤ w x) → (l.map w).sum ≤ (m.map w).sum
 | [], m, _, _, h => by simpa using sum_nonneg w h
 | x :: l, m, hn, hs, h => by
  rw [List.nodup_cons] at hn
  rw [sum_erase w (hs x (by simp))]
  simp only [List.map_cons, List.sum_cons]
  have := sum_sub w (l := l) (m := m.erase x) hn.2 (fun y hy => by
   have hne : y ≠ x := fun e => hn.1 (e ▸ hy)
   exact (List.mem_erase_of_ne hne).2 (hs y (List.mem_cons_of_mem _ hy))) (fun y hy => h y (List.mem_of_mem_erase hy))
  omega
end Go.Proofs.YtdfhnemhkpplbaaGreatDoor
namespace Go.Proofs.YtdfhnemhkpplbaaGreatDoor
open Go
theorem sortP_mem {ps : List Pt} {x : Pt} : x ∈ sortP ps ↔ x ∈ ps := by unfold sortP; simp
theorem sortP_le (ps : List Pt) : (sortP ps).Pairwise lexLe := by
 have hle : ∀ a b : Pt, (!ltP b a) = true ↔ lexLe a b := fun a b => by
  rw [Bool.not_eq_true', ltP_ff]
  unfold lexLe; omega
 have := List.pairwise_mergeSort (le := fun x y => !ltP y x) (fun a b c h1 h2 => by
  rw [hle] at *
  unfold lexLe at *; omega) (fun a b => by
  rw [Bool.or_eq_true, hle, hle]
  unfold lexLe; omega) ps
 exact this.imp fun h => (hle _ _).1 h
theorem pairwise_gp {R : Pt → Pt → Prop} {l : List Pt} (h : l.Pairwise R) {i j : Nat} (hij : i < j) (hj : j < l.length) : R (gp l i) (gp l j) := by
 have := List.pairwise_iff_getElem.1 h i j (by omega) hj hij
 simpa [gp, List.getD_eq_getElem?_getD, List.getElem?_eq_getElem hj, List.getElem?_eq_getElem (show i < l.length by omega)] using this
theorem compact_sorted {l : List Pt} (h : l.Pairwise lexLe) : (compactP l).Pairwise lexLt := by
 unfold compactP comp
 rw [List.pairwise_map]
 refine List.Pairwise.imp_of_mem ?_ (List.Pairwise.filter _ (List.pairwise_lt_range (n := l.length)))
 intro i j hi hj hij
 simp only [List.mem_filter, List.mem_range, keepB, Bool.or_eq_true, beq_iff_eq, bne_iff_ne] at hi hj
 obtain ⟨hj1, hj2⟩ := hj
 have hne : gp l j ≠ gp l (j - 1) := by
  rcases hj2 with e | e
  ·omega
  ·exact e
 have h1 : lexLe (gp l (j - 1)) (gp l j) := pairwise_gp h (by omega) hj1
 have h2 : lexLe (gp l i) (gp l (j - 1)) := by
  by_cases e : i = j - 1
  ·rw [e]; exact lexLe_refl _
  ·exact pairwise_gp h (by omega) (by omega)
 have h3 : lexLt (gp l (j - 1)) (gp l j) := by
  rcases lexLe_cases h1 with h | h
  ·exact h
  ·exact absurd h.symm hne
 unfold lexLt lexLe at *
 omega
theorem compact_mem {l : List Pt} {x : Pt} : x ∈ compactP l ↔ x ∈ l := by
 constructor
 ·intro h
  simp only [compactP, comp, List.mem_map, List.mem_filter, List.mem_range] at h
  obtain ⟨i, ⟨hi, _⟩, rfl⟩ := h
  exact gp_mem hi
 ·intro h
  obtain ⟨i, hi, rfl⟩ := mem_gp h
  simp only [compactP, comp, List.mem_map, List.mem_filter, List.mem_range]
  clear h
  induction i with
  | zero => exact ⟨0, ⟨hi, by simp [keepB]⟩, rfl⟩
  | succ i ih =>
   by_cases e : gp l (i + 1) = gp l i
   ·rw [e]
    exact ih (by omega)
   ·exact ⟨i + 1, ⟨hi, by simp [keepB, e]⟩, rfl⟩
theorem around_hl {ps : List Pt} (hne : ps ≠ []) : Hl ps (aroundP ps) := by
 have hs := compact_sorted (sortP_le ps)
 have hm : ∀ x, x ∈ compactP (sortP ps) ↔ x ∈ ps := fun x => compact_mem.trans sortP_mem
 unfold aroundP
 generalize compactP (sortP ps) = s at *
 split
 ·rename_i h3
  match s, h3 with
  | [], _ =>
   exfalso
   match ps, hne with
   | a :: r, _ => have := (hm a).2 (by simp); cases this
  | [a], _ => exact .one a rfl (fun y hy => by have := (hm y).2 hy; simpa using this) ((hm a).1 (by simp))
  | [a, b], _ =>
   have hab : lexLt a b := by simpa using hs
   refine Hl.congr (S := [a, b]) (.many ⟨by simp, ?_, ?_, ?_⟩) (fun x => (hm x).symm)
   ·intro y hy
    simp at hy
    rcases hy with rfl | rfl
    ·exact lexLe_refl _
    ·exact lexLe_of_lt hab
   ·intro i j hij hj
    simp at hj
    obtain ⟨rfl, rfl⟩ : i = 0 ∧ j = 1 := by omega
    exact fun e => lexLt_irrefl a (by have : a = b := e; rw [← this] at hab; exact hab)
   ·have hne : a ≠ b := fun e => lexLt_irrefl a (by rw [← e] at hab; exact hab)
    intro i hi
    simp at hi
    have : i = 0 ∨ i = 1 := by omega
    rcases this with rfl | rfl
    ·show E [a, b] a b
     refine ⟨by simp, by simp, hne, fun y hy => ?_⟩
     simp at hy
     rcases hy with rfl | rfl
     ·exact .inr ⟨crossP_a _ _, betw_l _ _⟩
     ·exact .inr ⟨crossP_b _ _, betw_r _ _⟩
    ·have e : (1 + 1) % [a, b].length = 0 := by simp
     rw [e]
     show E [a, b] b a
     refine ⟨by simp, by simp, hne.symm, fun y hy => ?_⟩
     simp at hy
     rcases hy with rfl | rfl
     ·exact .inr ⟨crossP_b _ _, betw_r _ _⟩
     ·exact .inr ⟨crossP_a _ _, betw_l _ _⟩
 ·rename_i h3
  exact (Hl.many (cyc_of (by omega) hs)).congr fun x => (hm x).symm
theorem around_eq {ps p : List Pt} (h : Hl ps p) : aroundP ps = p := by
 refine Hl.unique (around_hl ?_) h
 intro e
 subst e
 have := h.mem (i := 0) h.pos
 cases this
def hullB (l : List Pt) : List Pt × Int :=
 if 4000 < l.length then ([], 2) else if l = [] ∨ l.all placeB = false then ([], 1) else if 64 < (aroundP l).length then ([], 2) else (aroundP l, 0)
end Go.Proofs.YtdfhnemhkpplbaaGreatDoor
namespace Go.Proofs.YtdfhnemhkpplbaaGreatDoor
open Go Go.V Go.RowKit
theorem any_placeB (l : List Pt) : l.any (fun p => !placeB p) = !(l.all placeB) := by
 induction l with
 | nil => rfl
 | cons a l ih => simp [ih]
theorem all_isC {l : List Pt} (h : l.all placeB = true) : ∀ p ∈ l, isC p.1 ∧ isC p.2 := fun p hp => by
 have := List.all_eq_true.1 h p hp
 simp only [placeB, Bool.and_eq_true] at this
 exact ⟨isCb_iff.1 this.1, isCb_iff.1 this.2⟩
theorem Hull_fn (v : Value) (l : List Pt) (M : Mem) (hv : Pts M v l) (h64 : i64P l) : V.Fn Tryz.prog 26 [v] M fun rs M' => ∃ u, rs = [u, .int .i64 (hullB l).2] ∧ Pts M' u (hullB l).1 := by
 obtain ⟨ad, c, rfl⟩ := hv.shape
 refine Fn.of_vc cxOK Tryz.func26 rfl rfl rfl ?_
 repeat (first | refine VIf.tt ?_ | refine VIf.ff ?_)
 refine VIf.mk (fun h => ?_) (fun h => ?_)
 ·have h : 4000 < l.length := by have := of_decide_eq_true h; omega
  have e : hullB l = ([], 2) := by unfold hullB; rw [if_pos h]
  rw [e]
  repeat (first | refine VIf.tt ?_ | refine VIf.ff ?_)
  exact VFact.mk ⟨_, rfl, Pts.nil _⟩ trivial
 have h4 : ¬ 4000 < l.length := by have := of_decide_eq_false h; omega
 have bad : (l = [] ∨ l.all placeB = false) → hullB l = ([], 1) := fun hb => by unfold hullB; rw [if_neg h4, if_pos hb]
 repeat (first | refine VIf.tt ?_ | refine VIf.ff ?_)
 refine VIf.mk (fun h => ?_) (fun h => ?_)
 ·have h : l = [] := List.eq_nil_of_length_eq_zero (by have := eq_of_beq h; omega)
  rw [bad (.inl h)]
  repeat (first | refine VIf.tt ?_ | refine VIf.ff ?_)
  refine VFact.mk ⟨_, rfl, Pts.nil _⟩ trivial
 have hne : l ≠ [] := fun e => by subst e; simp at h
 repeat (first | refine VIf.tt ?_ | refine VIf.ff ?_)
 refine VFn.mk _ (ContainsP_fn _ l _ (fun p => !placeB p) M hv fun i hi M' => Hull1_fn _ (h64 i hi).1 (h64 i hi).2 M') ?_
 rintro rs M1 hM1 rfl
 repeat (first | refine VIf.tt ?_ | refine VIf.ff ?_)
 refine VIf.mk (fun h => ?_) (fun h => ?_)
 ·have h : l.all placeB = false := by rw [any_placeB] at h; simpa using h
  rw [bad (.inr h)]
  repeat (first | refine VIf.tt ?_ | refine VIf.ff ?_)
  refine VFact.mk ⟨_, rfl, Pts.nil _⟩ trivial
 have hall : l.all placeB = true := by rw [any_placeB] at h; simpa using h
 repeat (first | refine VIf.tt ?_ | refine VIf.ff ?_)
 refine VFn.mk _ (around_fn _ l M1 (hv.le hM1) (List.length_pos_iff.2 hne) (by omega) (all_isC hall)) ?_
 rintro rs M2 hM2 ⟨u, rfl, hu⟩
 have e0 : hullB l = if 64 < (aroundP l).length then ([], 2) else (aroundP l, 0) := by
  unfold hullB; rw [if_neg h4, if_neg (by rw [hall]; simp [hne])]
 rw [e0]
 obtain ⟨ud, uc, rfl⟩ := hu.shape
 repeat (first | refine VIf.tt ?_ | refine VIf.ff ?_)
 refine VIf.mk (fun h => ?_) (fun h => ?_)
 ·have h : 64 < (aroundP l).length := by have := of_decide_eq_true h; omega
  rw [if_pos h]
  repeat (first | refine VIf.tt ?_ | refine VIf.ff ?_)
  refine VFact.mk ⟨_, rfl, Pts.nil _⟩ trivial
 ·have h : ¬ 64 < (aroundP l).length := by have := of_decide_eq_false h; omega
  rw [if_neg h]
  repeat (first | refine VIf.tt ?_ | refine VIf.ff ?_)
  exact VFact.mk ⟨_, rfl, hu⟩ trivial
end Go.Proofs.YtdfhnemhkpplbaaGreatDoor
