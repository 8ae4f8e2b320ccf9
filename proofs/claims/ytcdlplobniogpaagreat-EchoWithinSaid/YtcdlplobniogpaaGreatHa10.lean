/- The verification-condition framework, part Z: iterators that read what the rounds of their loop turn; loops over them. -/
import Derived.Test.YtcdlplobniogpaaGreatHa9
set_option linter.unusedVariables false
set_option linter.unusedSimpArgs false
namespace Go.V
open Go Go.RowKit
variable {P : Program}
def Mem.over (M : Mem) (D : List Nat) (o : Mem) : Mem := fun b => if b ∈ D then o b else M b
theorem Mem.over_in {M : Mem} {D : List Nat} {o : Mem} {b : Nat} (h : b ∈ D) : M.over D o b = o b := if_pos h
theorem Mem.over_out {M : Mem} {D : List Nat} {o : Mem} {b : Nat} (h : b ∉ D) : M.over D o b = M b := if_neg h
def turnX {α : Type} (D : List Nat) (N : α → Mem) (Q : List Value → List Value → Mem → Prop) : Lx := ⟨fun M b M' => match b with
 | true => ∃ x, M' = M.over D (N x)
 | false => M' = M.over D fun _ => none, fun tag args M => ∃ Mq, Mq.le M ∧ (∀ b ∈ D, Mq b = none) ∧ Q tag args Mq⟩
structure IterG (P : Program) (gf : Nat) (lb : Array Value) (M : Mem) {α : Type} (D : List Nat) (N : α → Mem) (Q : List Value → List Value → Mem → Prop) (xs : List (List Value)) : Prop where
 ent : Enters P gf
 run : ∀ (n l : Nat) (J : Nat → (Nat → Prop) → World → Prop) (Jx : World → Prop) (X : Nat → Prop) (W : World),
  (∀ k X W W', J k X W → Below W.heap.size W W' → J k X W') → (∀ W W', Jx W → Below W.heap.size W W' → Jx W') →
  (∀ k X W, J k X W → ∀ b, X b → b < W.heap.size) →
  (∀ k X W, J k X W → ∃ x, ∀ b ∈ D, ∀ o, N x b = some o → W.heap[b]? = some o) →
  (∀ k X W1 tag args Mq, J k X W1 → xs[k]? = some tag → Mq.ok W1 → (∀ b, X b → Mq b = none) → (∀ b, b < W.heap.size → ∀ o, Mq b = some o → M b = some o) → Q tag args Mq → ∀ n, YieldAt (Fw none) n P l args.toArray W1 fun e W' =>
   Off X W1 W' ∧ ((e = .returned (.bool true) ∧ ∃ X', (∀ b, X' b → X b ∨ W1.heap.size ≤ b) ∧ J (k + 1) X' W') ∨ (e = .returned (.bool false) ∧ Jx W'))) →
  J 0 X W → M.ok W → (∀ b, X b → M b = none) →
  CallsIn (Fw none) n P gf (#[.func (.yield l) #[] #[]] ++ lb) W fun e W' => (∃ v, e = .returned v) ∧ ((∃ X, J xs.length X W') ∨ Jx W')
inductive VEndT (L : Lp) (G : Gh) : Prop
 | all (h : G.Y = some (L, []))
 | stop (h : G.Y = none)
def finT (L : Lp) (e : Ex) (st : St) : Prop :=
 match e with
 | .exit _ => VStuck 173
 | _ => match st with | ⟨_, _, _, _, _, G⟩ => VEndT L G
theorem IterG.of_vc {C : VX} (hC : VXOK P C) {f : Nat} {fn : Func} {c : Code} (hf : P.funcs[f]? = some fn) (hb : fn.body = some c) (hname : (fn.name == "runtime.NumGoroutine") = false) (hres : fn.results = #[])
  {lb : Array Value} (hnt : Nat.ble (lb.toList.length + 1) fn.ntmps = true) {M : Mem} {α : Type} {D : List Nat} {N : α → Mem} {Q : List Value → List Value → Mem → Prop} {xs : List (List Value)} (h : ∀ (l : Nat) (x : α), vc C P c (st0 (.func (.yield l) #[] #[] :: lb.toList) (M.over D (N x)) fn.ntmps (some (⟨l, some (turnX D N Q)⟩, xs))) (finT ⟨l, some (turnX D N Q)⟩)) : IterG P f lb M D N Q xs := by
 refine ⟨Go.Proofs.enters_of hf hname hb, ?_⟩
 intro n l J Jx X W hJ hJx hXlt hJD hround h0 hMM hX
 have hargs : (#[Value.func (.yield l) #[] #[]] ++ lb) = (Value.func (.yield l) #[] #[] :: lb.toList).toArray := by apply Array.ext'; simp
 rw [hargs]
 obtain ⟨x0, hx0⟩ := hJD 0 X W h0
 have h := h l x0
 obtain ⟨L, hL⟩ : ∃ L : Lp, L = ⟨l, some (turnX D N Q)⟩ := ⟨_, rfl⟩
 rw [← hL] at h
 have hMo : (M.over D (N x0)).ok W := fun b o hb => by
  unfold Mem.over at hb
  split at hb
  ·rename_i hd; exact hx0 b hd o hb
  ·exact hMM b o hb
 have hXo : ∀ b, X b → b ∉ D → M.over D (N x0) b = none := fun b hb hd => by rw [Mem.over_out hd]; exact hX b hb
 obtain ⟨M9, hM9⟩ : ∃ M9, M9 = M.over D (N x0) := ⟨_, rfl⟩
 have h9 : ∀ b, b ∉ D → M9 b = M b := fun b hd => by rw [hM9, Mem.over_out hd]
 rw [← hM9] at h hMo hXo
 generalize hal : (Value.func (.yield l) #[] #[] :: lb.toList) = args at h
 have hlen : args.length = lb.toList.length + 1 := by rw [← hal]; rfl
 have hle := Nat.le_of_ble_eq_true hnt
 refine callsIn_of_wp_marks hf hb trivial ?_ rfl
 have hs0 : Sat W.heap.size W M9 (fun _ => undef) (st0 args M9 fn.ntmps (some (L, xs))) { tmps := args.toArray ++ Array.replicate (fn.ntmps - args.toArray.size) undef, defers := [] } W := by
  refine ⟨⟨Below.refl _ _, Nat.le_refl _, hMo, ?_, ?_, ?_, ?_, fun _ _ => rfl, fun b o hb => by cases hb⟩, by simp [st0]; omega, ?_, trivial⟩
  ·intro id e he; simp [St.own, st0, look] at he
  ·intro i j ei ej hi; simp [St.own, st0, look] at hi
  ·intro i e b hi; simp [St.own, st0, look] at hi
  ·intro b o hb; cases hb
  ·intro d s hd
   obtain ⟨h1, h2, v, h3, rfl⟩ := argSlots_look args 0 d s hd
   refine ⟨by simp [st0]; omega, trivial, ?_⟩
   simp only [Nat.sub_zero] at h3
   rw [Array.getElem?_append_left (by simp; omega)]
   simp only [SV.den, List.getElem?_toArray]
   exact h3
 let κ : Yt → Bs → Prop := fun Y B => B.n₀ = B.w.heap.size ∧ match Y with
  | some (l', rest) => l' = L ∧ (W.heap.size ≤ B.n₀ ∧ ∀ b, b < W.heap.size → b ∉ D → B.M₀ b = M b) ∧ ∃ k X, rest = xs.drop k ∧ k ≤ xs.length ∧ J k X B.w ∧ ∀ b, X b → b ∉ D → B.M₀ b = none
  | none => Jx B.w
 have hYOK : YOK none P κ := by
  rintro l' tag args rest B M' W1 ⟨hn, rfl, ⟨hs0', hs1'⟩, k, X, hr, hk, hj, hx⟩ hbl hsz hok hlow htag n
  have hj1 : J k X W1 := hJ _ _ _ _ hj (by rw [← hn]; exact hbl)
  have hlt := hXlt _ _ _ hj
  have hdisj : ∀ b, X b → b ∉ D → M' b = none := fun b hb hd => by
   have := hlt b hb
   rw [hlow b (by omega)]
   exact hx b hb hd
  subst hL
  obtain ⟨Mq, q1, q2, q3⟩ := htag
  have lowW : ∀ b, b < W.heap.size → b ∉ D → M' b = M b := fun b hb hd => by rw [hlow b (by omega)]; exact hs1' b hb hd
  have hk' : k < xs.length := by
   rcases Nat.lt_or_ge k xs.length with h | h
   ·exact h
   ·rw [List.drop_eq_nil_of_le h] at hr; cases hr
  have hd := List.drop_eq_getElem_cons hk'
  rw [hd] at hr
  obtain ⟨ha, hr'⟩ := List.cons.inj hr
  obtain ⟨fn', tmps, assign, body, hy, hro⟩ := hround k X W1 tag args Mq hj1 (by rw [ha]; exact List.getElem?_eq_getElem hk') (fun b o hb => hok b o (q1 b o hb)) (fun b hb => by
   by_cases hd : b ∈ D
   ·exact q2 b hd
   ·have h1 := hdisj b hb hd
    cases hm : Mq b with
    | none => rfl
    | some o => rw [q1 b o hm] at h1; cases h1) (fun b hb o ho => by
   have hd : b ∉ D := fun hd => by rw [q2 b hd] at ho; cases ho
   rw [← lowW b hb hd]; exact q1 b o ho) q3 n
  refine ⟨fn', tmps, assign, body, hy, hro.mono ?_⟩
  rintro e W' ⟨⟨hoff, hsz'⟩, hcase⟩
  have hokD : ∀ b, b ∉ D → ∀ o, M' b = some o → W'.heap[b]? = some o := fun b hd o hb => by
   have h1 := hok b o hb
   rw [hoff b (Array.getElem?_eq_some_iff.1 h1).1 (fun hxb => by rw [hdisj b hxb hd] at hb; cases hb)]
   exact h1
  rcases hcase with ⟨rfl, X', hx', hj'⟩ | ⟨rfl, hj'⟩
  ·obtain ⟨x1, hx1⟩ := hJD _ _ _ hj'
   refine ⟨M'.over D (N x1), ?_, .inl ⟨rfl, ⟨x1, rfl⟩, rfl, rfl, ⟨?_, ?_⟩, k + 1, X', hr', hk', hj', ?_⟩⟩
   ·intro b o hb
    unfold Mem.over at hb
    split at hb
    ·rename_i hd; exact hx1 b hd o hb
    ·rename_i hd; exact hokD b hd o hb
   ·show W.heap.size ≤ W'.heap.size
    omega
   ·intro b hb hd
    show M'.over D (N x1) b = _
    rw [Mem.over_out hd]
    exact lowW b hb hd
   ·intro b hb hd
    show M'.over D (N x1) b = none
    rw [Mem.over_out hd]
    rcases hx' b hb with h | h
    ·exact hdisj b h hd
    ·cases hm : M' b with
     | none => rfl
     | some o =>
      have := (Array.getElem?_eq_some_iff.1 (hok b o hm)).1
      omega
  ·refine ⟨M'.over D fun _ => none, ?_, .inr ⟨rfl, rfl, rfl, hj'⟩⟩
   intro b o hb
   unfold Mem.over at hb
   split at hb
   ·cases hb
   ·rename_i hd; exact hokD b hd o hb
 have := vc_sound (r := none) (n := n) hC (κ := κ) hYOK (fx := fun _ => False) (tm := #[]) (B := ⟨W.heap.size, W, M9⟩) c h (fun l hl => by cases hl)
  ⟨rfl, rfl, ⟨Nat.le_refl _, fun b _ hd => h9 b hd⟩, 0, X, rfl, Nat.zero_le _, h0, hXo⟩ hs0 (wr_false c) (fun d hd => hd.elim)
 refine wpIn_mono this ?_
 rintro e a' W' ⟨⟨ex, he, B, ρ, st, hκ, h1, h2, h3⟩, _⟩
 have main : finT L .ret st → LeavesInM (Fw none) n P fn a'.tmps (fun e W' => (∃ v, e = .returned v) ∧ ((∃ X, J xs.length X W') ∨ Jx W')) a'.defers .returning W' := by
  intro h3
  refine leaves_of a'.defers h1.h h1.h rfl (fun b => by rw [h2.2]; rfl) h1.marks ?_
  intro G W'' s1 _
  refine ⟨ret [], results_ret fn a'.tmps P [] W'' (by rw [hres]; rfl), ⟨_, rfl⟩, ?_⟩
  have hbl := s1.below
  rw [hκ.1] at hbl
  obtain ⟨sl, ow, nx, M', nt, G'⟩ := st
  simp only [finT] at h3
  cases h3 with
  | all h =>
   have hκ2 := hκ.2
   rw [h] at hκ2
   obtain ⟨_, _, k, X, hr, hk, hj, _⟩ := hκ2
   have : k = xs.length := by
    have := congrArg List.length hr
    simp at this
    omega
   subst this
   exact .inl ⟨X, hJ _ _ _ _ hj hbl⟩
  | stop h =>
   have hκ2 := hκ.2
   rw [h] at hκ2
   exact .inr (hJx _ _ hκ2 hbl)
 cases e with
 | normal => cases he; exact main h3
 | ret => cases he; exact main h3
 | exit i => cases he; cases h3
 | goto => cases he
 | panic => cases he
 | outgrown => cases he
def St.flatSM (st : St) (sl : List (Nat × SV)) (M : Mem) (m f : Mem) (k : St → Prop) : Prop :=
 match st with
 | ⟨_, ow, nx, _, nt, _⟩ => k ⟨sl, ow, nx, M, nt, ⟨m, none, f⟩⟩
theorem flatSM_iff {st : St} {sl : List (Nat × SV)} {M m f : Mem} {k : St → Prop} (h : st.flatSM sl M m f k) : k { st with sl := sl, M := M, G := ⟨m, none, f⟩ } := by cases st; exact h
set_option maxHeartbeats 400000 in
open Classical in
theorem VCode.rangeG {C : VX} (hC : VXOK P C) {g : Operand} {ps : Array Tmp} {assign body : Code} {st : St} {Q : Ex → St → Prop} {gf : Nat} {lb : Array Value} {xs : List (List Value)} {α : Type} {D : List Nat} {N : α → Mem} {QQ : List Value → List Value → Mem → Prop} {gs : SV}
  (hg : st.ev g = some gs) (hgd : ∀ n₀ w M₀ ρ W, SatH n₀ w M₀ ρ st W → gs.den ρ = .func (.func gf) #[] lb) (hit : IterG P gf lb st.M D N QQ xs) (hlen : ∀ tag ∈ xs, ∀ x M, QQ tag x M → x.length = ps.size) (hmono : ∀ tag x M M', M.le M' → QQ tag x M → QQ tag x M') (sl0 : List (Nat × SV))
  (hps : ∀ p ∈ ps.toList, p < st.nt ∧ ¬ look sl0 p ≠ none) (hwa : wr (fun d => look sl0 d ≠ none) assign) (hwb : wr (fun d => look sl0 d ≠ none) body)
  (S : Type) (inv : Nat → S → St) (pf : Nat → S → Prop) (s0 : S) (h0 : pf 0 s0) (hw : Wk { st with G := ⟨st.G.m, none, st.G.f⟩ } (inv 0 s0))
  (hinv : ∀ k s, (inv k s).sl = sl0 ∧ (inv k s).nt = st.nt) (hle : ∀ k s, pf k s → st.M.le (inv k s).M)
  (hD : ∀ k s, pf k s → ∀ n₀ w M₀ ρ G W, SatH n₀ w M₀ ρ { inv k s with G := G } W → ∃ x, ∀ b ∈ D, ∀ o, N x b = some o → W.heap[b]? = some o)
  (round : st.withYf fun Y fQ => ∀ k s tag args, pf k s → xs[k]? = some tag → ∀ Mn, (inv k s).M.le Mn → QQ tag args Mn → ∀ m f, (inv k s).flatSM (parSl ps.toList args sl0) Mn m f fun st0 => vc C P assign st0 fun e st1 => match e with
   | .normal => ∀ m', st1.flatY m' none f fun st1 => vc C P body st1 fun e st2 => match e with
    | .normal => ∃ s', pf (k + 1) s' ∧ Wk st2 (inv (k + 1) s')
    | e => ∃ st3, Wk st2 st3 ∧ st3.sl = sl0 ∧ st3.nt = st.nt ∧ ∀ m, st3.flatY m Y fQ (Q e)
   | _ => False)
  (done : st.withYf fun Y f => ∀ s m, pf xs.length s → (inv xs.length s).flatY m Y f (Q .normal)) : VCode P (.rangeFunc g ps assign body) st Q := by
 refine ⟨fun r n κ B ρ a W fx tm hY hr hκ h hwr hkp => ?_⟩
 refine wpIn_rangeFunc ?_
 intro fn hfn
 -- the record, and the block for deferred calls
 obtain ⟨l, mark, W1, df, m1, henter, hL, hlW, hbW, hm1, hm1l, hmarks, hpin1⟩ : ∃ l mark W1 df m1, (Instr.enterLoop fn a.tmps ps assign body (Fw r).round).run P W = .ok (l, mark) W1 ∧
   W1.heap[l]? = some (.loop { state := .ready, pending := none, fn, tmps := a.tmps, params := ps, assign, body, defers := df }) ∧ W.heap.size ≤ l ∧ Below W.heap.size W W1 ∧ st.G.m.le m1 ∧ m1 l = none ∧ Marks B.n₀ m1 (mark ++ a.defers) ∧
   (∀ b o, m1 b = some o → isHeld o = false ∧ W1.heap[b]? = some o ∧ st.M b = none) := by
  have hMnew : ∀ b, W.heap.size ≤ b → st.M b = none := fun b hb => by
   cases hm : st.M b with
   | none => rfl
   | some o => have := (Array.getElem?_eq_some_iff.1 (h.h.mem b o hm)).1; omega
  have hGnew : ∀ b, W.heap.size ≤ b → st.G.m b = none := fun b hb => by
   cases hm : st.G.m b with
   | none => rfl
   | some o => have := (Array.getElem?_eq_some_iff.1 (h.h.pin b o hm).2.1).1; omega
  cases r with
  | none =>
   have hb1 : Below W.heap.size W (W.alloc (.deferred (some []))) := (Below.refl _ W).alloc (Nat.le_refl _) _
   have hb2 : Below W.heap.size W ((W.alloc (.deferred (some []))).alloc (.loop { state := .ready, pending := none, fn, tmps := a.tmps, params := ps, assign, body, defers := W.heap.size })) := hb1.alloc (by simp) _
   refine ⟨W.heap.size + 1, _, _, W.heap.size, fun b => if b = W.heap.size then some (.deferred (some [])) else st.G.m b, run_enterLoop_outer _ _ _ _ _, ?_, by omega, hb2, ?_, ?_, ?_, ?_⟩
   ·have := World.alloc_heap_new (W.alloc (.deferred (some []))) (.loop { state := .ready, pending := none, fn, tmps := a.tmps, params := ps, assign, body, defers := W.heap.size })
    rwa [World.size_alloc] at this
   ·intro b o hb
    simp only
    rw [if_neg (fun e => by subst e; rw [hGnew _ (Nat.le_refl _)] at hb; cases hb)]
    exact hb
   ·simp only
    rw [if_neg (by omega)]
    exact hGnew _ (by omega)
   ·refine ⟨⟨W.heap.size, rfl, by simp, h.h.size, ?_⟩, ?_⟩
    ·intro d' hd' he
     have : ∀ {ds : List Deferred}, Marks B.n₀ st.G.m ds → ∀ d' ∈ ds, d'.target = .collected W.heap.size → False := by
      intro ds
      induction ds with
      | nil => intro _ d' hd'; cases hd'
      | cons d ds ih =>
       rintro ⟨⟨D, h1, h2, _, _⟩, h5⟩ d' hd' he
       rcases List.mem_cons.1 hd' with rfl | hd'
       ·rw [h1] at he
        cases he
        rw [hGnew _ (Nat.le_refl _)] at h2; cases h2
       ·exact ih h5 d' hd' he
     exact this h.marks d' hd' he
    ·refine h.marks.mono ?_
     intro b o hb
     simp only
     rw [if_neg (fun e => by subst e; rw [hGnew _ (Nat.le_refl _)] at hb; cases hb)]
     exact hb
   ·intro b o hb
    simp only at hb
    split at hb
    ·rename_i hbe
     cases hb
     subst hbe
     refine ⟨rfl, ?_, hMnew _ (Nat.le_refl _)⟩
     exact (Below.heap_alloc _ _ _ (by simp)).trans (World.alloc_heap_new W _)
    ·obtain ⟨p1, p2, p3⟩ := h.h.pin b o hb
     exact ⟨p1, (hb2.block b (Array.getElem?_eq_some_iff.1 p2).1).trans p2, p3⟩
  | some l₀ =>
   obtain ⟨rec, hrec⟩ := hr l₀ rfl
   have hl₀ := (h.h.pin l₀ _ hrec).2.1
   have hb1 : Below W.heap.size W (W.alloc (.loop { state := .ready, pending := none, fn, tmps := a.tmps, params := ps, assign, body, defers := rec.defers })) := (Below.refl _ W).alloc (Nat.le_refl _) _
   refine ⟨W.heap.size, [], _, rec.defers, st.G.m, run_enterLoop_inner hl₀ _ _ _ _ _, World.alloc_heap_new W _, Nat.le_refl _, hb1, Mem.le_refl _, hGnew _ (Nat.le_refl _), h.marks, ?_⟩
   intro b o hb
   obtain ⟨p1, p2, p3⟩ := h.h.pin b o hb
   exact ⟨p1, (hb1.block b (Array.getElem?_eq_some_iff.1 p2).1).trans p2, p3⟩
 obtain ⟨rec, hrecdef⟩ : ∃ rec : LoopState → Option Code → Loop, rec = fun s p => { state := s, pending := p, fn, tmps := a.tmps, params := ps, assign, body, defers := df } := ⟨_, rfl⟩
 have hL : W1.heap[l]? = some (.loop (rec .ready none)) := by rw [hrecdef]; exact hL
 have hn₀l : B.n₀ ≤ l := Nat.le_trans h.h.size hlW
 have hMl : st.M l = none := by
  cases hm : st.M l with
  | none => rfl
  | some o => have := (Array.getElem?_eq_some_iff.1 (h.h.mem l o hm)).1; omega
 have hfl : st.G.f l = none := by
  cases hm : st.G.f l with
  | none => rfl
  | some o => have := (Array.getElem?_eq_some_iff.1 (h.h.fpin l o hm).1).1; omega
 have hM1 : st.M.ok W1 := fun b o hb => by
  have := h.h.mem b o hb
  rw [hbW.block b (Array.getElem?_eq_some_iff.1 this).1]; exact this
 -- the state at the loop's beginning
 have hS1 : Sat B.n₀ B.w B.M₀ ρ { st with G := ⟨m1, none, st.G.f⟩ } a W1 := by
  have h1 := h.grow hbW (M' := st.M) hM1 (fun _ _ => rfl)
  refine ⟨h1.h.pins ⟨m1, none, st.G.f⟩ hpin1 h1.h.fpin, h1.nt, h1.sl, h.marks.mono hm1⟩
 obtain ⟨ρ0, hS2⟩ := hw.imp ⟨m1, none, st.G.f⟩ _ _ _ ρ a W1 hS1
 -- what the loop keeps
 let J : Nat → (Nat → Prop) → World → Prop := fun k X W' => ∃ s ρ m, pf k s ∧ m = m1 ∧ m l = none ∧ W'.heap[l]? = some (.loop (rec .ready none)) ∧ Sat B.n₀ B.w B.M₀ ρ { inv k s with G := ⟨m, none, st.G.f⟩ } { tmps := a.tmps, defers := [] } W' ∧
  (inv k s).M l = none ∧ X = fun b => b = l ∨ ∃ i e, (inv k s).own i = some e ∧ ob (ρ i) = some b
 let Jx : World → Prop := fun W' => ∃ (ex : Ex) (c : Code) (st3 : St) (ρ : Env) (m : Mem), codeOf ex = some c ∧ (∀ m, Q ex { st3 with G := ⟨m, st.G.Y, st.G.f⟩ }) ∧ m1.le m ∧ m l = none ∧ W'.heap[l]? = some (.loop (rec .done (some c))) ∧
  Sat B.n₀ B.w B.M₀ ρ { st3 with G := ⟨m, none, st.G.f⟩ } { tmps := a.tmps, defers := [] } W' ∧ st3.M l = none
 have satBelow : ∀ {st' : St} {ρ : Env} {a' : Act} {W W' : World}, Sat B.n₀ B.w B.M₀ ρ st' a' W → Below W.heap.size W W' → Sat B.n₀ B.w B.M₀ ρ st' a' W' := fun {st' ρ a' W W'} hs hb => by
  refine hs.grow hb (M' := st'.M) ?_ (fun _ _ => rfl)
  intro b o hb'
  have := hs.h.mem b o hb'
  rw [hb.block b (Array.getElem?_eq_some_iff.1 this).1]; exact this
 have hJ : ∀ k X W W', J k X W → Below W.heap.size W W' → J k X W' := by
  rintro k X W W' ⟨s, ρ, m, j1, j2, j3, j4, j5, j6, j7⟩ hb
  exact ⟨s, ρ, m, j1, j2, j3, (hb.block l (Array.getElem?_eq_some_iff.1 j4).1).trans j4, satBelow j5 hb, j6, j7⟩
 have hJx : ∀ W W', Jx W → Below W.heap.size W W' → Jx W' := by
  rintro W W' ⟨ex, c, st3, ρ, m, j1, j2, j3, j4, j5, j6, j7⟩ hb
  exact ⟨ex, c, st3, ρ, m, j1, j2, j3, j4, (hb.block l (Array.getElem?_eq_some_iff.1 j5).1).trans j5, satBelow j6 hb, j7⟩
 have hXlt : ∀ k X W, J k X W → ∀ b, X b → b < W.heap.size := by
  rintro k X W ⟨s, ρ, m, j1, j2, j3, j4, j5, j6, rfl⟩ b (rfl | ⟨i, e, hi, hb⟩)
  ·exact (Array.getElem?_eq_some_iff.1 j4).1
  ·exact ((j5.h.own i e hi).2.2.lt b hb).2.1
 have hJD : ∀ k X W, J k X W → ∃ x, ∀ b ∈ D, ∀ o, N x b = some o → W.heap[b]? = some o := by
  rintro k X W ⟨s, ρ, m, j1, j2, j3, j4, j5, j6, rfl⟩
  exact hD k s j1 _ _ _ _ _ _ j5.h
 have hm1sz : ∀ b o, m1 b = some o → b < W1.heap.size := fun b o hb => (Array.getElem?_eq_some_iff.1 (hpin1 b o hb).2.1).1
 have hn₀1 : B.n₀ ≤ W1.heap.size := Nat.le_trans h.h.size hbW.size
 have hl1 : l < W1.heap.size := (Array.getElem?_eq_some_iff.1 hL).1
 obtain ⟨X0, hX0⟩ : ∃ X0 : Nat → Prop, X0 = fun b => b = l ∨ ∃ i e, (inv 0 s0).own i = some e ∧ ob (ρ0 i) = some b := ⟨_, rfl⟩
 have hX0M : ∀ b, X0 b → st.M b = none := by
  rw [hX0]
  rintro b (rfl | ⟨i, e, hi, hob⟩)
  ·exact hMl
  ·have := hS2.h.msep i e b hi hob
   rw [show st.M = (inv 0 s0).M from hw.m]; exact this
 have hJ0 : J 0 X0 W1 :=
  ⟨s0, ρ0, m1, h0, rfl, hm1l, hL, ⟨hS2.h, hS2.nt, hS2.sl, trivial⟩, by rw [← hw.m]; exact hMl, hX0⟩
 obtain ⟨sz0, hsz0⟩ : ∃ sz0, sz0 = W1.heap.size := ⟨_, rfl⟩
 rw [← hsz0] at hm1sz hn₀1 hl1
 have hround : ∀ k X W1 tag args Mq, J k X W1 → xs[k]? = some tag → Mq.ok W1 → (∀ b, X b → Mq b = none) → (∀ b, b < sz0 → ∀ o, Mq b = some o → st.M b = some o) → QQ tag args Mq → ∀ n, YieldAt (Fw none) n P l args.toArray W1 fun e W' =>
   Off X W1 W' ∧ ((e = .returned (.bool true) ∧ ∃ X', (∀ b, X' b → X b ∨ W1.heap.size ≤ b) ∧ J (k + 1) X' W') ∨ (e = .returned (.bool false) ∧ Jx W')) := by
  rintro k X W1 tag args Mq ⟨s, ρ, m, hpf, rfl, hml, hl, hSo, hMk, rfl⟩ hxs hMqok hMqX hMqlow hMqQ n
  have hm1m : Mem.le m m := Mem.le_refl _
  obtain ⟨Mn, hMn⟩ : ∃ Mn : Mem, Mn = fun b => match (inv k s).M b with | some o => some o | none => if sz0 ≤ b then Mq b else none := ⟨_, rfl⟩
  have hMnle : (inv k s).M.le Mn := fun b o hb => by rw [hMn]; simp only [hb]
  have hMqn : Mq.le Mn := fun b o hb => by
   rw [hMn]
   simp only
   cases hc : (inv k s).M b with
   | some o' =>
    simp only
    have h1 := hSo.h.mem b o' hc
    have h2 := hMqok b o hb
    rw [h1] at h2; exact h2
   | none =>
    simp only
    by_cases hb0 : sz0 ≤ b
    ·rw [if_pos hb0]; exact hb
    ·have := hle k s hpf b o (hMqlow b (by omega) o hb)
     rw [hc] at this; cases this
  have hMnnone : ∀ b, (inv k s).M b = none → (b < sz0 ∨ Mq b = none) → Mn b = none := fun b hb hc => by
   rw [hMn]; simp only [hb]
   by_cases hb0 : sz0 ≤ b
   ·rw [if_pos hb0]
    rcases hc with hc | hc
    ·omega
    ·exact hc
   ·rw [if_neg hb0]
  have hQn := hmono _ _ _ _ hMqn hMqQ
  have hMkn : Mn l = none := hMnnone l hMk (.inl hl1)
  have hS : Sat B.n₀ B.w B.M₀ ρ { inv k s with M := Mn, G := ⟨m, none, st.G.f⟩ } { tmps := a.tmps, defers := [] } W1 := by
   refine ⟨⟨hSo.h.below, hSo.h.size, ?_, hSo.h.own, hSo.h.sep, ?_, ?_, ?_, hSo.h.fpin⟩, hSo.nt, hSo.sl, trivial⟩
   ·intro b o hb
    have hb' : Mn b = some o := hb
    rw [hMn] at hb'
    simp only at hb'
    cases hc : (inv k s).M b with
    | some o' => rw [hc] at hb'; cases hb'; exact hSo.h.mem b _ hc
    | none =>
     rw [hc] at hb'
     simp only at hb'
     split at hb'
     ·exact hMqok b o hb'
     ·cases hb'
   ·intro i e b hi hb
    exact hMnnone b (hSo.h.msep i e b hi hb) (.inr (hMqX b (.inr ⟨i, e, hi, hb⟩)))
   ·intro b o hb
    obtain ⟨p1, p2, p3⟩ := hSo.h.pin b o hb
    exact ⟨p1, p2, hMnnone b p3 (.inl (hm1sz b o hb))⟩
   ·intro b hb
    have e1 : (inv k s).M b = B.M₀ b := hSo.h.mlow b hb
    show Mn b = _
    rw [hMn]
    simp only [e1]
    cases hc : B.M₀ b with
    | some o => rfl
    | none => simp only; rw [if_neg (by omega)]
  have hXl : ∀ b, (¬ (b = l ∨ ∃ i e, (inv k s).own i = some e ∧ ob (ρ i) = some b)) → b ≠ l := fun b hb e => hb (.inl e)
  have hax : args.length = ps.size := hlen tag (List.mem_of_getElem? hxs) args _ hMqQ
  have hy := run_yield (P := P) (args := args.toArray) hl (by rw [hrecdef]; simpa using hax)
  have hfold : ((rec .ready none).params.zip args.toArray).foldl (fun (tmps : Array Value) (x : Tmp × Value) => match x with | (t, a) => tmps.setIfInBounds t a) (rec .ready none).tmps
    = (ps.toList.zip args).foldl (fun t p => t.setIfInBounds p.1 p.2) a.tmps := by
   rw [hrecdef, ← Array.foldl_toList]
   simp
  refine ⟨fn, (ps.toList.zip args).foldl (fun t p => t.setIfInBounds p.1 p.2) a.tmps, assign, body, by rw [hy, hfold, hrecdef], roundIn_of_wpIn trivial ?_⟩
  obtain ⟨f2, hf2⟩ : ∃ f2 : Mem, f2 = fun b => if b < W1.heap.size ∧ ¬ (b = l ∨ ∃ i e, (inv k s).own i = some e ∧ ob (ρ i) = some b) then W1.heap[b]? else none := ⟨_, rfl⟩
  have hf2l : f2 l = none := by rw [hf2]; simp
  have hf2s : ∀ b, b < W1.heap.size → ¬ (b = l ∨ ∃ i e, (inv k s).own i = some e ∧ ob (ρ i) = some b) → f2 b = W1.heap[b]? := fun b h1 h2 => by
   rw [hf2]; simp only; rw [if_pos ⟨h1, h2⟩]
  obtain ⟨m2, hm2⟩ : ∃ m2 : Mem, m2 = fun b => if b = l then some (.loop (rec .ready none)) else m b := ⟨_, rfl⟩
  have hm12 : m.le m2 := fun b o hb => by
   rw [hm2]; simp only
   rw [if_neg (fun e => by subst e; rw [hm1l] at hb; cases hb)]
   exact hm1m b o hb
  have hS3 : Sat B.n₀ W1 B.M₀ ρ { inv k s with M := Mn, G := ⟨m2, none, f2⟩ } { tmps := a.tmps, defers := [] } W1 := by
   refine ⟨(SatH.pins (st := { inv k s with M := Mn, G := ⟨m, none, st.G.f⟩ }) (hS.h.rebase (Below.refl _ _)) ⟨m2, none, f2⟩ ?_ ?_), hS.nt, hS.sl, trivial⟩
   ·intro b o hb
    rw [hm2] at hb
    simp only at hb
    split at hb
    ·rename_i e; subst e; cases hb; exact ⟨rfl, hl, hMkn⟩
    ·exact hS.h.pin b o hb
   ·intro b o hb
    rw [hf2] at hb
    simp only at hb
    split at hb
    ·rename_i hb2
     exact ⟨hb, fun i e hi hob => hb2.2 (.inr ⟨i, e, hi, hob⟩)⟩
    ·cases hb
  have hsl := (hinv k s).1
  have hntk := (hinv k s).2
  obtain ⟨hS4, hkp4⟩ := par_sat (fx := fun d => look sl0 d ≠ none) (tm := a.tmps) ps.toList args hS3 (fun p hp => by rw [show ({ inv k s with M := Mn, G := ⟨m2, none, f2⟩ } : St).nt = (inv k s).nt from rfl, hntk]; exact hps p hp) (fun d hd => rfl)
  have hro := flatSM_iff (withYf_iff round k s tag args hpf hxs Mn hMnle hQn m2 f2)
  have hS4 : Sat B.n₀ W1 B.M₀ ρ { inv k s with sl := parSl ps.toList args sl0, M := Mn, G := ⟨m2, none, f2⟩ } { tmps := (ps.toList.zip args).foldl (fun t p => t.setIfInBounds p.1 p.2) a.tmps, defers := [] } W1 := by rw [← hsl]; exact hS4
  have hSz : Below B.n₀ B.w W1 := hS.h.below
  -- the assignments
  refine wpIn_mono (vc_sound (r := some l) (κ := fun Y B' => Y = none ∧ B' = ⟨B.n₀, W1, B.M₀⟩) hC (yok_none _) (fx := fun d => look sl0 d ≠ none) (tm := a.tmps) (B := ⟨B.n₀, W1, B.M₀⟩) assign hro
   (fun l' hl' => by cases hl'; exact ⟨rec .ready none, by show m2 l = _; rw [hm2]; simp⟩) ⟨rfl, rfl⟩ hS4 hwa hkp4) ?_
  rintro e a1 Wa ⟨⟨ex, he, B', ρ1, st1, ⟨_, rfl⟩, g1, g2, g3⟩, hkp1⟩
  have hen := exOf_inv he
  cases ex with
  | ret => exact g3.elim
  | exit i => exact g3.elim
  | normal =>
  subst hen
  have hml1 : st1.G.m l = some (.loop (rec .ready none)) := g2.1 _ _ (by show m2 l = _; rw [hm2]; simp)
  have hla := (g1.h.pin l _ hml1).2.1
  have hMl1 := (g1.h.pin l _ hml1).2.2
  have hff1 : st1.G.f = f2 := g2.2
  refine ⟨_, run_beginRound hla (by rw [hrecdef]), ?_⟩
  obtain ⟨m3, hm3⟩ : ∃ m3 : Mem, m3 = fun b => if b = l then some (.loop { rec .ready none with state := .busy }) else st1.G.m b := ⟨_, rfl⟩
  have hS5 : Sat B.n₀ W1 B.M₀ ρ1 { st1 with G := ⟨m3, none, f2⟩ } a1 (Wa.putObj l (.loop { rec .ready none with state := .busy })) := by
   have u1 := SatH.unmark g1.h hml1 hn₀l (by rw [hff1]; exact hf2l) (.loop { rec .ready none with state := .busy })
   refine ⟨u1.pins ⟨m3, none, f2⟩ ?_ (by rw [← hff1]; exact u1.fpin), g1.nt, g1.sl, ?_⟩
   ·intro b o hb
    rw [hm3] at hb
    simp only at hb
    split at hb
    ·rename_i e; subst e; cases hb; exact ⟨rfl, World.putObj_heap_same (Array.getElem?_eq_some_iff.1 hla).1, hMl1⟩
    ·rename_i hne
     exact u1.pin b o (by simp only; rw [if_neg hne]; exact hb)
   ·rw [hm3]; exact Marks.but hml1 _ g1.marks
  refine wpIn_mono (vc_sound (r := some l) (κ := fun Y B' => Y = none ∧ B' = ⟨B.n₀, W1, B.M₀⟩) hC (yok_none _) (fx := fun d => look sl0 d ≠ none) (tm := a.tmps) (B := ⟨B.n₀, W1, B.M₀⟩) body (flatY_iff (g3 m3))
   (fun l' hl' => by cases hl'; exact ⟨{ rec .ready none with state := .busy }, by show m3 l = _; rw [hm3]; simp⟩) ⟨rfl, rfl⟩ hS5 hwb hkp1) ?_
  rintro e a2 W3 ⟨⟨ex, he, B', ρ2, st2, ⟨_, rfl⟩, k1, k2, k3⟩, hkp2⟩
  have hen := exOf_inv he
  subst hen
  have hml2 : st2.G.m l = some (.loop { rec .ready none with state := .busy }) := k2.1 _ _ (by show m3 l = _; rw [hm3]; simp)
  have hl3 := (k1.h.pin l _ hml2).2.1
  have hff2 : st2.G.f = f2 := k2.2
  obtain ⟨m4, hm4⟩ : ∃ m4 : Mem, m4 = fun b => if b = l then none else st2.G.m b := ⟨_, rfl⟩
  have hm14 : m.le m4 := fun b o hb => by
   have hbl : b ≠ l := fun e => by subst e; rw [hm1l] at hb; cases hb
   rw [hm4]; simp only
   rw [if_neg hbl]
   refine k2.1 b o ?_
   show m3 b = _
   rw [hm3]; simp only
   rw [if_neg hbl]
   exact g2.1 b o (hm12 b o hb)
  have hm4l : m4 l = none := by rw [hm4]; simp
  -- a state that is left behind, in the loop's own frame
  have leave : ∀ (st3 : St) (o' : Obj), Wk st2 st3 → st3.sl = sl0 → st3.nt = st.nt → ∃ ρ3, Sat B.n₀ B.w B.M₀ ρ3 { st3 with G := ⟨m4, none, st.G.f⟩ } { tmps := a.tmps, defers := [] } (W3.putObj l o') ∧ st3.M l = none ∧
    (∀ i e b, st3.own i = some e → ob (ρ3 i) = some b → f2 b = none) := by
   intro st3 o' hwk hsl3 hnt3
   obtain ⟨ρ3, hs⟩ := hwk.imp st2.G _ _ _ ρ2 a2 W3 k1
   have u1 := SatH.unmark hs.h hml2 hn₀l (by show st2.G.f l = none; rw [hff2]; exact hf2l) o'
   have hMl3 : st3.M l = none := (hs.h.pin l _ hml2).2.2
   have hown : ∀ i e b, st3.own i = some e → ob (ρ3 i) = some b → f2 b = none := fun i e b hi hb => by
    cases hf : f2 b with
    | none => rfl
    | some o => exact absurd hb ((hs.h.fpin b o (by show st2.G.f b = some o; rw [hff2]; exact hf)).2 i e hi)
   refine ⟨ρ3, ⟨?_, by show a.tmps.size = st3.nt; rw [hnt3]; exact h.nt, ?_, trivial⟩, hMl3, hown⟩
   ·refine (SatH.pins u1 ⟨m4, none, st.G.f⟩ ?_ ?_).rebase (hSz.trans (u1.below.mono (Nat.le_refl _)))
    ·intro b o hb
     rw [hm4] at hb
     exact u1.pin b o hb
    ·intro b o hb
     obtain ⟨q1, q2⟩ := hS.h.fpin b o hb
     have hblt := (Array.getElem?_eq_some_iff.1 q1).1
     have hnX : ¬ (b = l ∨ ∃ i e, (inv k s).own i = some e ∧ ob (ρ i) = some b) := by
      rintro (rfl | ⟨i, e, hi, hob⟩)
      ·have hb' : st.G.f b = some o := hb
       rw [hfl] at hb'; cases hb'
      ·exact q2 i e hi hob
     have hfb : f2 b = some o := by rw [hf2s b hblt hnX]; exact q1
     refine u1.fpin b o ?_
     show st2.G.f b = some o
     rw [hff2]; exact hfb
   ·intro d sv hd
    have hd' : look sl0 d = some sv := by rw [← hsl3]; exact hd
    obtain ⟨q1, q2, q3⟩ := hs.sl d sv hd
    refine ⟨q1, q2, ?_⟩
    rw [← hkp2 d (show look sl0 d ≠ none by rw [hd']; simp)]
    exact q3
  have hsz3 : W1.heap.size ≤ W3.heap.size := k1.h.below.size
  have hoff : ∀ o' : Obj, Off (fun b => b = l ∨ ∃ i e, (inv k s).own i = some e ∧ ob (ρ i) = some b) W1 (W3.putObj l o') := by
   intro o'
   refine ⟨fun b hb hnX => ?_, by simpa using hsz3⟩
   rw [World.putObj_heap_other (hXl b hnX)]
   have hsome : ∃ o, W1.heap[b]? = some o := ⟨_, Array.getElem?_eq_getElem hb⟩
   obtain ⟨o, ho⟩ := hsome
   have := (k1.h.fpin b o (by rw [hff2, hf2s b hb hnX]; exact ho)).1
   rw [this, ho]
  have hend := fun (jump : Option Code) => run_endRound (P := P) jump hl3
  have stop : ∀ (ex : Ex) (c : Code), codeOf ex = some c → (∃ st3, Wk st2 st3 ∧ st3.sl = sl0 ∧ st3.nt = st.nt ∧ ∀ m, Q ex { st3 with G := ⟨m, st.G.Y, st.G.f⟩ }) →
    ∃ v w', (Instr.endRound l (some c)).run P W3 = .ok v w' ∧ (Off (fun b => b = l ∨ ∃ i e, (inv k s).own i = some e ∧ ob (ρ i) = some b) W1 w' ∧
     ((Ending.returned v = .returned (.bool true) ∧ ∃ X', (∀ b, X' b → (b = l ∨ ∃ i e, (inv k s).own i = some e ∧ ob (ρ i) = some b) ∨ W1.heap.size ≤ b) ∧ J (k + 1) X' w') ∨ (Ending.returned v = .returned (.bool false) ∧ Jx w'))) := by
   rintro ex c hc ⟨st3, hwk, hsl3, hnt3, hq⟩
   obtain ⟨ρ3, hs3, hMl3, _⟩ := leave st3 (.loop { { rec .ready none with state := .busy } with state := .done, pending := some c }) hwk hsl3 hnt3
   refine ⟨_, _, hend (some c), hoff _, .inr ⟨rfl, ex, c, st3, ρ3, m4, hc, hq, hm14, hm4l, ?_, hs3, hMl3⟩⟩
   rw [World.putObj_heap_same (Array.getElem?_eq_some_iff.1 hl3).1, hrecdef]
   rfl
  cases ex with
  | normal =>
   obtain ⟨s', hpf', hwk⟩ := k3
   obtain ⟨ρ3, hs3, hMl3, hown3⟩ := leave (inv (k + 1) s') (.loop { { rec .ready none with state := .busy } with state := .ready, pending := none }) hwk (hinv _ _).1 (hinv _ _).2
   refine ⟨_, _, hend none, hoff _, .inl ⟨rfl, _, ?_, s', ρ3, m, hpf', rfl, hml, ?_, ⟨hs3.h.pins ⟨m, none, st.G.f⟩ (fun b o hb => hs3.h.pin b o (hm14 b o hb)) hs3.h.fpin, hs3.nt, hs3.sl, trivial⟩, hMl3, rfl⟩⟩
   ·rintro b (rfl | ⟨i, e, hi, hob⟩)
    ·exact .inl (.inl rfl)
    ·by_cases hnX : b = l ∨ ∃ i e, (inv k s).own i = some e ∧ ob (ρ i) = some b
     ·exact .inl hnX
     ·refine .inr ?_
      rcases Nat.lt_or_ge b W1.heap.size with hlt | hge
      ·have := hown3 i e b hi hob
       rw [hf2s b hlt hnX, Array.getElem?_eq_getElem hlt] at this
       cases this
      ·exact hge
   ·rw [World.putObj_heap_same (Array.getElem?_eq_some_iff.1 hl3).1, hrecdef]
    rfl
  | ret => exact stop .ret _ rfl (let ⟨s3, a, b, c, d⟩ := k3; ⟨s3, a, b, c, fun m => flatY_iff (d m)⟩)
  | exit i => exact stop (.exit i) _ rfl (let ⟨s3, a, b, c, d⟩ := k3; ⟨s3, a, b, c, fun m => flatY_iff (d m)⟩)
 -- the iterator is called
 have hcall := hit.run (n - 1) l J Jx X0 W1 hJ hJx hXlt hJD (fun k X W2 tag args Mq h1 h2 h3 h4 h5 => hround k X W2 tag args Mq h1 h2 h3 h4 (by rw [hsz0]; exact h5)) hJ0 hM1 hX0M
 have hcallr : CallsIn (Fw r) (n - 1) P gf (#[.func (.yield l) #[] #[]] ++ lb) W1 fun e W' => (∃ v, e = .returned v) ∧ ((∃ X, J xs.length X W') ∨ Jx W') := by
  cases r with
  | none => exact hcall
  | some l₀ => exact CallsIn.inRound l₀ hcall
 have hgv : a.eval g = .func (.func gf) #[] lb := (h.ev hg).1.trans (hgd _ _ _ _ _ h.h)
 have hres : ∀ e W', ((∃ v, e = Ending.returned v) ∧ ((∃ X, J xs.length X W') ∨ Jx W')) → rangePost (Fw r) n P l (Post κ st.G Q fx tm) { tmps := a.tmps, defers := mark ++ a.defers } e W' := by
  have behind : ∀ (ex : Ex) (st3 : St) (ρ3 : Env) (m : Mem) (W' : World) (rc : Loop), W'.heap[l]? = some (.loop rc) → m1.le m → m l = none → st3.M l = none → Sat B.n₀ B.w B.M₀ ρ3 { st3 with G := ⟨m, none, st.G.f⟩ } { tmps := a.tmps, defers := [] } W' →
    Q ex { st3 with G := ⟨m, st.G.Y, st.G.f⟩ } → ∀ o', Post κ st.G Q fx tm (exitOf ex) { a with defers := mark ++ a.defers } (W'.putObj l o') := by
   intro ex st3 ρ3 m W' rc hl' hle hml hMl' hs hq o'
   have u := SatH.putAt hs.h hl' rfl hMl' hml hfl hn₀l o'
   refine ⟨⟨ex, by cases ex <;> rfl, B, ρ3, { st3 with G := ⟨m, st.G.Y, st.G.f⟩ }, hκ, ⟨⟨u.below, u.size, u.mem, u.own, u.sep, u.msep, u.pin, u.mlow, u.fpin⟩, hs.nt, hs.sl, hmarks.mono hle⟩, ⟨hm1.trans hle, rfl⟩, hq⟩, hkp⟩
  rintro e W' ⟨⟨v, rfl⟩, ⟨X, s, ρ3, m, j1, j2, j3, j4, j5, j6, _⟩ | ⟨ex, c, st3, ρ3, m, j0, j1, j2, j3, j4, j5, j6⟩⟩
  ·refine ⟨none, _, by have := run_endLoop (P := P) j4 (by rw [hrecdef]; simp); rw [hrecdef] at this; exact this, ?_⟩
   exact behind .normal _ ρ3 m W' _ j4 (by rw [j2]; exact Mem.le_refl _) j3 j6 j5 (flatY_iff (withYf_iff done s m j1)) _
  ·refine ⟨some c, _, by have := run_endLoop (P := P) j4 (by rw [hrecdef]; simp); rw [hrecdef] at this; exact this, ?_⟩
   have hb := fun o' => behind ex st3 ρ3 m W' _ j4 j2 j3 j6 j5 (j1 m) o'
   cases ex with
   | normal => cases j0
   | ret => cases j0; exact wpIn_ret (hb _)
   | exit i => cases j0; exact wpIn_exit (hb _)
 have e1 : (resolve a.eval (rangeCall g l) 0).run P W1 = .ok { target := .fn (.func gf) lb, args := #[.func (.yield l) #[] #[]] } W1 := by
  simp only [resolve, hgv]
  simp [go_sem]
 have e2 : (invoke (.fn (.func gf) lb) #[.func (.yield l) #[] #[]]).run P W1 = .ok (.enter gf (#[.func (.yield l) #[] #[]] ++ lb)) W1 := by
  simp only [invoke]
  exact hit.ent _ _
 exact ⟨l, mark, W1, _, W1, gf, _, W1, henter, e1, fun _ _ => trivial, e2, (fun hd => (by cases hd)), hcallr.mono hres⟩
theorem VCode.rangeGB {C : VX} (hC : VXOK P C) {g : Operand} {ps : Array Tmp} {assign body : Code} {st : St} {Q : Ex → St → Prop} {gf : Nat} {lb : Array Value} {xs : List (List Value)} {α : Type} {D : List Nat} {N : α → Mem} {QQ : List Value → List Value → Mem → Prop} {gs : SV}
  (hg : st.ev g = some gs) (hgd : ∀ n₀ w M₀ ρ W, SatH n₀ w M₀ ρ st W → gs.den ρ = .func (.func gf) #[] lb) (hit : IterG P gf lb st.M D N QQ xs) (hlen : ∀ tag ∈ xs, ∀ x M, QQ tag x M → x.length = ps.size) (hmono : ∀ tag x M M', M.le M' → QQ tag x M → QQ tag x M') (sl0 : List (Nat × SV))
  (hps : psB st.nt sl0 ps.toList = true) (hwa : wrB sl0 assign = true) (hwb : wrB sl0 body = true)
  (S : Type) (inv : Nat → S → St) (pf : Nat → S → Prop) (s0 : S) (h0 : pf 0 s0) (hw : Wk { st with G := ⟨st.G.m, none, st.G.f⟩ } (inv 0 s0))
  (hinv : ∀ k s, (inv k s).sl = sl0 ∧ (inv k s).nt = st.nt) (hle : ∀ k s, pf k s → st.M.le (inv k s).M)
  (hD : ∀ k s, pf k s → ∀ n₀ w M₀ ρ G W, SatH n₀ w M₀ ρ { inv k s with G := G } W → ∃ x, ∀ b ∈ D, ∀ o, N x b = some o → W.heap[b]? = some o)
  (round : st.withYf fun Y fQ => ∀ k s tag args, pf k s → xs[k]? = some tag → ∀ Mn, (inv k s).M.le Mn → QQ tag args Mn → ∀ m f, (inv k s).flatSM (parSl ps.toList args sl0) Mn m f fun st0 => vc C P assign st0 fun e st1 => match e with
   | .normal => ∀ m', st1.flatY m' none f fun st1 => vc C P body st1 fun e st2 => match e with
    | .normal => ∃ s', pf (k + 1) s' ∧ Wk st2 (inv (k + 1) s')
    | e => ∃ st3, Wk st2 st3 ∧ st3.sl = sl0 ∧ st3.nt = st.nt ∧ ∀ m, st3.flatY m Y fQ (Q e)
   | _ => False)
  (done : st.withYf fun Y f => ∀ s m, pf xs.length s → (inv xs.length s).flatY m Y f (Q .normal)) : VCode P (.rangeFunc g ps assign body) st Q :=
 VCode.rangeG hC hg hgd hit hlen hmono sl0 (fun p hp => by
  simp only [psB, List.all_eq_true, Bool.and_eq_true] at hps
  obtain ⟨h1, h2⟩ := hps p hp
  exact ⟨Nat.le_of_ble_eq_true h1, hasB_spec (by simpa using h2)⟩) (wrB_spec _ hwa) (wrB_spec _ hwb) S inv pf s0 h0 hw hinv hle hD round done
def svAts : List SV → Option (List At)
 | [] => some []
 | s :: r => match atom s, svAts r with | some x, some l => some (x :: l) | _, _ => none
def finKM (st st' : St) (val : Nat → Value) (pl : List (Nat × SV)) (s : SV) (K : SV → St → Prop) : Prop :=
 match st, st' with
 | ⟨sl, ow, nx, M, nt, G⟩, ⟨sl', ow', nx', M', nt', G'⟩ => rst ⟨sl, ow, nx, M, nt, G⟩ ⟨sl', ow', nx', M', nt', G'⟩ val pl ow' fun sl2 => K s ⟨sl2, ow', nx', M', nt, G⟩
def finVM (C : VX) (fn : Func) (st : St) (val : Nat → Value) (pl : List (Nat × SV)) (K : SV → St → Prop) (e : Ex) (st' : St) : Prop :=
 match e with
 | .exit _ => VStuck 180
 | _ => match resSV C st' fn.results.toList with
  | some [] => finKM st st' val pl (.v (.tuple #[])) K
  | some [s] => finKM st st' val pl s K
  | some l => match svAts l with
   | some ats => finKM st st' val pl (.tup ats) K
   | none => VStuck 182
  | _ => VStuck 181
theorem finKM_iff {st st' : St} {val : Nat → Value} {pl : List (Nat × SV)} {s : SV} {K : SV → St → Prop} (h : finKM st st' val pl s K) : rst st st' val pl st'.ow fun sl2 => K s ⟨sl2, st'.ow, st'.nx, st'.M, st.nt, st.G⟩ := by
 obtain ⟨sl, ow, nx, M, nt, G⟩ := st
 obtain ⟨sl', ow', nx', M', nt', G'⟩ := st'
 exact h
theorem svAts_den {ρ : Env} : ∀ {l : List SV} {ats : List At}, svAts l = some ats → ats.map (At.den ρ) = l.map (SV.den ρ) ∧ ∀ nx, (∀ s ∈ l, s.sc nx) → ∀ a ∈ ats, a.sc nx
 | [], ats, h => by cases h; exact ⟨rfl, fun _ _ a ha => by cases ha⟩
 | s :: l, ats, h => by
  simp only [svAts] at h
  split at h
  ·rename_i x r hx hr
   cases h
   obtain ⟨h1, h2⟩ := svAts_den (ρ := ρ) hr
   refine ⟨?_, fun nx hs a ha => ?_⟩
   ·simp only [List.map_cons, h1]
    congr 1
    cases s <;> simp [atom] at hx <;> subst hx <;> rfl
   ·rcases List.mem_cons.1 ha with rfl | ha
    ·exact (atom_spec (ρ := ρ) hx (hs s (List.mem_cons_self))).2
    ·exact h2 nx (fun s hs' => hs s (List.mem_cons_of_mem _ hs')) a ha
  ·cases h
open Classical in
theorem VCall.inlineM {C : VX} (hC : VXOK P C) {f : Nat} {fn : Func} {c : Code} (hf : P.funcs[f]? = some fn) (hb : fn.body = some c) (hname : (fn.name == "runtime.NumGoroutine") = false)
  {st : St} {args : List SV} {K : SV → St → Prop} (hnt : Nat.ble args.length fn.ntmps = true) (slots : List (Nat × SV)) (pls : List (Nat × Value)) (hs1 : subSl st slots) (hs2 : subSl st (plSl pls)) (hGm : ∀ b, st.G.m b = none) (hGf : ∀ b, st.G.f b = none)
  (h : ∀ (val : Nat → Value), vc C P c ⟨argSV 0 args, ghs val st.nx slots st.ow, st.nx + slots.length, st.M, fn.ntmps, ⟨fun _ => none, none, fun _ => none⟩⟩ (finVM C fn st val (plSl pls) K)) :
  VCall P f args st K := by
 refine ⟨Go.Proofs.enters_of hf hname hb, fun n₀ w M₀ ρ W hS hsa hss => ?_⟩
 refine (callsIn_wide (n := 100)).1 (callsIn_of_wp_marks hf hb trivial ?_ rfl)
 have hle := Nat.le_of_ble_eq_true hnt
 obtain ⟨val, hval⟩ : ∃ val : Nat → Value, val = fun d => match look st.sl d with | some s => s.den ρ | none => undef := ⟨_, rfl⟩
 obtain ⟨f0, hf0⟩ : ∃ f0 : Mem, f0 = fun _ => none := ⟨_, rfl⟩
 obtain ⟨ρ0, hρ0⟩ : ∃ ρ0 : Env, ρ0 = fun i => if i < st.nx then ρ i else .bool true := ⟨_, rfl⟩
 have hag : Agree st.nx ρ ρ0 := fun i hi => by rw [hρ0]; simp [hi]
 have hf0s : ∀ b o, f0 b = some o → W.heap[b]? = some o ∧ ∀ i e, st.own i = some e → ob (ρ i) ≠ some b := by
  intro b o hb
  rw [hf0] at hb; cases hb
 obtain ⟨T, hT⟩ : ∃ T : St, T = ⟨argSV 0 args, ghs val st.nx slots st.ow, st.nx + slots.length, st.M, fn.ntmps, ⟨fun _ => none, none, fun _ => none⟩⟩ := ⟨_, rfl⟩
 have hvc := h val
 rw [← hT] at hvc
 -- the entries of the start: the caller's, and the ghosts
 have hown0 : ∀ i e, T.own i = some e → (i < st.nx ∧ st.own i = some e) ∨ (st.nx ≤ i ∧ i < st.nx + slots.length ∧ ∃ d s, (d, s) ∈ slots ∧ e = .gh d (val d) s) := by
  intro i e hi
  rw [hT] at hi
  unfold St.own at hi
  split at hi
  ·rename_i e' hl
   cases hi
   rcases ghs_look val slots st.nx st.ow i _ hl with ⟨h1, h2, d, s, h3, h4⟩ | hl
   ·cases h4
    exact .inr ⟨h1, h2, d, s, h3, rfl⟩
   ·have : st.own i = some e := by unfold St.own; rw [hl]
    exact .inl ⟨(hS.own i e this).1, this⟩
  ·cases hi
 have hs0 : Sat n₀ w M₀ ρ0 T { tmps := (args.map (SV.den ρ)).toArray ++ Array.replicate (fn.ntmps - (args.map (SV.den ρ)).toArray.size) undef, defers := [] } W := by
  refine ⟨⟨hS.below, hS.size, by rw [hT]; exact hS.mem, ?_, ?_, ?_, ?_, by rw [hT]; exact hS.mlow, ?_⟩, by rw [hT]; simp; omega, ?_, by rw [hT]; trivial⟩
  ·intro i e hi
   have hTnx : T.nx = st.nx + slots.length := by rw [hT]
   rw [hTnx]
   rcases hown0 i e hi with ⟨h1, h2⟩ | ⟨h1, h2, d, s, h3, rfl⟩
   ·obtain ⟨g1, g2, g3⟩ := hS.own i e h2
    exact ⟨by omega, OE.sc_mono (by omega) g2, g3.keep hag g1 g2 fun _ _ => rfl⟩
   ·have hl := subSl_mem hs1 h3
    have hsc := hss d s hl
    refine ⟨h2, SV.sc_mono (by omega) hsc, ?_, ?_⟩
    ·rw [hρ0]; simp [Nat.not_lt.2 h1, ob]
    ·rw [SV.den_agree hag hsc, hval]; simp only [hl]
  ·intro i j ei ej hi hj hij b hbi hbj
   rcases hown0 i ei hi with ⟨h1, h2⟩ | ⟨h1, h2, d, s, h3, rfl⟩
   ·rcases hown0 j ej hj with ⟨k1, k2⟩ | ⟨k1, k2, d, s, k3, rfl⟩
    ·rw [hag i h1] at hbi
     rw [hag j k1] at hbj
     exact hS.sep i j ei ej h2 k2 hij b hbi hbj
    ·rw [hρ0] at hbj; simp [Nat.not_lt.2 k1, ob] at hbj
   ·rw [hρ0] at hbi; simp [Nat.not_lt.2 h1, ob] at hbi
  ·intro i e b hi hbi
   rcases hown0 i e hi with ⟨h1, h2⟩ | ⟨h1, h2, d, s, h3, rfl⟩
   ·rw [hag i h1] at hbi
    rw [hT]
    exact hS.msep i e b h2 hbi
   ·rw [hρ0] at hbi; simp [Nat.not_lt.2 h1, ob] at hbi
  ·intro b o hbo
   rw [hT] at hbo; cases hbo
  ·intro b o hbo
   rw [hT] at hbo; cases hbo
  ·intro d s hd
   rw [hT] at hd
   obtain ⟨h1, h2, h3⟩ := argSV_look args 0 d s hd
   have hmem : s ∈ args := List.mem_of_getElem? h3
   have hsc := hsa s hmem
   refine ⟨by rw [hT]; show d < fn.ntmps; omega, by rw [hT]; exact SV.sc_mono (Nat.le_add_right _ _) hsc, ?_⟩
   simp only [Nat.sub_zero] at h3
   rw [Array.getElem?_append_left (by simp; omega), SV.den_agree hag hsc]
   simp [h3]
 have hY0 : T.G.Y = none := by rw [hT]
 have := vc_sound (r := none) (n := 100) hC (κ := fun Y B => Y = none ∧ B = ⟨n₀, w, M₀⟩) (fun l tag args rest B M W hκ => by cases hκ.1) (fx := fun _ => False) (tm := #[]) (B := ⟨n₀, w, M₀⟩) c hvc (fun l hl => by cases hl) ⟨hY0, rfl⟩ hs0 (wr_false c) (fun d hd => hd.elim)
 refine wpIn_mono this ?_
 rintro e a' W' ⟨⟨ex, he, B, ρ', st', ⟨_, rfl⟩, h1, h2, h3⟩, _⟩
 have hf' : st'.G.f = f0 := by rw [h2.2, hT, hf0]
 have main : (e = .normal ∨ e = .ret) → LeavesInM (Fw none) 100 P fn a'.tmps (fun e W' => ∃ s st' ρ', e = .returned (s.den ρ') ∧ s.sc st'.nx ∧
   SatH n₀ w M₀ ρ' st' W' ∧ (∀ d s', look st'.sl d = some s' → s'.sc st'.nx ∧ ∃ s0, look st.sl d = some s0 ∧ s'.den ρ' = s0.den ρ) ∧ st'.nt = st.nt ∧ st'.G = st.G ∧ K s st') a'.defers .returning W' := by
  intro hcase
  have hsl : ∀ d s, look st'.sl d = some s → s.sc st'.nx ∧ a'.tmps[d]? = some (s.den ρ') := fun d s hd => ⟨(h1.sl d s hd).2.1, (h1.sl d s hd).2.2⟩
  have hend : ∀ (rs : List SV) (s : SV), resSV C st' fn.results.toList = some rs → ret (rs.map (SV.den ρ')) = s.den ρ' → (s.sc st'.nx) → finKM st st' val (plSl pls) s K → LeavesInM (Fw none) 100 P fn a'.tmps (fun e W' => ∃ s st' ρ', e = .returned (s.den ρ') ∧ s.sc st'.nx ∧
    SatH n₀ w M₀ ρ' st' W' ∧ (∀ d s', look st'.sl d = some s' → s'.sc st'.nx ∧ ∃ s0, look st.sl d = some s0 ∧ s'.den ρ' = s0.den ρ) ∧ st'.nt = st.nt ∧ st'.G = st.G ∧ K s st') a'.defers .returning W' := by
   intro rs s hrs hret hsc hfin
   obtain ⟨sl2, hK, hsl2⟩ := rst_spec (finKM_iff hfin)
   refine leaves_of a'.defers h1.h h1.h rfl (fun b => by rw [hf', hf0]) h1.marks ?_
   intro G W'' s1 _
   refine ⟨s.den ρ', ?_, s, ⟨sl2, st'.ow, st'.nx, st'.M, st.nt, st.G⟩, ρ', rfl, hsc, ?_, ?_, rfl, rfl, hK⟩
   ·have hr := (results_run (tmps := a'.tmps) (st := { st' with G := G }) hC s1 hsl fn.results.toList (r := rs) (by rw [resSV_G]; exact hrs)).1
    have := results_ret fn a'.tmps P _ W'' hr
    rw [hret] at this
    exact this
   ·refine ⟨s1.below, s1.size, s1.mem, s1.own, s1.sep, s1.msep, ?_, s1.mlow, ?_⟩
    ·intro b o hbo
     have hbo' : st.G.m b = some o := hbo
     rw [hGm] at hbo'; cases hbo'
    ·intro b o hbo
     have hbo' : st.G.f b = some o := hbo
     rw [hGf] at hbo'; cases hbo'
   ·intro d s' hd
    rcases hsl2 d s' (look_mem hd) with hp | ⟨⟨s0, hs0'⟩, i, hi⟩
    ·have hl := subSl_mem hs2 hp
     obtain ⟨x, rfl⟩ := plSl_mem hp
     exact ⟨trivial, _, hl, rfl⟩
    ·obtain ⟨_, g2, g3⟩ := h1.h.own i _ hi
     refine ⟨g2, s0, hs0', ?_⟩
     rw [g3.2, hval]; simp only [hs0']
  have h3' : (match resSV C st' fn.results.toList with
   | some [] => finKM st st' val (plSl pls) (.v (.tuple #[])) K
   | some [s] => finKM st st' val (plSl pls) s K
   | some l => match svAts l with
    | some ats => finKM st st' val (plSl pls) (.tup ats) K
    | none => VStuck 182
   | _ => VStuck 181) := by
   rcases hcase with rfl | rfl <;> cases he <;> exact h3
  split at h3'
  ·rename_i hrs
   exact hend [] (.v (.tuple #[])) hrs rfl trivial h3'
  ·rename_i s hrs
   exact hend [s] s hrs rfl ((results_run (tmps := a'.tmps) hC h1.h hsl fn.results.toList hrs).2 s (by simp)) h3'
  ·rename_i l hl0 hl1 hrs
   split at h3'
   ·rename_i ats has
    have hd := svAts_den (ρ := ρ') has
    refine hend l (.tup ats) hrs ?_ (hd.2 _ (results_run (tmps := a'.tmps) hC h1.h hsl fn.results.toList hrs).2) h3'
    simp only [SV.den, hd.1]
    unfold ret
    match l, hl0, hl1 with
    | [], h, _ => exact absurd rfl h
    | [s], _, h => exact absurd rfl (h s)
    | _ :: _ :: _, _, _ => rfl
   ·cases h3'
  ·cases h3'
 cases e with
 | normal => exact main (.inl rfl)
 | ret => exact main (.inr rfl)
 | exit i => cases he; cases h3
 | goto => cases he
 | panic => cases he
 | outgrown => cases he
open Classical in
theorem VCall.inlineC {C : VX} (hC : VXOK P C) {f : Nat} {fn : Func} {c : Code} (hf : P.funcs[f]? = some fn) (hb : fn.body = some c) (hname : (fn.name == "runtime.NumGoroutine") = false)
  {st : St} {args : List SV} {K : SV → St → Prop} (hnt : Nat.ble args.length fn.ntmps = true) (slots : List (Nat × SV)) (pls : List (Nat × Value)) (hs1 : subSl st slots) (hs2 : subSl st (plSl pls)) (hGm : ∀ b, st.G.m b = none) (hGf : ∀ b, st.G.f b = none)
  (h : ∀ (val : Nat → Value), VCode P c ⟨argSV 0 args, ghs val st.nx slots st.ow, st.nx + slots.length, st.M, fn.ntmps, ⟨fun _ => none, none, fun _ => none⟩⟩ (finVM C fn st val (plSl pls) K)) :
  VCall P f args st K := by
 refine ⟨Go.Proofs.enters_of hf hname hb, fun n₀ w M₀ ρ W hS hsa hss => ?_⟩
 refine (callsIn_wide (n := 100)).1 (callsIn_of_wp_marks hf hb trivial ?_ rfl)
 have hle := Nat.le_of_ble_eq_true hnt
 obtain ⟨val, hval⟩ : ∃ val : Nat → Value, val = fun d => match look st.sl d with | some s => s.den ρ | none => undef := ⟨_, rfl⟩
 obtain ⟨f0, hf0⟩ : ∃ f0 : Mem, f0 = fun _ => none := ⟨_, rfl⟩
 obtain ⟨ρ0, hρ0⟩ : ∃ ρ0 : Env, ρ0 = fun i => if i < st.nx then ρ i else .bool true := ⟨_, rfl⟩
 have hag : Agree st.nx ρ ρ0 := fun i hi => by rw [hρ0]; simp [hi]
 have hf0s : ∀ b o, f0 b = some o → W.heap[b]? = some o ∧ ∀ i e, st.own i = some e → ob (ρ i) ≠ some b := by
  intro b o hb
  rw [hf0] at hb; cases hb
 obtain ⟨T, hT⟩ : ∃ T : St, T = ⟨argSV 0 args, ghs val st.nx slots st.ow, st.nx + slots.length, st.M, fn.ntmps, ⟨fun _ => none, none, fun _ => none⟩⟩ := ⟨_, rfl⟩
 have hvc := h val
 rw [← hT] at hvc
 -- the entries of the start: the caller's, and the ghosts
 have hown0 : ∀ i e, T.own i = some e → (i < st.nx ∧ st.own i = some e) ∨ (st.nx ≤ i ∧ i < st.nx + slots.length ∧ ∃ d s, (d, s) ∈ slots ∧ e = .gh d (val d) s) := by
  intro i e hi
  rw [hT] at hi
  unfold St.own at hi
  split at hi
  ·rename_i e' hl
   cases hi
   rcases ghs_look val slots st.nx st.ow i _ hl with ⟨h1, h2, d, s, h3, h4⟩ | hl
   ·cases h4
    exact .inr ⟨h1, h2, d, s, h3, rfl⟩
   ·have : st.own i = some e := by unfold St.own; rw [hl]
    exact .inl ⟨(hS.own i e this).1, this⟩
  ·cases hi
 have hs0 : Sat n₀ w M₀ ρ0 T { tmps := (args.map (SV.den ρ)).toArray ++ Array.replicate (fn.ntmps - (args.map (SV.den ρ)).toArray.size) undef, defers := [] } W := by
  refine ⟨⟨hS.below, hS.size, by rw [hT]; exact hS.mem, ?_, ?_, ?_, ?_, by rw [hT]; exact hS.mlow, ?_⟩, by rw [hT]; simp; omega, ?_, by rw [hT]; trivial⟩
  ·intro i e hi
   have hTnx : T.nx = st.nx + slots.length := by rw [hT]
   rw [hTnx]
   rcases hown0 i e hi with ⟨h1, h2⟩ | ⟨h1, h2, d, s, h3, rfl⟩
   ·obtain ⟨g1, g2, g3⟩ := hS.own i e h2
    exact ⟨by omega, OE.sc_mono (by omega) g2, g3.keep hag g1 g2 fun _ _ => rfl⟩
   ·have hl := subSl_mem hs1 h3
    have hsc := hss d s hl
    refine ⟨h2, SV.sc_mono (by omega) hsc, ?_, ?_⟩
    ·rw [hρ0]; simp [Nat.not_lt.2 h1, ob]
    ·rw [SV.den_agree hag hsc, hval]; simp only [hl]
  ·intro i j ei ej hi hj hij b hbi hbj
   rcases hown0 i ei hi with ⟨h1, h2⟩ | ⟨h1, h2, d, s, h3, rfl⟩
   ·rcases hown0 j ej hj with ⟨k1, k2⟩ | ⟨k1, k2, d, s, k3, rfl⟩
    ·rw [hag i h1] at hbi
     rw [hag j k1] at hbj
     exact hS.sep i j ei ej h2 k2 hij b hbi hbj
    ·rw [hρ0] at hbj; simp [Nat.not_lt.2 k1, ob] at hbj
   ·rw [hρ0] at hbi; simp [Nat.not_lt.2 h1, ob] at hbi
  ·intro i e b hi hbi
   rcases hown0 i e hi with ⟨h1, h2⟩ | ⟨h1, h2, d, s, h3, rfl⟩
   ·rw [hag i h1] at hbi
    rw [hT]
    exact hS.msep i e b h2 hbi
   ·rw [hρ0] at hbi; simp [Nat.not_lt.2 h1, ob] at hbi
  ·intro b o hbo
   rw [hT] at hbo; cases hbo
  ·intro b o hbo
   rw [hT] at hbo; cases hbo
  ·intro d s hd
   rw [hT] at hd
   obtain ⟨h1, h2, h3⟩ := argSV_look args 0 d s hd
   have hmem : s ∈ args := List.mem_of_getElem? h3
   have hsc := hsa s hmem
   refine ⟨by rw [hT]; show d < fn.ntmps; omega, by rw [hT]; exact SV.sc_mono (Nat.le_add_right _ _) hsc, ?_⟩
   simp only [Nat.sub_zero] at h3
   rw [Array.getElem?_append_left (by simp; omega), SV.den_agree hag hsc]
   simp [h3]
 have hY0 : T.G.Y = none := by rw [hT]
 have := hvc.run none 100 (fun Y B => Y = none ∧ B = ⟨n₀, w, M₀⟩) ⟨n₀, w, M₀⟩ _ _ W (fun _ => False) #[] (fun l tag args rest B M W hκ => by cases hκ.1) (fun l hl => by cases hl) ⟨hY0, rfl⟩ hs0 (wr_false c) (fun d hd => hd.elim)
 refine wpIn_mono this ?_
 rintro e a' W' ⟨⟨ex, he, B, ρ', st', ⟨_, rfl⟩, h1, h2, h3⟩, _⟩
 have hf' : st'.G.f = f0 := by rw [h2.2, hT, hf0]
 have main : (e = .normal ∨ e = .ret) → LeavesInM (Fw none) 100 P fn a'.tmps (fun e W' => ∃ s st' ρ', e = .returned (s.den ρ') ∧ s.sc st'.nx ∧
   SatH n₀ w M₀ ρ' st' W' ∧ (∀ d s', look st'.sl d = some s' → s'.sc st'.nx ∧ ∃ s0, look st.sl d = some s0 ∧ s'.den ρ' = s0.den ρ) ∧ st'.nt = st.nt ∧ st'.G = st.G ∧ K s st') a'.defers .returning W' := by
  intro hcase
  have hsl : ∀ d s, look st'.sl d = some s → s.sc st'.nx ∧ a'.tmps[d]? = some (s.den ρ') := fun d s hd => ⟨(h1.sl d s hd).2.1, (h1.sl d s hd).2.2⟩
  have hend : ∀ (rs : List SV) (s : SV), resSV C st' fn.results.toList = some rs → ret (rs.map (SV.den ρ')) = s.den ρ' → (s.sc st'.nx) → finKM st st' val (plSl pls) s K → LeavesInM (Fw none) 100 P fn a'.tmps (fun e W' => ∃ s st' ρ', e = .returned (s.den ρ') ∧ s.sc st'.nx ∧
    SatH n₀ w M₀ ρ' st' W' ∧ (∀ d s', look st'.sl d = some s' → s'.sc st'.nx ∧ ∃ s0, look st.sl d = some s0 ∧ s'.den ρ' = s0.den ρ) ∧ st'.nt = st.nt ∧ st'.G = st.G ∧ K s st') a'.defers .returning W' := by
   intro rs s hrs hret hsc hfin
   obtain ⟨sl2, hK, hsl2⟩ := rst_spec (finKM_iff hfin)
   refine leaves_of a'.defers h1.h h1.h rfl (fun b => by rw [hf', hf0]) h1.marks ?_
   intro G W'' s1 _
   refine ⟨s.den ρ', ?_, s, ⟨sl2, st'.ow, st'.nx, st'.M, st.nt, st.G⟩, ρ', rfl, hsc, ?_, ?_, rfl, rfl, hK⟩
   ·have hr := (results_run (tmps := a'.tmps) (st := { st' with G := G }) hC s1 hsl fn.results.toList (r := rs) (by rw [resSV_G]; exact hrs)).1
    have := results_ret fn a'.tmps P _ W'' hr
    rw [hret] at this
    exact this
   ·refine ⟨s1.below, s1.size, s1.mem, s1.own, s1.sep, s1.msep, ?_, s1.mlow, ?_⟩
    ·intro b o hbo
     have hbo' : st.G.m b = some o := hbo
     rw [hGm] at hbo'; cases hbo'
    ·intro b o hbo
     have hbo' : st.G.f b = some o := hbo
     rw [hGf] at hbo'; cases hbo'
   ·intro d s' hd
    rcases hsl2 d s' (look_mem hd) with hp | ⟨⟨s0, hs0'⟩, i, hi⟩
    ·have hl := subSl_mem hs2 hp
     obtain ⟨x, rfl⟩ := plSl_mem hp
     exact ⟨trivial, _, hl, rfl⟩
    ·obtain ⟨_, g2, g3⟩ := h1.h.own i _ hi
     refine ⟨g2, s0, hs0', ?_⟩
     rw [g3.2, hval]; simp only [hs0']
  have h3' : (match resSV C st' fn.results.toList with
   | some [] => finKM st st' val (plSl pls) (.v (.tuple #[])) K
   | some [s] => finKM st st' val (plSl pls) s K
   | some l => match svAts l with
    | some ats => finKM st st' val (plSl pls) (.tup ats) K
    | none => VStuck 182
   | _ => VStuck 181) := by
   rcases hcase with rfl | rfl <;> cases he <;> exact h3
  split at h3'
  ·rename_i hrs
   exact hend [] (.v (.tuple #[])) hrs rfl trivial h3'
  ·rename_i s hrs
   exact hend [s] s hrs rfl ((results_run (tmps := a'.tmps) hC h1.h hsl fn.results.toList hrs).2 s (by simp)) h3'
  ·rename_i l hl0 hl1 hrs
   split at h3'
   ·rename_i ats has
    have hd := svAts_den (ρ := ρ') has
    refine hend l (.tup ats) hrs ?_ (hd.2 _ (results_run (tmps := a'.tmps) hC h1.h hsl fn.results.toList hrs).2) h3'
    simp only [SV.den, hd.1]
    unfold ret
    match l, hl0, hl1 with
    | [], h, _ => exact absurd rfl h
    | [s], _, h => exact absurd rfl (h s)
    | _ :: _ :: _, _, _ => rfl
   ·cases h3'
  ·cases h3'
 cases e with
 | normal => exact main (.inl rfl)
 | ret => exact main (.inr rfl)
 | exit i => cases he; cases h3
 | goto => cases he
 | panic => cases he
 | outgrown => cases he
theorem VCode.loopC0 {c : Code} {st : St} {Q : Ex → St → Prop} (S : Type) (inv : S → St) (pf : S → Prop) (μ : S → Nat) (s0 : S) (h0 : pf s0) (hw : Wk st (inv s0))
  (round : ∀ s, pf s → ∀ m, VCode P c { inv s with G := ⟨m, (inv s).G.Y, st.G.f⟩ } fun e st' => match e with
   | .normal => ∃ s', pf s' ∧ μ s' < μ s ∧ Wk st' (inv s')
   | .ret => Q .ret st'
   | .exit i => Q (.exit i) st') : VCode P (.loop c) st Q := by
 refine ⟨fun r n κ B ρ a W fx tm hY hr hκ h hwr hkp => ?_⟩
 obtain ⟨ρ0, hs0⟩ := hw.imp st.G _ _ _ ρ a W h
 refine wpIn_loop_ghost (fun s a W => pf s ∧ Keep fx tm a ∧ ∃ B ρ m, κ (inv s).G.Y B ∧ st.G.m.le m ∧ Sat B.n₀ B.w B.M₀ ρ { inv s with G := ⟨m, (inv s).G.Y, st.G.f⟩ } a W) μ s0
  ⟨h0, hkp, B, ρ0, st.G.m, by rw [← hw.y]; exact hκ, Mem.le_refl _, by rw [← hw.y]; exact hs0⟩ ?_
 rintro s a W ⟨hp, hkp, B, ρ, m, hκ, hG, hs⟩
 refine wpIn_mono ((round s hp m).run r n κ B ρ a W fx tm hY (hr.le hG) hκ hs hwr hkp) ?_
 rintro e a' W' ⟨⟨ex, he, B', ρ', st', hκ', h1, h2, h3⟩, hkp'⟩
 cases e with
 | normal =>
  cases he
  obtain ⟨s', p1, p2, p3⟩ := h3
  obtain ⟨ρ1, hs1⟩ := p3.imp st'.G _ _ _ ρ' a' W' h1
  exact ⟨s', ⟨p1, hkp', B', ρ1, st'.G.m, by rw [← p3.y]; exact hκ', hG.trans h2.1, by rw [← p3.y, ← h2.2]; exact hs1⟩, p2⟩
 | ret => cases he; exact ⟨⟨.ret, rfl, B', ρ', st', hκ', h1, ⟨hG.trans h2.1, h2.2⟩, h3⟩, hkp'⟩
 | exit i => cases he; exact ⟨⟨.exit i, rfl, B', ρ', st', hκ', h1, ⟨hG.trans h2.1, h2.2⟩, h3⟩, hkp'⟩
 | goto => cases he
 | panic => cases he
 | outgrown => cases he
theorem VCode.loopC {c : Code} {st : St} {Q : Ex → St → Prop} (S : Type) (inv : S → St) (pf : S → Prop) (μ : S → Nat) (s0 : S) (h0 : pf s0) (hw : Wk st (inv s0))
  (round : st.withYf fun _ f => ∀ s, pf s → ∀ m, (inv s).flatG m f fun st0 => VCode P c st0 fun e st' => match e with
   | .normal => ∃ s', pf s' ∧ μ s' < μ s ∧ Wk st' (inv s')
   | .ret => Q .ret st'
   | .exit i => Q (.exit i) st') : VCode P (.loop c) st Q :=
 VCode.loopC0 S inv pf μ s0 h0 hw fun s hs m => flatG_iff (withYf_iff round s hs m)
theorem VCode.seq {x y : Code} {st : St} {Q : Ex → St → Prop} (h : VCode P x st fun e st' => match e with
  | .normal => VCode P y st' Q
  | .ret => Q .ret st'
  | .exit i => Q (.exit i) st') : VCode P (.seq x y) st Q := by
 refine ⟨fun r n κ B ρ a W fx tm hY hr hκ hs hw hkp => wpIn_seq (wpIn_mono (h.run r n κ B ρ a W fx tm hY hr hκ hs hw.1 hkp) ?_)⟩
 rintro e a' W' ⟨⟨ex, he, B', ρ', st', hκ', h1, h2, h3⟩, hkp'⟩
 cases e with
 | normal => cases he; exact wpIn_mono (h3.run r n κ B' ρ' a' W' fx tm hY (hr.le h2.1) hκ' h1 hw.2 hkp') (post_mono h2)
 | ret => cases he; exact ⟨⟨.ret, rfl, B', ρ', st', hκ', h1, h2, h3⟩, hkp'⟩
 | exit i => cases he; exact ⟨⟨.exit i, rfl, B', ρ', st', hκ', h1, h2, h3⟩, hkp'⟩
 | goto => cases he
 | panic => cases he
 | outgrown => cases he
theorem VCode.st {C : VX} (hC : VXOK P C) {x y : Code} {st : St} {Q : Ex → St → Prop} (h : vc C P x st fun e st' => match e with
  | .normal => VCode P y st' Q
  | .ret => Q .ret st'
  | .exit i => Q (.exit i) st') : VCode P (.seq x y) st Q := VCode.seq (VCode.of_vc hC h)
theorem VCode.block {id : Nat} {c : Code} {st : St} {Q : Ex → St → Prop} (h : VCode P c st fun e st' => match e with
  | .exit j => match Nat.beq j id with
   | true => Q .normal st'
   | false => Q (.exit j) st'
  | .normal => Q .normal st'
  | .ret => Q .ret st') : VCode P (.block id c) st Q := by
 refine ⟨fun r n κ B ρ a W fx tm hY hr hκ hs hw hkp => wpIn_block (wpIn_mono (h.run r n κ B ρ a W fx tm hY hr hκ hs hw hkp) ?_)⟩
 rintro e a' W' ⟨⟨ex, he, B', ρ', st', hκ', h1, h2, h3⟩, hkp'⟩
 cases e with
 | normal => cases he; exact ⟨⟨.normal, rfl, B', ρ', st', hκ', h1, h2, h3⟩, hkp'⟩
 | ret => cases he; exact ⟨⟨.ret, rfl, B', ρ', st', hκ', h1, h2, h3⟩, hkp'⟩
 | exit i =>
  cases he
  by_cases hi : i = id
  ·subst hi
   have : Nat.beq i i = true := Nat.beq_refl i
   simp only [this] at h3
   simp only [Exit.inBlock, if_true]
   exact ⟨⟨.normal, rfl, B', ρ', st', hκ', h1, h2, h3⟩, hkp'⟩
  ·have : Nat.beq i id = false := by
    cases hb : Nat.beq i id with
    | false => rfl
    | true => exact absurd (Nat.eq_of_beq_eq_true hb) hi
   simp only [this] at h3
   simp only [Exit.inBlock, hi, if_false]
   exact ⟨⟨.exit i, rfl, B', ρ', st', hκ', h1, h2, h3⟩, hkp'⟩
 | goto => cases he
 | panic => cases he
 | outgrown => cases he
theorem VCode.cond {t : Tmp} {x y : Code} {st : St} {Q : Ex → St → Prop} {z : Bool} (hl : look st.sl t = some (.v (.bool z))) (h1 : z = true → VCode P x st Q) (h2 : z = false → VCode P y st Q) : VCode P (.cond (.tmp t) x y) st Q := by
 refine ⟨fun r n κ B ρ a W fx tm hY hr hκ hs hw hkp => ?_⟩
 have he : a.eval (.tmp t) = .bool z := (hs.ev (x := .tmp t) hl).1
 cases z with
 | true => exact wpIn_cond_true he ((h1 rfl).run r n κ B ρ a W fx tm hY hr hκ hs hw.1 hkp)
 | false => exact wpIn_cond_false he ((h2 rfl).run r n κ B ρ a W fx tm hY hr hκ hs hw.2 hkp)
theorem SatH.named {n₀ : Nat} {w : World} {M₀ : Mem} {ρ : Env} {st : St} {W : World} (h : SatH n₀ w M₀ ρ st W) {id g tag B : Nat} {t : TypeId} {cs : List SV} (hid : st.own id = some (.box t cs)) (hg : st.own g = some (.gh tag (.pointer (some ⟨B, 0, none⟩)) (.box id 0))) :
  ρ id = .pointer (some ⟨B, 0, none⟩) ∧ W.heap[B]? = some (.cells (cs.map (SV.den ρ)).toArray t (0, 0)) := by
 obtain ⟨_, _, B', h1, h2, h3⟩ := h.own id _ hid
 obtain ⟨_, _, _, h4⟩ := h.own g _ hg
 simp only [SV.den, h1, blkOf] at h4
 cases h4
 exact ⟨h1, h3⟩
theorem VCode.name {c : Code} {st : St} {Q : Ex → St → Prop} (id tag : Nat) {t : TypeId} {cs : List SV} (hid : st.own id = some (.box t cs))
  (h : ∀ B, st.dK fun sl ow nx M nt G => M B = none → VCode P c ⟨sl, (nx, some (.gh tag (.pointer (some ⟨B, 0, none⟩)) (.box id 0))) :: ow, nx + 1, M, nt, G⟩ Q) : VCode P c st Q := by
 refine ⟨fun r n κ B ρ a W fx tm hY hr hκ hs hwr hkp => ?_⟩
 obtain ⟨hlt, _, B', h1, h2, h3⟩ := hs.h.own id _ hid
 have h4 := hs.h.add (.gh tag (.pointer (some ⟨B', 0, none⟩)) (.box id 0)) (.bool true) (Below.refl _ _) hlt ⟨by rw [upd_same]; rfl, by
  rw [SV.den_agree (agree_upd ρ st.nx _) (s := .box id 0) hlt]
  simp only [SV.den, h1, blkOf]⟩ (fun b hb => by cases hb)
 have h5 := hs.env h4 (agree_upd ρ st.nx _) (Nat.le_succ _) rfl rfl rfl
 have := (dK_iff (h B') (hs.h.msep id _ B' hid (by rw [h1]; rfl))).run r n κ B _ a W fx tm hY hr hκ h5 hwr hkp
 exact this
theorem VCode.apart {c : Code} {st : St} {Q : Ex → St → Prop} (id id' : Nat) {g g' tag tag' B B' : Nat} {t t' : TypeId} {cs cs' : List SV} (hne : id ≠ id') (hid : st.own id = some (.box t cs)) (hid' : st.own id' = some (.box t' cs'))
  (hg : st.own g = some (.gh tag (.pointer (some ⟨B, 0, none⟩)) (.box id 0))) (hg' : st.own g' = some (.gh tag' (.pointer (some ⟨B', 0, none⟩)) (.box id' 0)))
  (h : B ≠ B' → VCode P c st Q) : VCode P c st Q := by
 refine ⟨fun r n κ Bs ρ a W fx tm hY hr hκ hs hwr hkp => ?_⟩
 refine (h ?_).run r n κ Bs ρ a W fx tm hY hr hκ hs hwr hkp
 rintro rfl
 have h1 := (hs.h.named hid hg).1
 have h2 := (hs.h.named hid' hg').1
 exact hs.h.sep id id' _ _ hid hid' hne B (by rw [h1]; rfl) (by rw [h2]; rfl)
end Go.V
namespace Go.Proofs.YtcdlplobniogpaaGreat
open Go Go.V Go.RowKit
theorem Over04_fn (A B C : Int) (x : Pt) (M : Mem) (h : halfB A B C = true) (hx : placeB x = true) : FnP Tryz.prog 211 [.agg #[.int .i64 A, .int .i64 B, .int .i64 C], ptv x] M [.int .i64 (ovr A B C x)] := by
 have hp := place_C hx
 unfold isC at hp
 simp only [halfB, Bool.and_eq_true, decide_eq_true_eq] at h
 have e1 := mul_bd (a := A) (b := x.1) 1000000 500000 (by omega) (by omega) (by omega) (by omega) (by omega) (by omega)
 have e2 := mul_bd (a := B) (b := x.2) 1000000 500000 (by omega) (by omega) (by omega) (by omega) (by omega) (by omega)
 refine Fn.of_vc cxOK Tryz.func211 rfl rfl rfl ?_
 refine VArith.ok (by first | omega | (simp only; omega)) (by first | omega | (simp only; omega)) ?_
 refine VArith.ok (by first | omega | (simp only; omega)) (by first | omega | (simp only; omega)) ?_
 refine VArith.ok (by first | omega | (simp only; omega)) (by first | omega | (simp only; omega)) ?_
 refine VArith.ok (by first | omega | (simp only; omega)) (by first | omega | (simp only; omega)) ?_
 exact VFact.mk ⟨rfl, rfl⟩ trivial
theorem half_neg {A B C A' B' C' : Int} (hA : A' = -A ∨ (A = -9223372036854775808 ∧ A' = A)) (hB : B' = -B ∨ (B = -9223372036854775808 ∧ B' = B)) (hC : C' = -C ∨ (C = -9223372036854775808 ∧ C' = C)) :
  halfB A' B' C' = halfB A B C ∧ (halfB A B C = true → A' = -A ∧ B' = -B ∧ C' = -C) := by
 have e : ∀ {A B C : Int}, halfB A B C = decide ((-1000000 ≤ A ∧ A ≤ 1000000) ∧ (-1000000 ≤ B ∧ B ≤ 1000000) ∧ (-1000000000000 ≤ C ∧ C ≤ 1000000000000) ∧ ¬ (A = 0 ∧ B = 0)) := fun {A B C} => by
  rw [Bool.eq_iff_iff]
  simp only [halfB, Bool.and_eq_true, Bool.not_eq_true', Bool.and_eq_false_iff, decide_eq_true_eq, decide_eq_false_iff_not]
  omega
 rw [e, e]
 refine ⟨decide_eq_decide.2 (by omega), fun h => ?_⟩
 have h := of_decide_eq_true h
 omega
theorem half_ne {A B C : Int} (h : halfB A B C = true) : ¬ (A = 0 ∧ B = 0) := by
 simp only [halfB, Bool.and_eq_true, Bool.not_eq_true', Bool.and_eq_false_iff, decide_eq_true_eq, decide_eq_false_iff_not] at h
 omega
end Go.Proofs.YtcdlplobniogpaaGreat
namespace Go.Proofs.YtcdlplobniogpaaGreat
open Go Go.V Go.RowKit
theorem in01_fn (n lo hi : Int) (M : Mem) : FnP Tryz.prog 210 [.int .i64 n, .int .i64 lo, .int .i64 hi] M [.bool (decide (lo ≤ n ∧ n ≤ hi))] := by
 refine Fn.of_vc cxOK Tryz.func210 rfl rfl rfl ?_
 repeat' (first | refine VIf.tt ?_ | refine VIf.ff ?_ | refine VIf.mk (fun _ => ?_) (fun _ => ?_) | refine VFact.mk ?_ trivial)
 all_goals (refine ⟨bool1 ?_, rfl⟩; simp only [Bool.and_eq_true, decide_eq_true_eq, decide_eq_false_iff_not, Bool.false_eq_true, false_iff] at *; omega)
theorem dn_div {a b : Int} (hb : 0 < b) : (a.tmod b < 0 → a / b = a.tdiv b - 1) ∧ (0 ≤ a.tmod b → a / b = a.tdiv b) := by
 have h1 := Int.tmod_add_mul_tdiv a b
 have h2 := Int.tmod_lt_of_pos a hb
 have h3 : -b < a.tmod b := by
  have h := Int.tmod_lt_of_pos (-a) hb
  rw [Int.neg_tmod] at h; omega
 refine ⟨fun h => ?_, fun h => ?_⟩
 ·exact ((Int.ediv_emod_unique hb).2 (⟨by rw [Int.mul_sub]; omega, by omega, by omega⟩ : (a.tmod b + b) + b * (a.tdiv b - 1) = a ∧ 0 ≤ a.tmod b + b ∧ a.tmod b + b < b)).1
 ·exact ((Int.ediv_emod_unique hb).2 ⟨h1, h, h2⟩).1
theorem dn01_fn (a b : Int) (M : Mem) (hb : 0 < b) (hb' : b ≤ 1000000000000000) (h1 : -4000000000000000000 ≤ a) (h2 : a ≤ 4000000000000000000) : FnP Tryz.prog 203 [.int .i64 a, .int .i64 b] M [.int .i64 (a / b)] := by
 have hq := tdiv_bd2 (a := a) (b := b) (by omega) h1 h2
 have hs := dn_div (a := a) hb
 have hm := Int.tmod_lt_of_pos a hb
 have hm' : -b < a.tmod b := by
  have h := Int.tmod_lt_of_pos (-a) hb
  rw [Int.neg_tmod] at h; omega
 have e : a.tdiv b * b = a - a.tmod b := by
  have := Int.tmod_add_mul_tdiv a b
  rw [Int.mul_comm]; omega
 have e2 : a - a.tdiv b * b = a.tmod b := by rw [e]; omega
 have hbf : decide (b < 0) = false := decide_eq_false (by omega)
 refine Fn.of_vc cxOK Tryz.func203 rfl rfl rfl ?_
 refine VDiv.mk (by omega) ?_
 refine VArith.ok (by first | omega | (simp only; omega)) (by first | omega | (simp only; omega)) ?_
 refine VArith.ok (by first | omega | (simp only; omega)) (by first | omega | (simp only; omega)) ?_
 refine VArith.ok (by first | omega | (simp only; omega)) (by first | omega | (simp only; omega)) ?_
 refine VIf.mk (fun h => ?_) (fun h => ?_)
 ·repeat (first | refine VIf.tt ?_ | refine VIf.ff ?_)
  refine VIf.mk (fun h => ?_) (fun h => ?_)
  ·have hneg : a.tmod b < 0 := by
    rw [e2, hbf] at h; simpa using h
   have := hs.1 hneg
   refine VArith.ok (by first | omega | (simp only; omega)) (by first | omega | (simp only; omega)) ?_
   exact VFact.mk ⟨by rw [this], rfl⟩ trivial
  ·have hpos : 0 ≤ a.tmod b := by
    rw [e2, hbf] at h; simpa using h
   have := hs.2 hpos
   exact VFact.mk ⟨by rw [this], rfl⟩ trivial
 ·rw [e2] at h
  have hz : a.tmod b = 0 := bne_eq_false_iff_eq.1 h
  have := hs.2 (by omega)
  repeat (first | refine VIf.tt ?_ | refine VIf.ff ?_)
  exact VFact.mk ⟨by rw [this], rfl⟩ trivial
theorem ediv_bd {a b : Int} (hb : 0 < b) (h1 : -4000000000000000000 ≤ a) (h2 : a ≤ 4000000000000000000) : -4000000000000000001 ≤ a / b ∧ a / b ≤ 4000000000000000000 := by
 have hq := tdiv_bd2 (a := a) (b := b) (by omega) h1 h2
 have hs := dn_div (a := a) hb
 rcases Int.lt_or_le (a.tmod b) 0 with h | h
 ·have := hs.1 h; omega
 ·have := hs.2 h; omega
theorem up01_fn (a b : Int) (M : Mem) (hb : 0 < b) (hb' : b ≤ 1000000000000000) (h1 : -4000000000000000000 ≤ a) (h2 : a ≤ 4000000000000000000) : FnP Tryz.prog 204 [.int .i64 a, .int .i64 b] M [.int .i64 (-((-a) / b))] := by
 have hq := ediv_bd (a := -a) hb (by omega) (by omega)
 refine Fn.of_vc cxOK Tryz.func204 rfl rfl rfl ?_
 refine VArith.ok (by first | omega | (simp only; omega)) (by first | omega | (simp only; omega)) ?_
 refine VFn.p (dn01_fn (-a) b M hb hb' (by omega) (by omega)) ?_
 refine VArith.ok (by first | omega | (simp only; omega)) (by first | omega | (simp only; omega)) ?_
 exact VFact.mk ⟨rfl, rfl⟩ trivial
theorem differ04_fn (s t : Int) (M : Mem) : FnP Tryz.prog 192 [.int .i64 s, .int .i64 t] M [.bool (crossesB s t)] := by
 refine Fn.of_vc cxOK Tryz.func192 rfl rfl rfl ?_
 repeat' (first | refine VIf.tt ?_ | refine VIf.ff ?_ | refine VIf.mk (fun _ => ?_) (fun _ => ?_) | refine VFact.mk ?_ trivial)
 all_goals (refine ⟨bool1 ?_, rfl⟩; simp only [crosses_iff, decide_eq_true_eq, decide_eq_false_iff_not, true_iff, Bool.false_eq_true, false_iff] at *; omega)
def frameR (a b : Pt) (s t : Int) : List Pt := [(lo1 a.1 b.1 s t, lo1 a.2 b.2 s t), (hi1 a.1 b.1 s t, lo1 a.2 b.2 s t), (lo1 a.1 b.1 s t, hi1 a.2 b.2 s t), (hi1 a.1 b.1 s t, hi1 a.2 b.2 s t)]
theorem mem_frameR {a b : Pt} {s t : Int} {y : Pt} : y ∈ frameR a b s t ↔ y ∈ frameP a b s t := by
 unfold frameR frameP
 simp only [List.mem_cons, List.not_mem_nil, or_false]
 constructor <;> (rintro (h | h | h | h) <;> simp [h])
theorem lo_eq {x y s t n d : Int} (h : (0 < s - t ∧ n = s ∧ d = s - t) ∨ (s - t < 0 ∧ n = -s ∧ d = -(s - t))) : x + (y - x) * n / d = lo1 x y s t ∧ x + -(-((y - x) * n) / d) = hi1 x y s t := by
 unfold lo1 hi1 flr
 rcases h with ⟨h, rfl, rfl⟩ | ⟨h, rfl, rfl⟩
 ·rw [if_pos h, if_pos h]
  exact ⟨rfl, by omega⟩
 ·rw [if_neg (by omega), if_neg (by omega), Int.mul_neg]
  exact ⟨rfl, by omega⟩
set_option maxHeartbeats 4000000 in
theorem frame04_fn (a b : Pt) (s t : Int) (M : Mem) (ha : placeB a = true) (hb : placeB b = true) (hs : -2000000000000 ≤ s ∧ s ≤ 2000000000000) (ht : -2000000000000 ≤ t ∧ t ≤ 2000000000000) (hc : crossesB s t = true) :
  V.Fn Tryz.prog 193 [ptv a, ptv b, .int .i64 s, .int .i64 t] M fun rs M' => ∃ u, rs = [u] ∧ Pts M' u (frameR a b s t) := by
 have pa := place_C ha
 have pb := place_C hb
 have hne := crosses_ne hc
 have bx := lohi_bd (s := s) (t := t) pa.1 pb.1 hc
 have bY := lohi_bd (s := s) (t := t) pa.2 pb.2 hc
 unfold isC at pa pb
 refine Fn.of_vc cxOK Tryz.func193 rfl rfl rfl ?_
 refine VArith.ok (by first | omega | (simp only; omega)) (by first | omega | (simp only; omega)) ?_
 refine VIf.mk (fun h => ?_) (fun h => ?_)
 ·have h := of_decide_eq_true h
  refine VArith.ok (by first | omega | (simp only; omega)) (by first | omega | (simp only; omega)) ?_
  refine VArith.ok (by first | omega | (simp only; omega)) (by first | omega | (simp only; omega)) ?_
  have hnd : (0 < s - t ∧ (-s) = s ∧ (-(s-t)) = s - t) ∨ (s - t < 0 ∧ (-s) = -s ∧ (-(s-t)) = -(s - t)) := by omega
  have x1 := lo_eq (x := a.1) (y := b.1) hnd
  have x2 := lo_eq (x := a.2) (y := b.2) hnd
  have m1 := mul_bd (a := b.1 - a.1) (b := (-s)) 1000000 2000000000000 (by omega) (by omega) (by omega) (by omega) (by omega) (by omega)
  have m2 := mul_bd (a := b.2 - a.2) (b := (-s)) 1000000 2000000000000 (by omega) (by omega) (by omega) (by omega) (by omega) (by omega)
  refine VDraw.go (by kernel_rfl) ?_
  refine VArith.ok (by first | omega | (simp only; omega)) (by first | omega | (simp only; omega)) ?_
  refine VArith.ok (by show _ ≤ (b.1 - a.1) * (-s); omega) (by show (b.1 - a.1) * (-s) ≤ _; omega) ?_
  refine VFn.p (dn01_fn ((b.1 - a.1) * (-s)) (-(s-t)) M (by omega) (by omega) (by omega) (by omega)) ?_
  refine VArith.ok (by show _ ≤ a.1 + (b.1 - a.1) * (-s) / (-(s-t)); omega) (by show a.1 + (b.1 - a.1) * (-s) / (-(s-t)) ≤ _; omega) ?_
  refine VDraw.go (by kernel_rfl) ?_
  refine VArith.ok (by first | omega | (simp only; omega)) (by first | omega | (simp only; omega)) ?_
  refine VArith.ok (by show _ ≤ (b.1 - a.1) * (-s); omega) (by show (b.1 - a.1) * (-s) ≤ _; omega) ?_
  refine VFn.p (up01_fn ((b.1 - a.1) * (-s)) (-(s-t)) M (by omega) (by omega) (by omega) (by omega)) ?_
  refine VArith.ok (by show _ ≤ a.1 + -(-((b.1 - a.1) * (-s)) / (-(s-t))); omega) (by show a.1 + -(-((b.1 - a.1) * (-s)) / (-(s-t))) ≤ _; omega) ?_
  refine VDraw.go (by kernel_rfl) ?_
  refine VArith.ok (by first | omega | (simp only; omega)) (by first | omega | (simp only; omega)) ?_
  refine VArith.ok (by show _ ≤ (b.2 - a.2) * (-s); omega) (by show (b.2 - a.2) * (-s) ≤ _; omega) ?_
  refine VFn.p (dn01_fn ((b.2 - a.2) * (-s)) (-(s-t)) M (by omega) (by omega) (by omega) (by omega)) ?_
  refine VArith.ok (by show _ ≤ a.2 + (b.2 - a.2) * (-s) / (-(s-t)); omega) (by show a.2 + (b.2 - a.2) * (-s) / (-(s-t)) ≤ _; omega) ?_
  refine VDraw.go (by kernel_rfl) ?_
  refine VArith.ok (by first | omega | (simp only; omega)) (by first | omega | (simp only; omega)) ?_
  refine VArith.ok (by show _ ≤ (b.2 - a.2) * (-s); omega) (by show (b.2 - a.2) * (-s) ≤ _; omega) ?_
  refine VFn.p (up01_fn ((b.2 - a.2) * (-s)) (-(s-t)) M (by omega) (by omega) (by omega) (by omega)) ?_
  refine VArith.ok (by show _ ≤ a.2 + -(-((b.2 - a.2) * (-s)) / (-(s-t))); omega) (by show a.2 + -(-((b.2 - a.2) * (-s)) / (-(s-t))) ≤ _; omega) ?_
  refine VFz.mk fun u B M1 hM1 hu => ?_
  refine VFact.mk ⟨u, rfl, ?_⟩ trivial
  have hu : Pts M1 u [(a.1 + (b.1 - a.1) * (-s) / (-(s-t)), a.2 + (b.2 - a.2) * (-s) / (-(s-t))), (a.1 + -(-((b.1 - a.1) * (-s)) / (-(s-t))), a.2 + (b.2 - a.2) * (-s) / (-(s-t))), (a.1 + (b.1 - a.1) * (-s) / (-(s-t)), a.2 + -(-((b.2 - a.2) * (-s)) / (-(s-t)))), (a.1 + -(-((b.1 - a.1) * (-s)) / (-(s-t))), a.2 + -(-((b.2 - a.2) * (-s)) / (-(s-t))))] := hu
  rw [x1.1, x1.2, x2.1, x2.2] at hu
  exact hu
 ·have h := of_decide_eq_false h
  have hnd : (0 < s - t ∧ s = s ∧ (s-t) = s - t) ∨ (s - t < 0 ∧ s = -s ∧ (s-t) = -(s - t)) := by omega
  have x1 := lo_eq (x := a.1) (y := b.1) hnd
  have x2 := lo_eq (x := a.2) (y := b.2) hnd
  have m1 := mul_bd (a := b.1 - a.1) (b := s) 1000000 2000000000000 (by omega) (by omega) (by omega) (by omega) (by omega) (by omega)
  have m2 := mul_bd (a := b.2 - a.2) (b := s) 1000000 2000000000000 (by omega) (by omega) (by omega) (by omega) (by omega) (by omega)
  refine VDraw.go (by kernel_rfl) ?_
  refine VArith.ok (by first | omega | (simp only; omega)) (by first | omega | (simp only; omega)) ?_
  refine VArith.ok (by show _ ≤ (b.1 - a.1) * s; omega) (by show (b.1 - a.1) * s ≤ _; omega) ?_
  refine VFn.p (dn01_fn ((b.1 - a.1) * s) (s-t) M (by omega) (by omega) (by omega) (by omega)) ?_
  refine VArith.ok (by show _ ≤ a.1 + (b.1 - a.1) * s / (s-t); omega) (by show a.1 + (b.1 - a.1) * s / (s-t) ≤ _; omega) ?_
  refine VDraw.go (by kernel_rfl) ?_
  refine VArith.ok (by first | omega | (simp only; omega)) (by first | omega | (simp only; omega)) ?_
  refine VArith.ok (by show _ ≤ (b.1 - a.1) * s; omega) (by show (b.1 - a.1) * s ≤ _; omega) ?_
  refine VFn.p (up01_fn ((b.1 - a.1) * s) (s-t) M (by omega) (by omega) (by omega) (by omega)) ?_
  refine VArith.ok (by show _ ≤ a.1 + -(-((b.1 - a.1) * s) / (s-t)); omega) (by show a.1 + -(-((b.1 - a.1) * s) / (s-t)) ≤ _; omega) ?_
  refine VDraw.go (by kernel_rfl) ?_
  refine VArith.ok (by first | omega | (simp only; omega)) (by first | omega | (simp only; omega)) ?_
  refine VArith.ok (by show _ ≤ (b.2 - a.2) * s; omega) (by show (b.2 - a.2) * s ≤ _; omega) ?_
  refine VFn.p (dn01_fn ((b.2 - a.2) * s) (s-t) M (by omega) (by omega) (by omega) (by omega)) ?_
  refine VArith.ok (by show _ ≤ a.2 + (b.2 - a.2) * s / (s-t); omega) (by show a.2 + (b.2 - a.2) * s / (s-t) ≤ _; omega) ?_
  refine VDraw.go (by kernel_rfl) ?_
  refine VArith.ok (by first | omega | (simp only; omega)) (by first | omega | (simp only; omega)) ?_
  refine VArith.ok (by show _ ≤ (b.2 - a.2) * s; omega) (by show (b.2 - a.2) * s ≤ _; omega) ?_
  refine VFn.p (up01_fn ((b.2 - a.2) * s) (s-t) M (by omega) (by omega) (by omega) (by omega)) ?_
  refine VArith.ok (by show _ ≤ a.2 + -(-((b.2 - a.2) * s) / (s-t)); omega) (by show a.2 + -(-((b.2 - a.2) * s) / (s-t)) ≤ _; omega) ?_
  refine VFz.mk fun u B M1 hM1 hu => ?_
  refine VFact.mk ⟨u, rfl, ?_⟩ trivial
  have hu : Pts M1 u [(a.1 + (b.1 - a.1) * s / (s-t), a.2 + (b.2 - a.2) * s / (s-t)), (a.1 + -(-((b.1 - a.1) * s) / (s-t)), a.2 + (b.2 - a.2) * s / (s-t)), (a.1 + (b.1 - a.1) * s / (s-t), a.2 + -(-((b.2 - a.2) * s) / (s-t))), (a.1 + -(-((b.1 - a.1) * s) / (s-t)), a.2 + -(-((b.2 - a.2) * s) / (s-t)))] := hu
  rw [x1.1, x1.2, x2.1, x2.2] at hu
  exact hu
theorem Oct_fn (v : Value) (ps : List Pt) (M : Mem) (hv : Pts M v ps) (hne : ps ≠ []) (hP : ∀ x ∈ ps, placeB x = true) : V.Fn Tryz.prog 72 [v] M fun rs M' => ∃ u, rs = [u] ∧ Pts M' u (octL ps) := by
 obtain ⟨ad, c, rfl⟩ := hv.shape
 have hn := ne_len hne
 have hC : allC ps := fun k hk => place_C (hP _ (gp_mem hk))
 have b1 := Bounds_fn _ ps 1 0 M hv hn hC (by omega) (by omega)
 have b2 := Bounds_fn _ ps 0 1 M hv hn hC (by omega) (by omega)
 have b3 := Bounds_fn _ ps 1 1 M hv hn hC (by omega) (by omega)
 have b4 := Bounds_fn _ ps 1 (-1) M hv hn hC (by omega) (by omega)
 rw [lin10] at b1
 rw [lin01] at b2
 rw [lin11] at b3
 rw [lin1m] at b4
 obtain ⟨bd, bi, hpl, hh⟩ := b8_gen hn hP
 obtain ⟨h1, h2, h3, h4, h5, h6, h7, h8, h9, h10, h11⟩ := bi
 have b1 : FnP Tryz.prog 123 _ M [.int .i64 (b8 ps).a, .int .i64 (b8 ps).b] := b1
 have b2 : FnP Tryz.prog 123 _ M [.int .i64 (b8 ps).c, .int .i64 (b8 ps).d] := b2
 have b3 : FnP Tryz.prog 123 _ M [.int .i64 (b8 ps).s, .int .i64 (b8 ps).t] := b3
 have b4 : FnP Tryz.prog 123 _ M [.int .i64 (b8 ps).u, .int .i64 (b8 ps).v] := b4
 have ho : eightP ps = octL ps := rfl
 rw [ho] at hh
 generalize octL ps = O at *
 generalize b8 ps = B at *
 refine Fn.of_vc cxOK Tryz.func72 rfl rfl rfl ?_
 refine VFn.p b1 ?_
 refine VFn.p b2 ?_
 refine VFn.p b3 ?_
 refine VFn.p b4 ?_
 refine VArith.ok (by first | omega | (simp only; omega)) (by first | omega | (simp only; omega)) ?_
 refine VArith.ok (by first | omega | (simp only; omega)) (by first | omega | (simp only; omega)) ?_
 refine VArith.ok (by first | omega | (simp only; omega)) (by first | omega | (simp only; omega)) ?_
 refine VArith.ok (by first | omega | (simp only; omega)) (by first | omega | (simp only; omega)) ?_
 refine VArith.ok (by first | omega | (simp only; omega)) (by first | omega | (simp only; omega)) ?_
 refine VArith.ok (by first | omega | (simp only; omega)) (by first | omega | (simp only; omega)) ?_
 refine VArith.ok (by first | omega | (simp only; omega)) (by first | omega | (simp only; omega)) ?_
 refine VArith.ok (by first | omega | (simp only; omega)) (by first | omega | (simp only; omega)) ?_
 refine VFz.mk fun x B1 M2 hM2 hx => ?_
 have hx : Pts M2 x [(B.b, B.b - B.v), (B.b, B.t - B.b), (B.t - B.d, B.d), (B.d + B.u, B.d), (B.a, B.a - B.u), (B.a, B.s - B.a), (B.s - B.c, B.c), (B.c + B.v, B.c)] := hx
 have hmem : ∀ y, y ∈ [(B.b, B.b - B.v), (B.b, B.t - B.b), (B.t - B.d, B.d), (B.d + B.u, B.d), (B.a, B.a - B.u), (B.a, B.s - B.a), (B.s - B.c, B.c), (B.c + B.v, B.c)] ↔ y ∈ B.pts := fun y => by
  unfold B8.pts
  simp only [List.mem_cons, List.not_mem_nil, or_false]
  constructor <;> (rintro (h | h | h | h | h | h | h | h) <;> simp [h])
 refine VFn.mk _ (Around_fn x _ O M2 hx (hh.congr hmem) (fun p hp => all_isC (List.all_eq_true.2 hpl) p ((hmem p).1 hp)) (by simp)) ?_
 rintro rs M3 hM3 ⟨u, rfl, hu⟩
 exact VFact.mk ⟨u, rfl, hu⟩ trivial
theorem polygon04_fn (v : Value) (l : List Pt) (M : Mem) (hv : Pts M v l) (hP : ∀ x ∈ l, placeB x = true) (hl : l.length ≤ 4000) : V.Fn Tryz.prog 154 [v] M fun rs M' => ∃ u, rs = [u, .bool (decide (0 < l.length))] ∧ Pts M' u (arC l) := by
 obtain ⟨ad, c, rfl⟩ := hv.shape
 refine Fn.of_vc cxOK Tryz.func154 rfl rfl rfl ?_
 refine VIf.mk (fun h => ?_) (fun h => ?_)
 ·have h : l = [] := List.eq_nil_of_length_eq_zero (by have := eq_of_beq h; omega)
  subst h
  exact VFact.mk ⟨_, rfl, Pts.nil _⟩ trivial
 have hne : l ≠ [] := fun e => by subst e; simp at h
 have hpos := ne_len hne
 have hh := around_hl hne
 refine VFn.mk _ (Around_fn _ l (aroundP l) M hv hh (fun p hp => place_C (hP p hp)) hl) ?_
 rintro rs M1 hM1 ⟨u, rfl, hu⟩
 have F : V.Fn Tryz.prog 183 [u] M1 fun rs M' => ∃ w, rs = [w] ∧ Pts M' w (arC l) := by
  have pA : ∀ x ∈ aroundP l, placeB x = true := fun x hx => hP x (hh.sub x hx)
  have nA : aroundP l ≠ [] := fun e => by have := hh.pos; rw [e] at this; simp at this
  have e8 : octL (aroundP l) = octL l := by unfold octL; rw [b8_all hne]
  have FO := Oct_fn u (aroundP l) M1 hu nA pA
  rw [e8] at FO
  obtain ⟨ud, uc, rfl⟩ := hu.shape
  refine Fn.of_vc cxOK Tryz.func183 rfl rfl rfl ?_
  refine VIf.mk (fun h => ?_) (fun h => ?_)
  ·have h := of_decide_eq_true h
   refine VFn.mk _ FO ?_
   rintro rs M2 hM2 ⟨w, rfl, hw⟩
   refine VFact.mk ⟨w, rfl, ?_⟩ trivial
   unfold arC
   rw [if_neg hne, if_neg (fun g => by omega)]
   exact hw
  ·have h := of_decide_eq_false h
   refine VFact.mk ⟨_, rfl, ?_⟩ trivial
   unfold arC
   rw [if_neg hne, if_pos ⟨hl, by omega⟩]
   exact hu
 refine VFn.mk _ F ?_
 rintro rs M2 hM2 ⟨w, rfl, hw⟩
 refine VFact.mk ⟨w, ?_, hw⟩ trivial
 rw [decide_eq_true (show 0 < l.length by omega)]
theorem Half04_fn (A B C : Int) (M : Mem) : FnP Tryz.prog 205 [.agg #[.int .i64 A, .int .i64 B, .int .i64 C]] M [.bool (halfB A B C)] := by
 refine Fn.of_vc cxOK Tryz.func205 rfl rfl rfl ?_
 refine VFn.p (in01_fn _ _ _ M) ?_
 refine VFn.p (in01_fn _ _ _ M) ?_
 refine VFn.p (in01_fn _ _ _ M) ?_
 refine VIf.mk (fun h1 => ?_) (fun h1 => ?_)
 rotate_left
 ·repeat (first | refine VIf.tt ?_ | refine VIf.ff ?_)
  refine VFact.mk ⟨?_, rfl⟩ trivial
  unfold halfB; rw [h1]; rfl
 repeat (first | refine VIf.tt ?_ | refine VIf.ff ?_)
 refine VIf.mk (fun h2 => ?_) (fun h2 => ?_)
 rotate_left
 ·repeat (first | refine VIf.tt ?_ | refine VIf.ff ?_)
  refine VFact.mk ⟨?_, rfl⟩ trivial
  unfold halfB; rw [h2, Bool.and_false]; rfl
 repeat (first | refine VIf.tt ?_ | refine VIf.ff ?_)
 refine VIf.mk (fun h3 => ?_) (fun h3 => ?_)
 rotate_left
 ·repeat (first | refine VIf.tt ?_ | refine VIf.ff ?_)
  refine VFact.mk ⟨?_, rfl⟩ trivial
  unfold halfB; rw [h3, Bool.and_false]; rfl
 repeat (first | refine VIf.tt ?_ | refine VIf.ff ?_)
 refine VIf.mk (fun h4 => ?_) (fun h4 => ?_)
 ·repeat (first | refine VIf.tt ?_ | refine VIf.ff ?_)
  refine VFact.mk ⟨?_, rfl⟩ trivial
  have h4 : decide (A = 0) = false := decide_eq_false (by simpa using h4)
  unfold halfB; rw [h1, h2, h3, h4]; rfl
 ·repeat (first | refine VIf.tt ?_ | refine VIf.ff ?_)
  refine VFact.mk ⟨?_, rfl⟩ trivial
  have h4 : decide (A = 0) = true := decide_eq_true (bne_eq_false_iff_eq.1 h4)
  unfold halfB
  rw [h1, h2, h3, h4]
  by_cases hB : B = 0
  ·subst hB; rfl
  ·rw [decide_eq_false hB]; simp [hB]
end Go.Proofs.YtcdlplobniogpaaGreat
namespace Go.Proofs.YtcdlplobniogpaaGreat
open Go Go.V Go.RowKit
def keepR (p : List Pt) (A B C : Int) (i : Nat) : List Pt := (if ovr A B C (gp p i) ≤ 0 then [gp p i] else []) ++ (if crossesB (ovr A B C (gp p i)) (ovr A B C (nx p i)) = true then frameR (gp p i) (nx p i) (ovr A B C (gp p i)) (ovr A B C (nx p i)) else [])
def leftR (p : List Pt) (A B C : Int) (k : Nat) : List Pt := (List.range k).flatMap (keepR p A B C)
theorem leftR_step (p : List Pt) (A B C : Int) (k : Nat) : leftR p A B C (k + 1) = leftR p A B C k ++ keepR p A B C k := by unfold leftR; rw [List.range_succ, List.flatMap_append]; simp
theorem keepR_len (p : List Pt) (A B C : Int) (i : Nat) : (keepR p A B C i).length = (keepL p A B C i).length := by
 unfold keepR keepL
 rw [List.length_append, List.length_append]
 congr 1
 split <;> rfl
theorem mem_keepR {p : List Pt} {A B C : Int} {i : Nat} {y : Pt} : y ∈ keepR p A B C i ↔ y ∈ keepL p A B C i := by
 unfold keepR keepL
 rw [List.mem_append, List.mem_append]
 split <;> simp [mem_frameR]
theorem leftR_len (p : List Pt) (A B C : Int) : ∀ k, (leftR p A B C k).length = (cutL p A B C k).length
 | 0 => rfl
 | k + 1 => by rw [leftR_step, cutL_step, List.length_append, List.length_append, leftR_len p A B C k, keepR_len]
theorem mem_leftR {p : List Pt} {A B C : Int} {k : Nat} {y : Pt} : y ∈ leftR p A B C k ↔ y ∈ cutL p A B C k := by
 unfold leftR cutL
 simp only [List.mem_flatMap, mem_keepR]
theorem ovrR_bd {A B C : Int} {x : Pt} (h : halfB A B C = true) (hx : placeB x = true) : -2000000000000 ≤ ovr A B C x ∧ ovr A B C x ≤ 2000000000000 := by
 have hp := place_C hx
 unfold isC at hp
 simp only [halfB, Bool.and_eq_true, decide_eq_true_eq] at h
 have e1 := mul_bd (a := A) (b := x.1) 1000000 500000 (by omega) (by omega) (by omega) (by omega) (by omega) (by omega)
 have e2 := mul_bd (a := B) (b := x.2) 1000000 500000 (by omega) (by omega) (by omega) (by omega) (by omega) (by omega)
 unfold ovr
 omega
set_option maxRecDepth 20000 in
set_option maxHeartbeats 4000000 in
theorem Left04_fn (v : Value) (ps : List Pt) (A B C : Int) (M : Mem) (hv : Pts M v ps) (hP : ∀ x ∈ ps, placeB x = true) (hl : ps.length ≤ 64) (hH : halfB A B C = true) :
  V.Fn Tryz.prog 206 [v, .agg #[.int .i64 A, .int .i64 B, .int .i64 C]] M fun rs M' => ∃ u, rs = [u] ∧ Pts M' u (leftR ps A B C ps.length) := by
 obtain ⟨ad, c, rfl⟩ := hv.shape
 obtain ⟨_, hm, hrd⟩ := hv.cellsOf
 refine Fn.of_vc cxOK Tryz.func206 rfl rfl rfl ?_
 refine VCode.loopC (Nat × Mem) (fun (⟨i, M1⟩ : Nat × Mem) => ⟨[(0, .v (.slice ad ps.length c)), (3, .box 0 0), (5, .row 1), (6, .v (.int .i64 i))], [(0, some (.box 164 [.v (.int .i64 A), .v (.int .i64 B), .v (.int .i64 C)])), (1, some (.row 44 2 (leftR ps A B C i).length (cellsP (leftR ps A B C i))))], 2, M1, 54, ⟨fun _ => none, none, fun _ => none⟩⟩)
  (fun (⟨i, M1⟩ : Nat × Mem) => M.le M1 ∧ i ≤ ps.length) (fun (⟨i, _⟩ : Nat × Mem) => ps.length - i) (0, M) ⟨Mem.le_refl _, Nat.zero_le _⟩ (Wk.nil 5 44 2 rfl (Wk.mk' id (by repeat' constructor) (by repeat' constructor) (injOK_id _) rfl rfl rfl)) ?_
 rintro ⟨i, M1⟩ ⟨hM1, hi⟩ m
 have hll : (leftR ps A B C i).length ≤ 5 * i := by rw [leftR_len]; exact cutL_len ps A B C i
 refine VCode.st cxOK ?_
 refine VIf.mk (fun hlt => ?_) (fun hge => ?_)
 rotate_left
 ·have : i = ps.length := by have := ge_of_dec hge; omega
  subst this
  refine VFz.mk fun x Bx M2 hM2 hx => ?_
  exact VFact.mk ⟨x, rfl, hx⟩ trivial
 refine VCode.seq (VCode.block ?_)
 have hlt : i < ps.length := lt_of_dec hlt
 have hmod : (i + 1) % ps.length < ps.length := Nat.mod_lt _ (by omega)
 obtain ⟨a1, e1, r1⟩ := hrd M1 hM1 i hlt
 obtain ⟨a2, e2, r2⟩ := hrd M1 hM1 ((i + 1) % ps.length) hmod
 have pa := hP _ (gp_mem hlt)
 have pb : placeB (nx ps i) = true := hP _ (gp_mem hmod)
 have ba := ovrR_bd hH pa
 have bb := ovrR_bd hH pb
 refine VCode.st cxOK ?_
 refine VIdx.mk a1 i e1 rfl hlt ?_
 refine VReads.mk [.int .i64 (gp ps i).1, .int .i64 (gp ps i).2] rfl r1 ?_
 refine VCode.st cxOK ?_
 refine VArith.ok (by first | omega | (simp only; omega)) (by first | omega | (simp only; omega)) ?_
 refine VDiv.mk (by omega) ?_
 refine VIdx.mk a2 ((i + 1) % ps.length) e2 (by rw [Int.tmod_eq_emod_of_nonneg (by omega)]; simp) hmod ?_
 refine VReads.mk [.int .i64 (nx ps i).1, .int .i64 (nx ps i).2] rfl r2 ?_
 refine VCode.st cxOK ?_
 refine VFn.p (Over04_fn A B C (gp ps i) M1 hH pa) ?_
 refine VCode.st cxOK ?_
 refine VFn.p (Over04_fn A B C (nx ps i) M1 hH pb) ?_
 have hst := leftR_step ps A B C i
 refine VCode.st cxOK ?_
 refine VIf.mk (fun hs => ?_) (fun hs => ?_)
 ·have hs := of_decide_eq_true hs
  have hb : ((leftR ps A B C i).length + 1) * 16 ≤ 140737488355328 := by omega
  refine VFact.mk hb ?_
  refine VCode.st cxOK ?_
  refine VFn.p (differ04_fn _ _ M1) ?_
  refine VCode.of_vc cxOK ?_
  refine VIf.mk (fun hc => ?_) (fun hc => ?_)
  ·have hk : keepR ps A B C i = [gp ps i] ++ frameR (gp ps i) (nx ps i) (ovr A B C (gp ps i)) (ovr A B C (nx ps i)) := by unfold keepR; rw [if_pos hs, if_pos hc]
   refine VFn.mk _ (frame04_fn (gp ps i) (nx ps i) _ _ M1 pa pb ba bb hc) ?_
   rintro rs M2 hM2 ⟨u, rfl, hu⟩
   refine VSl.mk _ _ hu ?_
   have hb : ((leftR ps A B C i).length + 1 + (frameR (gp ps i) (nx ps i) (ovr A B C (gp ps i)) (ovr A B C (nx ps i))).length) * 16 ≤ 140737488355328 := by show (_ + 1 + 4) * 16 ≤ _; omega
   refine VFact.mk hb ?_
   refine VCode.of_vc cxOK ?_
   refine VArith.ok (by first | omega | (simp only; omega)) (by first | omega | (simp only; omega)) ?_
   refine ⟨(i + 1, M2), ⟨hM1.trans hM2, hlt⟩, (by first | omega | (simp only; omega)), Wk.mk' (fun k => if k = 1 then 6 else k) (by repeat' constructor) ⟨⟨rfl, by repeat' constructor⟩, ⟨rfl, ⟨rfl, rfl, ?_, ?_⟩⟩, trivial⟩ (by simp [injOK]) rfl rfl rfl⟩
   ·rw [hst, hk]
    try simp only [List.length_append]
    try rfl
   ·rw [hst, hk]
    try simp only [cellsP_app, List.append_assoc]
    try rfl
  ·have hk : keepR ps A B C i = [gp ps i] := by unfold keepR; rw [if_pos hs, if_neg (by rw [hc]; decide)]; rfl
   refine VCode.of_vc cxOK ?_
   refine VArith.ok (by first | omega | (simp only; omega)) (by first | omega | (simp only; omega)) ?_
   refine ⟨(i + 1, M1), ⟨hM1, hlt⟩, (by first | omega | (simp only; omega)), Wk.mk' (fun k => if k = 1 then 5 else k) (by repeat' constructor) ⟨⟨rfl, by repeat' constructor⟩, ⟨rfl, ⟨rfl, rfl, ?_, ?_⟩⟩, trivial⟩ (by simp [injOK]) rfl rfl rfl⟩
   ·rw [hst, hk]
    try simp only [List.length_append]
    try rfl
   ·rw [hst, hk]
    try simp only [cellsP_app, List.append_assoc]
    try rfl
 ·have hs := of_decide_eq_false hs
  refine VCode.st cxOK ?_
  refine VFn.p (differ04_fn _ _ M1) ?_
  refine VCode.of_vc cxOK ?_
  refine VIf.mk (fun hc => ?_) (fun hc => ?_)
  ·have hk : keepR ps A B C i = frameR (gp ps i) (nx ps i) (ovr A B C (gp ps i)) (ovr A B C (nx ps i)) := by unfold keepR; rw [if_neg hs, if_pos hc]; rfl
   refine VFn.mk _ (frame04_fn (gp ps i) (nx ps i) _ _ M1 pa pb ba bb hc) ?_
   rintro rs M2 hM2 ⟨u, rfl, hu⟩
   refine VSl.mk _ _ hu ?_
   have hb : ((leftR ps A B C i).length + (frameR (gp ps i) (nx ps i) (ovr A B C (gp ps i)) (ovr A B C (nx ps i))).length) * 16 ≤ 140737488355328 := by show (_ + 4) * 16 ≤ _; omega
   refine VFact.mk hb ?_
   refine VCode.of_vc cxOK ?_
   refine VArith.ok (by first | omega | (simp only; omega)) (by first | omega | (simp only; omega)) ?_
   refine ⟨(i + 1, M2), ⟨hM1.trans hM2, hlt⟩, (by first | omega | (simp only; omega)), Wk.mk' (fun k => if k = 1 then 4 else k) (by repeat' constructor) ⟨⟨rfl, by repeat' constructor⟩, ⟨rfl, ⟨rfl, rfl, ?_, ?_⟩⟩, trivial⟩ (by simp [injOK]) rfl rfl rfl⟩
   ·rw [hst, hk]
    try simp only [List.length_append]
    try rfl
   ·rw [hst, hk]
    try simp only [cellsP_app, List.append_assoc]
    try rfl
  ·have hk : keepR ps A B C i = [] := by unfold keepR; rw [if_neg hs, if_neg (by rw [hc]; decide)]; rfl
   refine VCode.of_vc cxOK ?_
   refine VArith.ok (by first | omega | (simp only; omega)) (by first | omega | (simp only; omega)) ?_
   refine ⟨(i + 1, M1), ⟨hM1, hlt⟩, (by first | omega | (simp only; omega)), Wk.mk' id (by repeat' constructor) ⟨⟨rfl, by repeat' constructor⟩, ⟨rfl, ⟨rfl, rfl, ?_, ?_⟩⟩, trivial⟩ (injOK_id _) rfl rfl rfl⟩
   ·rw [hst, hk, List.append_nil]
   ·rw [hst, hk, List.append_nil]
theorem left_arC {p : List Pt} {A B C : Int} : arC (leftR p A B C p.length) = arC (cutA p A B C) := arC_congr (fun x => mem_leftR) (leftR_len p A B C p.length)
theorem Cut04_fn (v : Value) (ps : List Pt) (A B C : Int) (M : Mem) (hv : Pts M v ps) (h64 : i64P ps) :
  V.Fn Tryz.prog 194 [v, .agg #[.int .i64 A, .int .i64 B, .int .i64 C]] M fun rs M' => if (validB ps && halfB A B C) = true then ∃ u, rs = [u, .bool (decide (0 < (cutA ps A B C).length)), .int .i64 0] ∧ Pts M' u (arC (cutA ps A B C)) else rs = [.slice none 0 0, .bool false, .int .i64 1] := by
 refine Fn.of_vc cxOK Tryz.func194 rfl rfl rfl ?_
 refine VFn.p (ValidR_fn v ps M hv h64) ?_
 rw [validR_eq]
 refine VFn.p (Half04_fn A B C M) ?_
 refine VIf.mk (fun h => ?_) (fun h1 => ?_)
 ·repeat (first | refine VIf.tt ?_ | refine VIf.ff ?_)
  exact VFact.mk (by rw [bn1 h]; rfl) trivial
 have h1 := bn2 h1
 repeat (first | refine VIf.tt ?_ | refine VIf.ff ?_)
 refine VIf.mk (fun h => ?_) (fun h2 => ?_)
 ·exact VFact.mk (by rw [bn1 h, Bool.and_false]; rfl) trivial
 have h2 := bn2 h2
 rw [h1, h2]
 have hl := (len_one h1).2
 have hlen := leftR_len ps A B C ps.length
 have hc5 := cutL_len ps A B C ps.length
 refine VFn.mk _ (Left04_fn v ps A B C M hv (valid_mem h1) hl h2) ?_
 rintro rs M1 hM1 ⟨u, rfl, hu⟩
 refine VFn.mk _ (polygon04_fn u _ M1 hu (fun x hx => cut_place h1 A B C x (mem_leftR.1 hx)) (by omega)) ?_
 rintro rs M2 hM2 ⟨w, rfl, hw⟩
 refine VFact.mk ⟨w, ?_, ?_⟩ trivial
 ·unfold cutA; rw [hlen]
 ·rw [← left_arC]; exact hw
def cellR (p q : List Pt) (i j : Nat) : List Pt := if crossIJ p q i j = true then frameR (gp q j) (nx q j) (crossP (gp p i) (nx p i) (gp q j)) (crossP (gp p i) (nx p i) (nx q j)) else []
def rowR (p q : List Pt) (i k : Nat) : List Pt := (List.range k).flatMap (cellR p q i)
def crosR (p q : List Pt) (k : Nat) : List Pt := (List.range k).flatMap fun i => rowR p q i q.length
theorem rowR_step (p q : List Pt) (i k : Nat) : rowR p q i (k + 1) = rowR p q i k ++ cellR p q i k := by unfold rowR; rw [List.range_succ, List.flatMap_append]; simp
theorem crosR_step (p q : List Pt) (k : Nat) : crosR p q (k + 1) = crosR p q k ++ rowR p q k q.length := by unfold crosR; rw [List.range_succ, List.flatMap_append]; simp
theorem cellR_len (p q : List Pt) (i j : Nat) : (cellR p q i j).length = (cellX p q i j).length := by unfold cellR cellX; split <;> rfl
theorem rowR_len (p q : List Pt) (i : Nat) : ∀ k, (rowR p q i k).length = (rowX p q i k).length
 | 0 => rfl
 | k + 1 => by rw [rowR_step, rowX_step, List.length_append, List.length_append, rowR_len p q i k, cellR_len]
theorem crosR_len (p q : List Pt) : ∀ k, (crosR p q k).length = (crosX p q k).length
 | 0 => rfl
 | k + 1 => by rw [crosR_step, crosX_step, List.length_append, List.length_append, crosR_len p q k, rowR_len]
theorem mem_crosR {p q : List Pt} {k : Nat} {y : Pt} : y ∈ crosR p q k ↔ y ∈ crosX p q k := by
 unfold crosR crosX rowR rowX
 simp only [List.mem_flatMap]
 have e : ∀ i j, y ∈ cellR p q i j ↔ y ∈ cellX p q i j := fun i j => by
  unfold cellR cellX
  split
  ·exact mem_frameR
  ·exact Iff.rfl
 simp only [e]
theorem crosX_len4 (p q : List Pt) (hq : q.length ≤ 4) : ∀ k, (crosX p q k).length ≤ 16 * k
 | 0 => by simp [crosX]
 | k + 1 => by
  have := crosX_len4 p q hq k
  have := rowX_len p q k q.length
  rw [crosX_step, List.length_append]; omega
theorem crossR_fn (a b c : Pt) (M : Mem) (ha : placeB a = true) (hb : placeB b = true) (hc : placeB c = true) : FnP Tryz.prog 77 [ptv a, ptv b, ptv c] M [.int .i64 (crossP a b c)] :=
 Cross_fn a.1 a.2 b.1 b.2 c.1 c.2 M (place_C ha).1 (place_C ha).2 (place_C hb).1 (place_C hb).2 (place_C hc).1 (place_C hc).2
end Go.Proofs.YtcdlplobniogpaaGreat
namespace Go.Proofs.YtcdlplobniogpaaGreat
open Go Go.V Go.RowKit
theorem crossP_bd2 {a b c : Pt} (ha : placeB a = true) (hb : placeB b = true) (hc : placeB c = true) : -2000000000000 ≤ crossP a b c ∧ crossP a b c ≤ 2000000000000 := crossP_bd ha hb hc
set_option maxRecDepth 20000 in
set_option maxHeartbeats 4000000 in
theorem Crossings04_fn (v w : Value) (ps qs : List Pt) (M : Mem) (hv : Pts M v ps) (hw : Pts M w qs) (hP : ∀ x ∈ ps, placeB x = true) (hQ : ∀ x ∈ qs, placeB x = true) (hl : ps.length ≤ 64) (hl2 : qs.length ≤ 4) :
  V.Fn Tryz.prog 184 [v, w] M fun rs M' => ∃ u, rs = [u] ∧ Pts M' u (crosR ps qs ps.length) := by
 obtain ⟨ad, c, rfl⟩ := hv.shape
 obtain ⟨bd, bc, rfl⟩ := hw.shape
 obtain ⟨_, hm, hrd⟩ := hv.cellsOf
 obtain ⟨_, hm', hrd'⟩ := hw.cellsOf
 refine Fn.of_vc cxOK Tryz.func184 rfl rfl rfl ?_
 refine VCode.loopC (Nat × Mem) (fun (⟨i, M1⟩ : Nat × Mem) => ⟨[(0, .v (.slice ad ps.length c)), (1, .v (.slice bd qs.length bc)), (5, .row 0), (6, .v (.int .i64 i))], [(0, some (.row 44 2 (crosR ps qs i).length (cellsP (crosR ps qs i))))], 1, M1, 84, ⟨fun _ => none, none, fun _ => none⟩⟩)
  (fun (⟨i, M1⟩ : Nat × Mem) => M.le M1 ∧ i ≤ ps.length) (fun (⟨i, _⟩ : Nat × Mem) => ps.length - i) (0, M) ⟨Mem.le_refl _, Nat.zero_le _⟩ (Wk.nil 5 44 2 rfl (Wk.mk' id (by repeat' constructor) (by repeat' constructor) (injOK_id _) rfl rfl rfl)) ?_
 rintro ⟨i, M1⟩ ⟨hM1, hi⟩ m
 have hll : (crosR ps qs i).length ≤ 16 * i := by rw [crosR_len]; exact crosX_len4 ps qs hl2 i
 refine VCode.st cxOK ?_
 refine VIf.mk (fun hlt => ?_) (fun hge => ?_)
 rotate_left
 ·have : i = ps.length := by have := ge_of_dec hge; omega
  subst this
  refine VFz.mk fun x Bx M2 hM2 hx => ?_
  exact VFact.mk ⟨x, rfl, hx⟩ trivial
 have hlt : i < ps.length := lt_of_dec hlt
 have hmod : (i + 1) % ps.length < ps.length := Nat.mod_lt _ (by omega)
 obtain ⟨a1, e1, r1⟩ := hrd M1 hM1 i hlt
 obtain ⟨a2, e2, r2⟩ := hrd M1 hM1 ((i + 1) % ps.length) hmod
 have pa := hP _ (gp_mem hlt)
 have pb : placeB (nx ps i) = true := hP _ (gp_mem hmod)
 refine VCode.seq (VCode.block ?_)
 refine VCode.st cxOK ?_
 refine VIdx.mk a1 i e1 rfl hlt ?_
 refine VReads.mk [.int .i64 (gp ps i).1, .int .i64 (gp ps i).2] rfl r1 ?_
 refine VCode.st cxOK ?_
 refine VArith.ok (by first | omega | (simp only; omega)) (by first | omega | (simp only; omega)) ?_
 refine VDiv.mk (by omega) ?_
 refine VIdx.mk a2 ((i + 1) % ps.length) e2 (by rw [Int.tmod_eq_emod_of_nonneg (by omega)]; simp) hmod ?_
 refine VReads.mk [.int .i64 (nx ps i).1, .int .i64 (nx ps i).2] rfl r2 ?_
 refine VCode.seq (VCode.of_vc cxOK ?_)
 refine VCode.block ?_
 refine VCode.loopC (Nat × Mem) (fun (⟨j, M2⟩ : Nat × Mem) => ⟨[(0, .v (.slice ad ps.length c)), (1, .v (.slice bd qs.length bc)), (5, .row 0), (6, .v (.int .i64 i)), (7, .box 1 0), (8, .box 2 0), (9, .v (.int .i64 j))], [(0, some (.row 44 2 (crosR ps qs i ++ rowR ps qs i j).length (cellsP (crosR ps qs i ++ rowR ps qs i j)))), (1, some (.box 44 [.v (.int .i64 (gp ps i).1), .v (.int .i64 (gp ps i).2)])), (2, some (.box 44 [.v (.int .i64 (nx ps i).1), .v (.int .i64 (nx ps i).2)]))], 3, M2, 84, ⟨fun _ => none, none, fun _ => none⟩⟩)
  (fun (⟨j, M2⟩ : Nat × Mem) => M.le M2 ∧ j ≤ qs.length) (fun (⟨j, _⟩ : Nat × Mem) => qs.length - j) (0, M1) ⟨hM1, Nat.zero_le _⟩ ?_ ?_
 ·have e : crosR ps qs i ++ rowR ps qs i 0 = crosR ps qs i := by unfold rowR; simp
  simp only [e]
  exact (Wk.mk' id (by repeat' constructor) (by repeat' constructor) (injOK_id _) rfl rfl rfl)
 rintro ⟨j, M2⟩ ⟨hM2, hj⟩ m2
 have hrl : (rowR ps qs i j).length ≤ 4 * j := by rw [rowR_len]; exact rowX_len ps qs i j
 have hall : (crosR ps qs i ++ rowR ps qs i j).length ≤ 2000 := by rw [List.length_append]; omega
 refine VCode.st cxOK ?_
 refine VIf.mk (fun hlj => ?_) (fun hgj => ?_)
 rotate_left
 ·have : j = qs.length := by have := ge_of_dec hgj; omega
  subst this
  refine VCode.of_vc cxOK ?_
  refine VArith.ok (by first | omega | (simp only; omega)) (by first | omega | (simp only; omega)) ?_
  have e : crosR ps qs i ++ rowR ps qs i qs.length = crosR ps qs (i + 1) := (crosR_step ps qs i).symm
  refine ⟨(i + 1, M2), ⟨hM2, hlt⟩, (by first | omega | (simp only; omega)), Wk.mk' id (by repeat' constructor) ⟨⟨rfl, ⟨rfl, rfl, ?_, ?_⟩⟩, trivial⟩ (injOK_id _) rfl rfl rfl⟩
  ·rw [e]
  ·rw [e]
 have hlj : j < qs.length := lt_of_dec hlj
 have hmodj : (j + 1) % qs.length < qs.length := Nat.mod_lt _ (by omega)
 obtain ⟨b1, f1, s1⟩ := hrd' M2 hM2 j hlj
 obtain ⟨b2, f2, s2⟩ := hrd' M2 hM2 ((j + 1) % qs.length) hmodj
 have qa := hQ _ (gp_mem hlj)
 have qb : placeB (nx qs j) = true := hQ _ (gp_mem hmodj)
 have k1 := crossP_bd2 pa pb qa
 have k2 := crossP_bd2 pa pb qb
 have hst : crosR ps qs i ++ rowR ps qs i (j + 1) = (crosR ps qs i ++ rowR ps qs i j) ++ cellR ps qs i j := by rw [rowR_step, List.append_assoc]
 refine VCode.seq (VCode.block ?_)
 refine VCode.st cxOK ?_
 refine VIdx.mk b1 j f1 rfl hlj ?_
 refine VReads.mk [.int .i64 (gp qs j).1, .int .i64 (gp qs j).2] rfl s1 ?_
 refine VCode.st cxOK ?_
 refine VArith.ok (by first | omega | (simp only; omega)) (by first | omega | (simp only; omega)) ?_
 refine VDiv.mk (by omega) ?_
 refine VIdx.mk b2 ((j + 1) % qs.length) f2 (by rw [Int.tmod_eq_emod_of_nonneg (by omega)]; simp) hmodj ?_
 refine VReads.mk [.int .i64 (nx qs j).1, .int .i64 (nx qs j).2] rfl s2 ?_
 refine VCode.st cxOK ?_
 refine VFn.p (crossR_fn (gp ps i) (nx ps i) (gp qs j) M2 pa pb qa) ?_
 refine VCode.st cxOK ?_
 refine VFn.p (crossR_fn (gp ps i) (nx ps i) (nx qs j) M2 pa pb qb) ?_
 refine VCode.st cxOK ?_
 refine VFn.p (differ04_fn _ _ M2) ?_
 refine VCode.st cxOK ?_
 refine VDraw.go (by kernel_rfl) ?_
 refine VFn.p (crossR_fn (gp qs j) (nx qs j) (gp ps i) M2 qa qb pa) ?_
 refine VFn.p (crossR_fn (gp qs j) (nx qs j) (nx ps i) M2 qa qb pb) ?_
 refine VFn.p (differ04_fn _ _ M2) ?_
 refine VCode.of_vc cxOK ?_
 by_cases hc : crossIJ ps qs i j = true
 ·have hk : cellR ps qs i j = frameR (gp qs j) (nx qs j) (crossP (gp ps i) (nx ps i) (gp qs j)) (crossP (gp ps i) (nx ps i) (nx qs j)) := by unfold cellR; rw [if_pos hc]
  have hc2 := hc
  unfold crossIJ at hc2
  rw [Bool.and_eq_true] at hc2
  refine VIf.mk (fun _ => ?_) (fun h => absurd (hc2.1.symm.trans h) (by decide))
  repeat (first | refine VIf.tt ?_ | refine VIf.ff ?_)
  refine VIf.mk (fun _ => ?_) (fun h => absurd (hc2.2.symm.trans h) (by decide))
  refine VFn.mk _ (frame04_fn (gp qs j) (nx qs j) _ _ M2 qa qb k1 k2 hc2.1) ?_
  rintro rs M3 hM3 ⟨u, rfl, hu⟩
  refine VSl.mk _ _ hu ?_
  have hb : ((crosR ps qs i ++ rowR ps qs i j).length + (frameR (gp qs j) (nx qs j) (crossP (gp ps i) (nx ps i) (gp qs j)) (crossP (gp ps i) (nx ps i) (nx qs j))).length) * 16 ≤ 140737488355328 := by show (_ + 4) * 16 ≤ _; omega
  refine VFact.mk hb ?_
  refine VCode.of_vc cxOK ?_
  refine VArith.ok (by first | omega | (simp only; omega)) (by first | omega | (simp only; omega)) ?_
  rw [hk] at hst
  refine ⟨(j + 1, M3), ⟨hM2.trans hM3, hlj⟩, (by first | omega | (simp only; omega)), Wk.mk' (fun k => if k = 0 then 5 else k) (by repeat' constructor) ⟨⟨rfl, ⟨rfl, rfl, ?_, ?_⟩⟩, ⟨rfl, by repeat' constructor⟩, ⟨rfl, by repeat' constructor⟩, trivial⟩ (by simp [injOK]) rfl rfl rfl⟩
  ·rw [hst, List.length_append (bs := frameR _ _ _ _)]
  ·rw [hst, cellsP_app _ (frameR _ _ _ _)]
 ·have hk : cellR ps qs i j = [] := by unfold cellR; rw [if_neg hc]
  rw [hk, List.append_nil] at hst
  have fin : ∀ {K : Prop}, K → K := fun h => h
  refine VIf.mk (fun h1 => ?_) (fun h1 => ?_)
  ·repeat (first | refine VIf.tt ?_ | refine VIf.ff ?_)
   refine VIf.mk (fun h2 => absurd (by unfold crossIJ; rw [h1, h2]; rfl) hc) (fun h2 => ?_)
   refine VCode.of_vc cxOK ?_
   refine VArith.ok (by first | omega | (simp only; omega)) (by first | omega | (simp only; omega)) ?_
   refine ⟨(j + 1, M2), ⟨hM2, hlj⟩, (by first | omega | (simp only; omega)), Wk.mk' id (by repeat' constructor) ⟨⟨rfl, ⟨rfl, rfl, ?_, ?_⟩⟩, ⟨rfl, by repeat' constructor⟩, ⟨rfl, by repeat' constructor⟩, trivial⟩ (injOK_id _) rfl rfl rfl⟩
   ·rw [hst]
   ·rw [hst]
  ·repeat (first | refine VIf.tt ?_ | refine VIf.ff ?_)
   refine VCode.of_vc cxOK ?_
   refine VArith.ok (by first | omega | (simp only; omega)) (by first | omega | (simp only; omega)) ?_
   refine ⟨(j + 1, M2), ⟨hM2, hlj⟩, (by first | omega | (simp only; omega)), Wk.mk' id (by repeat' constructor) ⟨⟨rfl, ⟨rfl, rfl, ?_, ?_⟩⟩, ⟨rfl, by repeat' constructor⟩, ⟨rfl, by repeat' constructor⟩, trivial⟩ (injOK_id _) rfl rfl rfl⟩
   ·rw [hst]
   ·rw [hst]
def bothR (p q : List Pt) : List Pt := cornA p q ++ (cornA q p ++ crosR p q p.length)
theorem bothR_len (p q : List Pt) : (bothR p q).length = (sharA p q).length := by
 unfold bothR sharA crosA
 simp only [List.length_append, crosR_len]
theorem mem_bothR {p q : List Pt} {y : Pt} : y ∈ bothR p q ↔ y ∈ sharA p q := by
 unfold bothR sharA crosA
 simp only [List.mem_append, mem_crosR]
theorem both04_fn (v w : Value) (ps qs : List Pt) (M : Mem) (hv : Pts M v ps) (hw : Pts M w qs) (hp : validB ps = true) (hq : validB qs = true) (hl2 : qs.length ≤ 4) :
  V.Fn Tryz.prog 155 [v, w] M fun rs M' => ∃ u, rs = [u] ∧ Pts M' u (bothR ps qs) := by
 have hlp := (len_one hp).2
 have c1 := List.length_filter_le (hasB qs) ps
 have c2 := List.length_filter_le (hasB ps) qs
 have c3 := crosX_len4 ps qs hl2 ps.length
 rw [← crosR_len] at c3
 refine Fn.of_vc cxOK Tryz.func155 rfl rfl rfl ?_
 refine VFn.mk _ (CornersR_fn v w ps qs M hv hw (allC_valid hp) (by omega) (allC_valid hq)) ?_
 rintro rs M1 hM1 ⟨u1, rfl, h1⟩
 refine VSl.mk _ _ h1 ?_
 refine VFact.mk (show (ps.filter (hasB qs)).length * 16 ≤ 140737488355328 by omega) ?_
 refine VFn.mk _ (CornersR_fn w v qs ps M1 (hw.le hM1) (hv.le hM1) (allC_valid hq) (by omega) (allC_valid hp)) ?_
 rintro rs M2 hM2 ⟨u2, rfl, h2⟩
 refine VSl.mk _ _ h2 ?_
 refine VFact.mk (show ((ps.filter (hasB qs)).length + (qs.filter (hasB ps)).length) * 16 ≤ 140737488355328 by omega) ?_
 refine VFn.mk _ (Crossings04_fn v w ps qs M2 (hv.le (hM1.trans hM2)) (hw.le (hM1.trans hM2)) (valid_mem hp) (valid_mem hq) hlp hl2) ?_
 rintro rs M3 hM3 ⟨u3, rfl, h3⟩
 refine VSl.mk _ _ h3 ?_
 refine VFact.mk (show ((ps.filter (hasB qs)).length + (qs.filter (hasB ps)).length + (crosR ps qs ps.length).length) * 16 ≤ 140737488355328 by omega) ?_
 refine VFz.mk fun x Bx M4 hM4 hx => ?_
 refine VFact.mk ⟨x, rfl, ?_⟩ trivial
 have e1 : (bothR ps qs).length = (ps.filter (hasB qs)).length + (qs.filter (hasB ps)).length + (crosR ps qs ps.length).length := by
  unfold bothR cornA; simp only [List.length_append]; omega
 have e2 : cellsP (bothR ps qs) = cellsP (ps.filter (hasB qs)) ++ cellsP (qs.filter (hasB ps)) ++ cellsP (crosR ps qs ps.length) := by
  unfold bothR cornA; simp only [cellsP_app, List.append_assoc]
 unfold Pts
 rw [e1, e2]
 exact hx
theorem Met04_fn (v w : Value) (ps qs : List Pt) (M : Mem) (hv : Pts M v ps) (hw : Pts M w qs) (hp : validB ps = true) (hq : validB qs = true) (hl2 : qs.length ≤ 4) :
  V.Fn Tryz.prog 115 [v, w] M fun rs M' => ∃ u, rs = [u, .bool (decide (0 < (sharA ps qs).length))] ∧ Pts M' u (arC (sharA ps qs)) := by
 have hlp := (len_one hp).2
 have c1 := List.length_filter_le (hasB qs) ps
 have c2 := List.length_filter_le (hasB ps) qs
 have c3 := crosX_len4 ps qs hl2 ps.length
 rw [← crosR_len] at c3
 have hlen : (bothR ps qs).length ≤ 4000 := by unfold bothR cornA; simp only [List.length_append]; omega
 refine Fn.of_vc cxOK Tryz.func115 rfl rfl rfl ?_
 refine VFn.mk _ (both04_fn v w ps qs M hv hw hp hq hl2) ?_
 rintro rs M1 hM1 ⟨u, rfl, hu⟩
 refine VFn.mk _ (polygon04_fn u _ M1 hu (fun x hx => shar_place hp x (mem_bothR.1 hx)) hlen) ?_
 rintro rs M2 hM2 ⟨x, rfl, hx⟩
 refine VFact.mk ⟨x, ?_, ?_⟩ trivial
 ·rw [bothR_len]
 ·rw [← arC_congr (fun x => mem_bothR) (bothR_len ps qs)]; exact hx
end Go.Proofs.YtcdlplobniogpaaGreat
namespace Go.Proofs.YtcdlplobniogpaaGreat
open Go Go.V Go.RowKit
set_option maxRecDepth 20000 in
set_option maxHeartbeats 8000000 in
theorem Out_fn (v : Value) (r : List (List Pt)) (lo hi : Pt) (M : Mem) (hv : RegV M v r) : V.Fn Tryz.prog 69 [v, ptv lo, ptv hi] M fun rs M' => if outOK r lo hi = true then ∃ u, rs = [u, .int .i64 0] ∧ RegV M' u (withoutB r lo hi) else rs = [.slice none 0 0, .int .i64 1] := by
 have hVr := regValid_fn v r M hv
 obtain ⟨ad, c, rfl, hm, hrd⟩ := hv.get
 refine Fn.of_vc cxOK Tryz.func69 rfl rfl rfl ?_
 refine VFn.mk _ hVr ?_
 rintro rs M1 hM1 rfl
 refine VIf.mk (fun h => ?_) (fun h1 => ?_)
 ·repeat (first | refine VIf.tt ?_ | refine VIf.ff ?_)
  exact VFact.mk (by unfold outOK; rw [bn1 h]; rfl) trivial
 have h1 := bn2 h1
 repeat (first | refine VIf.tt ?_ | refine VIf.ff ?_)
 refine VFn.p (regPlace_fn _ _ _) ?_
 repeat (first | refine VIf.tt ?_ | refine VIf.ff ?_)
 refine VIf.mk (fun h => ?_) (fun h2 => ?_)
 ·repeat (first | refine VIf.tt ?_ | refine VIf.ff ?_)
  exact VFact.mk (by unfold outOK; rw [show placeB lo = false from bn1 h, Bool.false_and, Bool.and_false]; rfl) trivial
 have h2 : placeB lo = true := bn2 h2
 repeat (first | refine VIf.tt ?_ | refine VIf.ff ?_)
 refine VFn.p (regPlace_fn _ _ _) ?_
 repeat (first | refine VIf.tt ?_ | refine VIf.ff ?_)
 refine VIf.mk (fun h => ?_) (fun h3 => ?_)
 ·repeat (first | refine VIf.tt ?_ | refine VIf.ff ?_)
  exact VFact.mk (by unfold outOK; rw [show placeB hi = false from bn1 h, Bool.false_and, Bool.and_false, Bool.and_false]; rfl) trivial
 have h3 : placeB hi = true := bn2 h3
 repeat (first | refine VIf.tt ?_ | refine VIf.ff ?_)
 refine VIf.mk (fun h => ?_) (fun h4 => ?_)
 ·repeat (first | refine VIf.tt ?_ | refine VIf.ff ?_)
  exact VFact.mk (by unfold outOK; rw [decide_eq_false (show ¬ lo.1 ≤ hi.1 by have := of_decide_eq_true h; omega), Bool.false_and, Bool.and_false, Bool.and_false, Bool.and_false]; rfl) trivial
 have h4 : lo.1 ≤ hi.1 := by have := of_decide_eq_false h4; omega
 repeat (first | refine VIf.tt ?_ | refine VIf.ff ?_)
 refine VIf.mk (fun h => ?_) (fun h5 => ?_)
 ·exact VFact.mk (by unfold outOK; rw [decide_eq_false (show ¬ lo.2 ≤ hi.2 by have := of_decide_eq_true h; omega), Bool.and_false, Bool.and_false, Bool.and_false, Bool.and_false]; rfl) trivial
 have h5 : lo.2 ≤ hi.2 := by have := of_decide_eq_false h5; omega
 have hok : outOK r lo hi = true := by unfold outOK; rw [h1, h2, h3, decide_eq_true h4, decide_eq_true h5]; rfl
 rw [hok]
 have cl := place_C h2
 have ch := place_C h3
 unfold isC at cl ch
 have hall : ∀ p ∈ r, validB p = true := by
  simp only [regionB, Bool.and_eq_true] at h1
  exact fun p hp => List.all_eq_true.1 h1.2 p hp
 have hr32 : r.length ≤ 32 := by
  simp only [regionB, Bool.and_eq_true, decide_eq_true_eq] at h1
  exact h1.1
 have ql := fun i => flatMap_len (outP lo hi) 4 (fun p => outP_len p lo hi) (r.take i)
 refine VCode.loopC (Nat × List Value × Mem) (fun (⟨i, xs, M2⟩ : Nat × List Value × Mem) => ⟨[(4, .box 0 0), (5, .box 1 0), (8, .box 2 0), (43, .v (.slice ad r.length c)), (44, .v (.int .i64 r.length)), (45, .v (.int .i64 i))], [(0, some (.box 44 [.v (.int .i64 lo.1), .v (.int .i64 lo.2)])), (1, some (.box 44 [.v (.int .i64 hi.1), .v (.int .i64 hi.2)])), (2, some (.box 121 [.row 3])), (3, some (.row 64 1 xs.length xs))], 4, M2, 119, ⟨fun _ => none, none, fun _ => none⟩⟩)
  (fun (⟨i, xs, M2⟩ : Nat × List Value × Mem) => (M1.le M2 ∧ i ≤ r.length) ∧ PlsV M2 xs ((r.take i).flatMap (outP lo hi))) (fun (⟨i, _, _⟩ : Nat × List Value × Mem) => r.length - i) (0, [], M1) ⟨⟨Mem.le_refl _, Nat.zero_le _⟩, PlsV.nil _⟩ (Wk.nilBox 2 121 [] [] 64 1 rfl (Wk.mk' id (by repeat' constructor) (by repeat' constructor) (injOK_id _) rfl rfl rfl)) ?_
 rintro ⟨i, xs, M2⟩ ⟨⟨hM2, hi'⟩, hp⟩ m
 have hxl : xs.length ≤ 128 := by have := ql i; rw [hp.1]; rw [List.length_take] at this; omega
 have m2 := hM1.trans hM2
 refine VCode.st cxOK ?_
 refine VCode.st cxOK ?_
 refine VIf.mk (fun hlt => ?_) (fun hge => ?_)
 rotate_left
 ·have : i = r.length := by have := ge_of_dec hge; omega
  subst this
  rw [List.take_length] at hp
  refine VOwn.frz ?_
  refine VFz.mk fun x Bx M3 hM3 hx => ?_
  refine VFzB.mk fun y By M4 hM4 hy => ?_
  have hx2 := RegV.of' hx hp.1 (hp.le hM3)
  obtain ⟨xa, xc, rfl⟩ := hx2.shape
  have ql' := ql r.length
  rw [List.take_length] at ql'
  refine VFn.mk _ (tidied_fn By _ _ M4 hy (hx2.le hM4) (fun p hp => ?_) (by omega)) ?_
  ·obtain ⟨q, hq, hp⟩ := List.mem_flatMap.1 hp
   exact outP_valid (hall q hq) lo hi p hp
  rintro rs M5 hM5 ⟨u, rfl, hu⟩
  exact VFact.mk ⟨u, rfl, hu⟩ trivial
 have hlt : i < r.length := lt_of_dec hlt
 obtain ⟨a1, w, e1, p1, q1, c1⟩ := hrd M2 m2 i hlt
 have hV : validB (gr r i) = true := val_gr hall hlt
 have p1 : Pts M2 w (gr r i) := p1
 have hst : (r.take (i + 1)).flatMap (outP lo hi) = (r.take i).flatMap (outP lo hi) ++ outP lo hi (gr r i) := flatR_take [] (outP lo hi) r hlt
 have q1 : i64P (gr r i) := q1
 generalize gr r i = p at *
 refine VCode.seq (VCode.block ?_)
 refine VCode.st cxOK ?_
 refine VIdx.mk a1 i e1 rfl hlt ?_
 refine VRead.mk w c1 ?_
 refine VCode.st cxOK ?_
 refine VArith.ok (by first | omega | (simp only; omega)) (by first | omega | (simp only; omega)) ?_
 refine VFn.mk _ (Cut_is (A := 1) (B := 0) (C := lo.1 - 1) p1 q1 hV (half_x _ (by omega)).1 rfl rfl) ?_
 rintro rs M3 hM3 ⟨u1, rfl, hu1⟩
 obtain ⟨d1, k1, rfl⟩ := hu1.shape
 refine VOwn.own ?_
 refine VCall.wk (st1 := ⟨[(4, .box 0 0), (5, .box 1 0), (8, .box 2 0), (10, .v w), (43, .v (.slice ad r.length c)), (44, .v (.int .i64 r.length)), (45, .v (.int .i64 i))], [(0, some (.box 44 [.v (.int .i64 lo.1), .v (.int .i64 lo.2)])), (1, some (.box 44 [.v (.int .i64 hi.1), .v (.int .i64 hi.2)])), (2, some (.box 121 [.row 3])), (3, some (.row 64 1 xs.length xs))], 4, M3, 119, ⟨m, none, _⟩⟩) (args1 := [.box 2 0, .v (.slice d1 (arC (cutA p 1 0 (lo.1 - 1))).length k1), .v (.bool (decide (0 < (cutA p 1 0 (lo.1 - 1)).length))), .v (.int .i64 0)]) id rfl rfl (by repeat' constructor) (by repeat' constructor) (injOK_id _) rfl rfl rfl ?_
 refine add_call0 rfl rfl (by omega) ?_
 have P1 := add_pls (hp.le hM3) hu1 (cut_place hV 1 0 (lo.1 - 1))
 have L1 := addL_len (decide (0 < (cutA p 1 0 (lo.1 - 1)).length)) xs (.slice d1 (arC (cutA p 1 0 (lo.1 - 1))).length k1)
 generalize hX1 : addL (decide (0 < (cutA p 1 0 (lo.1 - 1)).length)) xs (.slice d1 (arC (cutA p 1 0 (lo.1 - 1))).length k1) = xs1 at *
 refine VCode.st cxOK ?_
 refine VArith.ok (by first | omega | (simp only; omega)) (by first | omega | (simp only; omega)) ?_
 refine VArith.ok (by first | omega | (simp only; omega)) (by first | omega | (simp only; omega)) ?_
 refine VFn.mk _ (Cut_is (A := -1) (B := 0) (C := -(hi.1 + 1)) (p1.le hM3) q1 hV (half_x _ (by omega)).2.1 rfl rfl) ?_
 rintro rs M4 hM4 ⟨u2, rfl, hu2⟩
 obtain ⟨d2, k2, rfl⟩ := hu2.shape
 refine VOwn.own ?_
 refine VCall.wk (st1 := ⟨[(4, .box 0 0), (5, .box 1 0), (8, .box 2 0), (10, .v w), (43, .v (.slice ad r.length c)), (44, .v (.int .i64 r.length)), (45, .v (.int .i64 i))], [(0, some (.box 44 [.v (.int .i64 lo.1), .v (.int .i64 lo.2)])), (1, some (.box 44 [.v (.int .i64 hi.1), .v (.int .i64 hi.2)])), (2, some (.box 121 [.row 3])), (3, some (.row 64 1 xs1.length xs1))], 4, M4, 119, ⟨m, none, _⟩⟩) (args1 := [.box 2 0, .v (.slice d2 (arC (cutA p (-1) 0 (-(hi.1 + 1)))).length k2), .v (.bool (decide (0 < (cutA p (-1) 0 (-(hi.1 + 1))).length))), .v (.int .i64 0)]) id rfl rfl (by repeat' constructor) (by repeat' constructor) (injOK_id _) rfl rfl rfl ?_
 refine add_call0 rfl rfl (by omega) ?_
 have P2 := add_pls (P1.le hM4) hu2 (cut_place hV (-1) 0 (-(hi.1 + 1)))
 have L2 := addL_len (decide (0 < (cutA p (-1) 0 (-(hi.1 + 1))).length)) xs1 (.slice d2 (arC (cutA p (-1) 0 (-(hi.1 + 1)))).length k2)
 generalize hX2 : addL (decide (0 < (cutA p (-1) 0 (-(hi.1 + 1))).length)) xs1 (.slice d2 (arC (cutA p (-1) 0 (-(hi.1 + 1)))).length k2) = xs2 at *
 refine VCode.st cxOK ?_
 refine VArith.ok (by first | omega | (simp only; omega)) (by first | omega | (simp only; omega)) ?_
 refine VFn.mk _ (Cut_is (A := -1) (B := 0) (C := -lo.1) (p1.le (hM3.trans hM4)) q1 hV (half_x _ (by omega)).2.1 rfl rfl) ?_
 rintro rs M5 hM5 ⟨u3, rfl, hu3⟩
 have n5 := hM3.trans (hM4.trans hM5)
 have e3 := leftL_one p (-1) 0 (-lo.1)
 refine VCode.st cxOK ?_
 refine VIf.mk (fun hz => ?_) (fun hz => ?_)
 ·have hz : cutA p (-1) 0 (-lo.1) = [] := List.eq_nil_of_length_eq_zero (by have := of_decide_eq_false ((Bool.not_eq_true' _).mp hz); omega)
  refine VCode.of_vc cxOK ?_
  refine VArith.ok (by first | omega | (simp only; omega)) (by first | omega | (simp only; omega)) ?_
  refine ⟨(i + 1, xs2, M5), ⟨⟨hM2.trans n5, hlt⟩, ?_⟩, (by first | omega | (simp only; omega)), (Wk.mk' id (by repeat' constructor) (by repeat' constructor) (injOK_id _) rfl rfl rfl)⟩
  rw [hst]
  have : midL p lo hi = [] := by unfold midL; rw [e3, hz]; rfl
  unfold outP
  rw [this, leftL_one, leftL_one, leftL_nil, leftL_nil]
  simp only [List.append_nil]
  rw [← List.append_assoc]
  exact P2.le hM5
 have hz : cutA p (-1) 0 (-lo.1) ≠ [] := fun e => by rw [e] at hz; exact absurd hz (by decide)
 have hV3 := arC_valid hz (cut_place hV (-1) 0 (-lo.1))
 have e3 : leftL [p] (-1) 0 (-lo.1) = [arC (cutA p (-1) 0 (-lo.1))] := by rw [e3]; unfold optL; rw [if_neg hz]
 refine VCode.st cxOK ?_
 refine VFn.mk _ (Cut_is (A := 1) (B := 0) (C := hi.1) hu3 (valid_64 hV3) hV3 (half_x _ (by omega)).1 rfl rfl) ?_
 rintro rs M6 hM6 ⟨u4, rfl, hu4⟩
 have n6 := n5.trans hM6
 have e4 := leftL_one (arC (cutA p (-1) 0 (-lo.1))) 1 0 hi.1
 refine VCode.of_vc cxOK ?_
 refine VIf.mk (fun hy => ?_) (fun hy => ?_)
 rotate_left
 ·have hy : cutA (arC (cutA p (-1) 0 (-lo.1))) 1 0 hi.1 = [] := List.eq_nil_of_length_eq_zero (by have := of_decide_eq_false hy; omega)
  refine VCode.of_vc cxOK ?_
  refine VArith.ok (by first | omega | (simp only; omega)) (by first | omega | (simp only; omega)) ?_
  refine ⟨(i + 1, xs2, M6), ⟨⟨hM2.trans n6, hlt⟩, ?_⟩, (by first | omega | (simp only; omega)), (Wk.mk' id (by repeat' constructor) (by repeat' constructor) (injOK_id _) rfl rfl rfl)⟩
  rw [hst]
  have : midL p lo hi = [] := by unfold midL; rw [e3, e4, hy]; rfl
  unfold outP
  rw [this, leftL_one, leftL_one, leftL_nil, leftL_nil]
  simp only [List.append_nil]
  rw [← List.append_assoc]
  exact P2.le (hM5.trans hM6)
 have hy : cutA (arC (cutA p (-1) 0 (-lo.1))) 1 0 hi.1 ≠ [] := fun e => by rw [e] at hy; exact absurd hy (by decide)
 have hV4 := arC_valid hy (cut_place hV3 1 0 hi.1)
 have em : midL p lo hi = [arC (cutA (arC (cutA p (-1) 0 (-lo.1))) 1 0 hi.1)] := by unfold midL; rw [e3, e4]; unfold optL; rw [if_neg hy]
 generalize arC (cutA (arC (cutA p (-1) 0 (-lo.1))) 1 0 hi.1) = q at *
 obtain ⟨d4, k4, rfl⟩ := hu4.shape
 refine VArith.ok (by first | omega | (simp only; omega)) (by first | omega | (simp only; omega)) ?_
 refine VFn.mk _ (Cut_is (A := 0) (B := 1) (C := lo.2 - 1) hu4 (valid_64 hV4) hV4 (half_x _ (by omega)).2.2.1 rfl rfl) ?_
 rintro rs M7 hM7 ⟨u5, rfl, hu5⟩
 obtain ⟨d5, k5, rfl⟩ := hu5.shape
 refine VOwn.own ?_
 refine VCall.wk (st1 := ⟨[(4, .box 0 0), (5, .box 1 0), (8, .box 2 0), (14, .v (.slice d4 q.length k4)), (43, .v (.slice ad r.length c)), (44, .v (.int .i64 r.length)), (45, .v (.int .i64 i))], [(0, some (.box 44 [.v (.int .i64 lo.1), .v (.int .i64 lo.2)])), (1, some (.box 44 [.v (.int .i64 hi.1), .v (.int .i64 hi.2)])), (2, some (.box 121 [.row 3])), (3, some (.row 64 1 xs2.length xs2))], 4, M7, 119, ⟨m, none, _⟩⟩) (args1 := [.box 2 0, .v (.slice d5 (arC (cutA q 0 1 (lo.2 - 1))).length k5), .v (.bool (decide (0 < (cutA q 0 1 (lo.2 - 1)).length))), .v (.int .i64 0)]) id rfl rfl (by repeat' constructor) (by repeat' constructor) (injOK_id _) rfl rfl rfl ?_
 refine add_call1 rfl rfl (by omega) ?_
 have P3 := add_pls (P2.le (hM5.trans (hM6.trans hM7))) hu5 (cut_place hV4 0 1 (lo.2 - 1))
 have L3 := addL_len (decide (0 < (cutA q 0 1 (lo.2 - 1)).length)) xs2 (.slice d5 (arC (cutA q 0 1 (lo.2 - 1))).length k5)
 generalize hX3 : addL (decide (0 < (cutA q 0 1 (lo.2 - 1)).length)) xs2 (.slice d5 (arC (cutA q 0 1 (lo.2 - 1))).length k5) = xs3 at *
 refine VArith.ok (by first | omega | (simp only; omega)) (by first | omega | (simp only; omega)) ?_
 refine VArith.ok (by first | omega | (simp only; omega)) (by first | omega | (simp only; omega)) ?_
 refine VFn.mk _ (Cut_is (A := 0) (B := -1) (C := -(hi.2 + 1)) (hu4.le hM7) (valid_64 hV4) hV4 (half_x _ (by omega)).2.2.2 rfl rfl) ?_
 rintro rs M8 hM8 ⟨u6, rfl, hu6⟩
 obtain ⟨d6, k6, rfl⟩ := hu6.shape
 refine VOwn.own ?_
 refine VCall.wk (st1 := ⟨[(4, .box 0 0), (5, .box 1 0), (8, .box 2 0), (14, .v (.slice d4 q.length k4)), (43, .v (.slice ad r.length c)), (44, .v (.int .i64 r.length)), (45, .v (.int .i64 i))], [(0, some (.box 44 [.v (.int .i64 lo.1), .v (.int .i64 lo.2)])), (1, some (.box 44 [.v (.int .i64 hi.1), .v (.int .i64 hi.2)])), (2, some (.box 121 [.row 3])), (3, some (.row 64 1 xs3.length xs3))], 4, M8, 119, ⟨m, none, _⟩⟩) (args1 := [.box 2 0, .v (.slice d6 (arC (cutA q 0 (-1) (-(hi.2 + 1)))).length k6), .v (.bool (decide (0 < (cutA q 0 (-1) (-(hi.2 + 1))).length))), .v (.int .i64 0)]) id rfl rfl (by repeat' constructor) (by repeat' constructor) (injOK_id _) rfl rfl rfl ?_
 refine add_call1 rfl rfl (by omega) ?_
 have P4 := add_pls (P3.le hM8) hu6 (cut_place hV4 0 (-1) (-(hi.2 + 1)))
 generalize hX4 : addL (decide (0 < (cutA q 0 (-1) (-(hi.2 + 1))).length)) xs3 (.slice d6 (arC (cutA q 0 (-1) (-(hi.2 + 1)))).length k6) = xs4 at *
 refine VCode.of_vc cxOK ?_
 refine VArith.ok (by first | omega | (simp only; omega)) (by first | omega | (simp only; omega)) ?_
 refine ⟨(i + 1, xs4, M8), ⟨⟨hM2.trans (n6.trans (hM7.trans hM8)), hlt⟩, ?_⟩, (by first | omega | (simp only; omega)), (Wk.mk' id (by repeat' constructor) (by repeat' constructor) (injOK_id _) rfl rfl rfl)⟩
 rw [hst]
 have eo : outP lo hi p = leftL [p] 1 0 (lo.1 - 1) ++ (leftL [p] (-1) 0 (-(hi.1 + 1)) ++ (leftL (midL p lo hi) 0 1 (lo.2 - 1) ++ leftL (midL p lo hi) 0 (-1) (-(hi.2 + 1)))) := rfl
 rw [eo, em, leftL_one, leftL_one, leftL_one, leftL_one]
 simp only [← List.append_assoc]
 exact P4
end Go.Proofs.YtcdlplobniogpaaGreat
namespace Go.Proofs.YtcdlplobniogpaaGreat
open Go Go.V Go.RowKit
theorem int_eq2 {k i : Nat} : ((k : Int) == (i : Int)) = decide (k = i) := by rw [Bool.eq_iff_iff]; simp; omega
set_option maxHeartbeats 2000000 in
theorem covered07_fn (v : Value) (l : List (List Pt)) (i : Nat) (M : Mem) (hv : RegV M v l) (hV : ∀ p ∈ l, validB p = true) (hi : i < l.length) :
  V.Fn Tryz.prog 71 [v, .int .i64 i] M fun rs _ => rs = [.bool (covB l i)] := by
 obtain ⟨ad, c, rfl, hm, hrd⟩ := hv.get
 refine Fn.of_vc cxOK Tryz.func71 rfl rfl rfl ?_
 refine VCode.loopC (Nat × Mem) (fun (⟨k, M1⟩ : Nat × Mem) => ⟨[(0, .v (.slice ad l.length c)), (1, .v (.int .i64 i)), (5, .v (.int .i64 k))], [], 0, M1, 45, ⟨fun _ => none, none, fun _ => none⟩⟩)
  (fun (⟨k, M1⟩ : Nat × Mem) => (M.le M1 ∧ k ≤ l.length) ∧ ∀ j, j < k → covIK l i j = false) (fun (⟨k, _⟩ : Nat × Mem) => l.length - k) (0, M) ⟨⟨Mem.le_refl _, Nat.zero_le _⟩, fun j hj => absurd hj (Nat.not_lt_zero _)⟩ (Wk.mk' id (by repeat' constructor) (by repeat' constructor) (injOK_id _) rfl rfl rfl) ?_
 rintro ⟨k, M1⟩ ⟨⟨hM1, hk⟩, hz⟩ m
 refine VCode.st cxOK ?_
 refine VIf.mk (fun hlt => ?_) (fun hge => ?_)
 rotate_left
 ·have : k = l.length := by have := ge_of_dec hge; omega
  subst this
  refine VFact.mk ?_ trivial
  rw [covB_no hz]
 have hlt : k < l.length := lt_of_dec hlt
 obtain ⟨a1, w1, e1, p1, q1, c1⟩ := hrd M1 hM1 k hlt
 obtain ⟨a2, w2, e2, p2, q2, c2⟩ := hrd M1 hM1 i hi
 have hVi := val_gr hV hi
 have hVk := val_gr hV hlt
 refine VCode.seq (VCode.block ?_)
 refine VCode.st cxOK ?_
 refine VIf.mk (fun he => ?_) (fun he => ?_)
 ·rw [int_eq2] at he
  have he := of_decide_eq_true he
  refine VCode.of_vc cxOK ?_
  refine VArith.ok (by first | omega | (simp only; omega)) (by first | omega | (simp only; omega)) ?_
  refine ⟨(k + 1, M1), ⟨⟨hM1, hlt⟩, fun j hj => ?_⟩, (by first | omega | (simp only; omega)), (Wk.mk' id (by repeat' constructor) (by repeat' constructor) (injOK_id _) rfl rfl rfl)⟩
  by_cases ej : j = k
  ·subst ej
   unfold covIK
   rw [decide_eq_false (show ¬ j ≠ i from fun h => h he)]; rfl
  ·exact hz j (by omega)
 rw [int_eq2] at he
 have hne : decide (k ≠ i) = true := decide_eq_true (of_decide_eq_false he)
 refine VCode.st cxOK ?_
 refine VDraw.go (by kernel_rfl) ?_
 refine VIdx.mk a2 i e2 rfl hi ?_
 refine VRead.mk w2 c2 ?_
 refine VIdx.mk a1 k e1 rfl hlt ?_
 refine VRead.mk w1 c1 ?_
 refine VFn.mk _ (Lies_fn w2 w1 (gr l i) (gr l k) M1 p2 p1 (allC_valid hVi) (by have := (len_one hVi).2; omega) (allC_valid hVk)) ?_
 rintro rs M2 hM2 rfl
 have m2 := hM1.trans hM2
 have c3 := Mem.cell_le hM2 c2
 have c4 := Mem.cell_le hM2 c1
 refine VCode.st cxOK ?_
 refine VDraw.go (by kernel_rfl) ?_
 refine VIdx.mk a2 i e2 rfl hi ?_
 refine VRead.mk w2 c3 ?_
 refine VIdx.mk a1 k e1 rfl hlt ?_
 refine VRead.mk w1 c4 ?_
 refine VFn.p (Same_fn w2 w1 _ _ M2 (p2.le hM2) (p1.le hM2)) ?_
 refine VCode.of_vc cxOK ?_
 have done : covIK l i k = false → ∃ s' : Nat × Mem, s' = (k + 1, M2) ∧ ((M.le M2 ∧ k + 1 ≤ l.length) ∧ ∀ j, j < k + 1 → covIK l i j = false) := fun hc => ⟨_, rfl, ⟨m2, hlt⟩, fun j hj => by
  by_cases ej : j = k
  ·subst ej; exact hc
  ·exact hz j (by omega)⟩
 refine VIf.mk (fun hw => ?_) (fun hw => ?_)
 rotate_left
 ·repeat (first | refine VIf.tt ?_ | refine VIf.ff ?_)
  have hw : withinB (gr l i) (gr l k) = false := hw
  obtain ⟨_, _, hpf⟩ := done (by unfold covIK; rw [hw, Bool.and_false, Bool.false_and])
  refine VCode.of_vc cxOK ?_
  refine VArith.ok (by first | omega | (simp only; omega)) (by first | omega | (simp only; omega)) ?_
  exact ⟨(k + 1, M2), hpf, (by first | omega | (simp only; omega)), (Wk.mk' id (by repeat' constructor) (by repeat' constructor) (injOK_id _) rfl rfl rfl)⟩
 repeat (first | refine VIf.tt ?_ | refine VIf.ff ?_)
 have hw : withinB (gr l i) (gr l k) = true := hw
 refine VIf.mk (fun hs => ?_) (fun hs => ?_)
 ·repeat (first | refine VIf.tt ?_ | refine VIf.ff ?_)
  have hs : (!decide (gr l i = gr l k)) = true := hs
  refine VFact.mk ?_ trivial
  rw [covB_yes hlt (by unfold covIK; rw [hne, hw, hs, Bool.or_true]; rfl)]
 repeat (first | refine VIf.tt ?_ | refine VIf.ff ?_)
 have hs : (!decide (gr l i = gr l k)) = false := hs
 refine VIf.mk (fun hl => ?_) (fun hl => ?_)
 ·rw [int_lt] at hl
  refine VFact.mk ?_ trivial
  rw [covB_yes hlt (by unfold covIK; rw [hne, hw, hl]; rfl)]
 ·rw [int_lt] at hl
  obtain ⟨_, _, hpf⟩ := done (by unfold covIK; rw [hl, hs, Bool.or_false, Bool.and_false])
  refine VCode.of_vc cxOK ?_
  refine VArith.ok (by first | omega | (simp only; omega)) (by first | omega | (simp only; omega)) ?_
  exact ⟨(k + 1, M2), hpf, (by first | omega | (simp only; omega)), (Wk.mk' id (by repeat' constructor) (by repeat' constructor) (injOK_id _) rfl rfl rfl)⟩
def restL (r : List (List Pt)) (k : Nat) : List Pt := ((r.drop 31).take k).flatten
theorem restL_step (r : List (List Pt)) {k : Nat} (h : 31 + k < r.length) : restL r (k + 1) = restL r k ++ gr r (31 + k) := by
 have : (r.drop 31)[k]? = some (gr r (31 + k)) := by rw [List.getElem?_drop]; unfold gr; simp [h]
 unfold restL
 rw [List.take_add_one, this, List.flatten_append]
 simp
theorem restL_len {r : List (List Pt)} (hV : ∀ p ∈ r, validB p = true) : ∀ k, 31 + k ≤ r.length → (restL r k).length ≤ 64 * k
 | 0, _ => by simp [restL]
 | k + 1, h => by
  have h1 := restL_len hV k (by omega)
  have h2 := (len_one (hV _ (gr_mem (show 31 + k < r.length by omega)))).2
  rw [restL_step r (by omega), List.length_append]; omega
set_option maxRecDepth 20000 in
set_option maxHeartbeats 4000000 in
theorem Tidied07_fn (v : Value) (l : List (List Pt)) (M : Mem) (hv : RegV M v l) (hV : ∀ p ∈ l, validB p = true) (hl : l.length ≤ 100000) :
  V.Fn Tryz.prog 43 [v] M fun rs M' => ∃ u, rs = [u] ∧ RegV M' u (tidyB l) := by
 obtain ⟨ad, c, rfl, hm, hrd⟩ := hv.get
 refine Fn.of_vc cxOK Tryz.func43 rfl rfl rfl ?_
 refine VCode.loop cxOK (Nat × List Value × Mem) (fun (⟨i, xs, M1⟩ : Nat × List Value × Mem) => ⟨[(0, .v (.slice ad l.length c)), (3, .row 0), (4, .v (.int .i64 i))], [(0, some (.row 64 1 xs.length xs))], 1, M1, 50, ⟨fun _ => none, none, fun _ => none⟩⟩)
  (fun (⟨i, xs, M1⟩ : Nat × List Value × Mem) => (M.le M1 ∧ i ≤ l.length) ∧ PlsV M1 xs (keptL l i)) (fun (⟨i, _, _⟩ : Nat × List Value × Mem) => l.length - i) (0, [], M) ⟨⟨Mem.le_refl _, Nat.zero_le _⟩, PlsV.nil _⟩ (Wk.nil 3 64 1 rfl (Wk.mk' id (by repeat' constructor) (by repeat' constructor) (injOK_id _) rfl rfl rfl)) ?_
 rintro ⟨i, xs, M1⟩ ⟨⟨hM1, hi⟩, hp⟩ m
 have hxl : xs.length ≤ i := by rw [hp.1]; exact keptL_len l i
 refine VIf.mk (fun hlt => ?_) (fun hge => ?_)
 ·have hlt : i < l.length := lt_of_dec hlt
  refine VFn.mk _ (covered07_fn _ l i M1 (hv.le hM1) hV hlt) ?_
  rintro rs M2 hM2 rfl
  have hs := keptL_step l i
  refine VIf.mk (fun hc => ?_) (fun hc => ?_)
  ·have hc : covB l i = false := (Bool.not_eq_true' _).mp hc
   rw [hc] at hs
   have hV1 := val_gr hV hlt
   obtain ⟨a1, w1, e1, p1, q1, c1⟩ := hrd M2 (hM1.trans hM2) i hlt
   obtain ⟨ud, uc, rfl⟩ := p1.shape
   refine VIdx.mk a1 i e1 rfl hlt ?_
   refine VRead.mk _ c1 ?_
   have hb : (xs.length + 1) * 24 ≤ 140737488355328 := by omega
   refine VFact.mk hb ?_
   refine VArith.ok (by first | omega | (simp only; omega)) (by first | omega | (simp only; omega)) ?_
   refine ⟨(i + 1, xs ++ [.slice ud (l.getD i []).length uc], M2), ⟨⟨hM1.trans hM2, hlt⟩, ?_⟩, (by first | omega | (simp only; omega)), Wk.mk' (fun k => if k = 0 then 2 else k) (by repeat' constructor) ⟨⟨rfl, ⟨rfl, rfl, ?_, ?_⟩⟩, trivial⟩ (by simp [injOK]) rfl rfl rfl⟩
   ·rw [hs]; exact (hp.le hM2).snoc p1 q1
   ·rw [List.length_append]; rfl
   ·rfl
  ·have hc : covB l i = true := (Bool.not_eq_false' _).mp hc
   rw [hc] at hs
   refine VArith.ok (by first | omega | (simp only; omega)) (by first | omega | (simp only; omega)) ?_
   refine ⟨(i + 1, xs, M2), ⟨⟨hM1.trans hM2, hlt⟩, ?_⟩, (by first | omega | (simp only; omega)), (Wk.mk' id (by repeat' constructor) (by repeat' constructor) (injOK_id _) rfl rfl rfl)⟩
   rw [hs]
   simp only [if_true, List.append_nil]
   exact hp.le hM2
 have : i = l.length := by have := ge_of_dec hge; omega
 subst this
 have hp : PlsV M1 xs (keptA l) := hp
 refine VIf.mk (fun h32 => ?_) (fun h32 => ?_)
 ·have h32 : (keptA l).length ≤ 32 := by have := of_decide_eq_true h32; rw [← hp.1]; omega
  refine VFz.mk fun x Bx M2 hM2 hx => ?_
  refine VFact.mk ⟨x, rfl, ?_⟩ trivial
  unfold tidyB
  rw [if_pos h32]
  exact RegV.of' hx hp.1 (hp.le hM2)
 have hn : ¬ (keptA l).length ≤ 32 := by have := of_decide_eq_false h32; rw [← hp.1]; omega
 obtain ⟨hVr, hne, hP⟩ := tidy_rest hV hn
 have hVk : ∀ p ∈ keptA l, validB p = true := fun p hp => hV p (keptA_sub hp)
 have hx32 : 32 < xs.length := by rw [hp.1]; omega
 refine VCode.loop cxOK Nat (fun k => ⟨[(3, .row 0), (6, .row 1), (7, .v (.int .i64 ((31 + k : Nat) : Int)))], [(0, some (.row 64 1 xs.length xs)), (1, some (.row 44 2 (restL (keptA l) k).length (cellsP (restL (keptA l) k))))], 2, M1, 50, ⟨fun _ => none, none, fun _ => none⟩⟩)
  (fun k => 31 + k ≤ xs.length) (fun k => xs.length - k) 0 (by omega) (Wk.nil 6 44 2 rfl (Wk.mk' id (by repeat' constructor) (by repeat' constructor) (injOK_id _) rfl rfl rfl)) ?_
 rintro k hk m2
 have hrl := restL_len hVk k (by rw [← hp.1]; exact hk)
 refine VIf.mk (fun hlt => ?_) (fun hge => ?_)
 ·have hlt : 31 + k < xs.length := by have := of_decide_eq_true hlt; omega
  obtain ⟨x, gx, px, qx⟩ := hp.get (i := 31 + k) (by rw [← hp.1]; omega)
  have hV1 : validB (gr (keptA l) (31 + k)) = true := hVk _ (gr_mem (by rw [← hp.1]; omega))
  have h64 := (len_one hV1).2
  refine VIdxR.mk (31 + k) rfl hlt ?_
  refine VCells.mk [x] rfl (one_row (by simpa using gx)) ⟨x, rfl, ?_⟩
  refine VSl.mk _ _ px ?_
  have hst := restL_step (keptA l) (k := k) (by rw [← hp.1]; exact hlt)
  have hb : ((restL (keptA l) k).length + (gr (keptA l) (31 + k)).length) * 16 ≤ 140737488355328 := by omega
  refine VFact.mk hb ?_
  refine VArith.ok (by first | omega | (simp only; omega)) (by first | omega | (simp only; omega)) ?_
  refine ⟨k + 1, (by show 31 + (k + 1) ≤ _; omega), (by first | omega | (simp only; omega)), Wk.mk' (fun k => if k = 1 then 2 else k) ⟨⟨rfl, rfl⟩, ⟨rfl, rfl⟩, ⟨?_, rfl⟩, trivial⟩ ⟨⟨rfl, ⟨rfl, rfl, rfl, rfl⟩⟩, ⟨rfl, ⟨rfl, rfl, ?_, ?_⟩⟩, trivial⟩ (by simp [injOK]) rfl rfl rfl⟩
  ·exact congrArg (fun n => some (SV.v (.int .i64 n))) (show ((31 + k : Nat) : Int) + 1 = ((31 + (k + 1) : Nat) : Int) by omega)
  ·rw [hst, List.length_append]
  ·rw [hst, cellsP_app]
 have hkl : k = xs.length - 31 := by have := of_decide_eq_false hge; omega
 have hE : restL (keptA l) k = ((keptA l).drop 31).flatten := by
  unfold restL
  rw [List.take_of_length_le (by rw [List.length_drop, ← hp.1]; omega)]
 rw [hE]
 refine VBnd.mk 31 rfl (by omega) ?_
 refine VFact.mk (show (0 + 31) * 24 ≤ 140737488355328 by decide) ?_
 refine VFz.mk fun y By M4 hM4 hy => ?_
 have hy : Pts M4 y ((keptA l).drop 31).flatten := hy
 refine VFn.mk _ (Oct_fn y _ M4 hy hne hP) ?_
 rintro rs M5 hM5 ⟨o, rfl, ho⟩
 obtain ⟨oa, oc, rfl⟩ := ho.shape
 refine VFact.mk (show (0 + 31 + 1) * 24 ≤ 140737488355328 by decide) ?_
 refine VFz.mk fun z Bz M6 hM6 hz => ?_
 refine VFact.mk ⟨z, rfl, ?_⟩ trivial
 unfold tidyB
 rw [if_neg hn]
 refine RegV.of' hz (by rw [List.length_append, List.length_take]; simp; omega) ?_
 exact ((hp.take 31).le (hM4.trans (hM5.trans hM6))).snoc (ho.le hM6) (valid_64 (oct_spec hne hP).2.1)
end Go.Proofs.YtcdlplobniogpaaGreat
