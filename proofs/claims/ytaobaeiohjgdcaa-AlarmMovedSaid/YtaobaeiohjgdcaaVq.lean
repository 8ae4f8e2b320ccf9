/- The verification-condition framework, part Q: the loop over an iterator. -/
import Derived.Test.YtaobaeiohjgdcaaVp
namespace Go.V
open Go Go.RowKit
variable {P : Program}

theorem Marks.but {n₀ : Nat} {G : Mem} {l : Nat} {r : Loop} (hl : G l = some (.loop r)) (o : Option Obj) : ∀ {ds : List Deferred}, Marks n₀ G ds → Marks n₀ (fun b => if b = l then o else G b) ds
  | [], _ => trivial
  | _ :: _, ⟨⟨D, h1, h2, h3, h4⟩, h5⟩ => ⟨⟨D, h1, by
      have : D ≠ l := fun e => by subst e; rw [hl] at h2; cases h2
      simp only [this, if_false]; exact h2, h3, h4⟩, Marks.but hl o h5⟩
theorem Marks.mono {n₀ : Nat} {G G' : Mem} (hG : G.le G') : ∀ {ds : List Deferred}, Marks n₀ G ds → Marks n₀ G' ds
  | [], _ => trivial
  | _ :: _, ⟨⟨D, h1, h2, h3, h4⟩, h5⟩ => ⟨⟨D, h1, hG _ _ h2, h3, h4⟩, Marks.mono hG h5⟩

/-- A block that nobody looks at is turned. -/
theorem SatH.putAt {n₀ : Nat} {w : World} {M₀ : Mem} {ρ : Env} {st : St} {W : World} (h : SatH n₀ w M₀ ρ st W) {D : Nat} {o : Obj} (hh : W.heap[D]? = some o) (hc : o.isCells = false) (hm : st.M D = none) (hD : st.G.m D = none)
    (hf : st.G.f D = none) (hn : n₀ ≤ D) (o' : Obj) : SatH n₀ w M₀ ρ st (W.putObj D o') := by
  have hg := grownBy_putObj' W D o'
  have hne : ∀ i e b, st.own i = some e → ob (ρ i) = some b → b ≠ D := fun i e b hi hb he => by
    subst he
    obtain ⟨_, _, c, t, fr, h2⟩ := (h.own i e hi).2.2.lt b hb
    rw [h2] at hh; cases hh; cases hc
  refine ⟨h.below.grown hg h.size (fun k hk => by cases hk; exact hn), Nat.le_trans h.size hg.size, ?_, ?_, h.sep, h.msep, ?_, h.mlow, ?_⟩
  · intro b x hb
    have hb' := h.mem b x hb
    rw [hg.block b (Array.getElem?_eq_some_iff.1 hb').1 (fun e => by cases e; rw [hm] at hb; cases hb)]
    exact hb'
  · intro i e hi
    obtain ⟨g1, g2, g3⟩ := h.own i e hi
    refine ⟨g1, g2, g3.keep (Agree.refl _ _) g1 g2 fun b hb => hg.block b (g3.lt b hb).2.1 (fun e' => ?_)⟩
    exact hne i e b hi hb (by cases e'; rfl)
  · intro b x hb
    obtain ⟨h1, h2, h3⟩ := h.pin b x hb
    have hne' : ¬ (some b = some D) := fun e => by cases e; rw [hD] at hb; cases hb
    exact ⟨h1, by rw [hg.block b (Array.getElem?_eq_some_iff.1 h2).1 hne']; exact h2, h3⟩
  · intro b x hb
    obtain ⟨h2, h3⟩ := h.fpin b x hb
    have hne' : ¬ (some b = some D) := fun e => by cases e; rw [hf] at hb; cases hb
    exact ⟨by rw [hg.block b (Array.getElem?_eq_some_iff.1 h2).1 hne']; exact h2, h3⟩
/-- Other pins. -/
theorem SatH.pins {n₀ : Nat} {w : World} {M₀ : Mem} {ρ : Env} {st : St} {W : World} (h : SatH n₀ w M₀ ρ st W) (G : Gh) (hm : ∀ b o, G.m b = some o → o.isCells = false ∧ W.heap[b]? = some o ∧ st.M b = none)
    (hf : ∀ b o, G.f b = some o → W.heap[b]? = some o ∧ ∀ i e, st.own i = some e → ob (ρ i) ≠ some b) : SatH n₀ w M₀ ρ { st with G := G } W :=
  ⟨h.below, h.size, h.mem, h.own, h.sep, h.msep, hm, h.mlow, hf⟩
theorem SatH.rebase {n₀ : Nat} {w w' : World} {M₀ : Mem} {ρ : Env} {st : St} {W : World} (h : SatH n₀ w M₀ ρ st W) (hb : Below n₀ w' W) : SatH n₀ w' M₀ ρ st W :=
  ⟨hb, h.size, h.mem, h.own, h.sep, h.msep, h.pin, h.mlow, h.fpin⟩

def parSl : List Nat → List Value → List (Nat × SV) → List (Nat × SV)
  | p :: ps, v :: vs, sl => parSl ps vs ((p, .v v) :: sl)
  | _, _, sl => sl
theorem par_sat {n₀ : Nat} {w : World} {M₀ : Mem} {ρ : Env} {W : World} {fx : Nat → Prop} {tm : Array Value} : ∀ (ps : List Nat) (vs : List Value) {st : St} {a : Act}, Sat n₀ w M₀ ρ st a W → (∀ p ∈ ps, p < st.nt ∧ ¬ fx p) → Keep fx tm a →
    Sat n₀ w M₀ ρ { st with sl := parSl ps vs st.sl } { a with tmps := (ps.zip vs).foldl (fun t p => t.setIfInBounds p.1 p.2) a.tmps } W ∧ Keep fx tm { a with tmps := (ps.zip vs).foldl (fun t p => t.setIfInBounds p.1 p.2) a.tmps }
  | [], vs, st, a, h, _, hk => by simp only [parSl, List.zip_nil_left, List.foldl_nil]; exact ⟨h, hk⟩
  | p :: ps, [], st, a, h, _, hk => by simp only [parSl, List.zip_nil_right, List.foldl_nil]; exact ⟨h, hk⟩
  | p :: ps, v :: vs, st, a, h, hp, hk => by
    have h1 := h.put (some p) (.v v) trivial (fun t ht => by cases ht; exact (hp p (List.mem_cons_self)).1)
    have hk1 := hk.put (d := some p) (fun t ht => by cases ht; exact (hp p (List.mem_cons_self)).2) v
    simp only [parSl, List.zip_cons_cons, List.foldl_cons]
    exact par_sat ps vs h1 (fun q hq => hp q (List.mem_cons_of_mem _ hq)) hk1

def codeOf : Ex → Option Code
  | .normal => none
  | .ret => some .ret
  | .exit i => some (.exit i)
def exitOf : Ex → Exit
  | .normal => .normal
  | .ret => .ret
  | .exit i => .exit i
theorem exOf_inv {e : Exit} {ex : Ex} (h : exOf e = some ex) : e = exitOf ex := by
  cases e <;> simp [exOf] at h <;> subst h <;> rfl

theorem yok_none {r : Option Nat} (B : Bs) : YOK r P (fun Y B' => Y = none ∧ B' = B) := fun l args rest B M W hκ => by cases hκ.1

set_option maxHeartbeats 400000 in
open Classical in
/-- A loop over an iterator. -/
theorem VCode.range {C : VX} (hC : VXOK P C) {g : Operand} {ps : Array Tmp} {assign body : Code} {st : St} {Q : Ex → St → Prop} {gf : Nat} {lb : Array Value} {xs : List (List Value)}
    (hg : st.ev g = some (.v (.func (.func gf) #[] lb))) (hit : Iter P gf lb st.M xs) (hlen : ∀ x ∈ xs, x.length = ps.size) (sl0 : List (Nat × SV))
    (hps : ∀ p ∈ ps.toList, p < st.nt ∧ ¬ look sl0 p ≠ none) (hwa : wr (fun d => look sl0 d ≠ none) assign) (hwb : wr (fun d => look sl0 d ≠ none) body)
    (S : Type) (inv : Nat → S → St) (pf : Nat → S → Prop) (s0 : S) (h0 : pf 0 s0) (hw : Wk { st with G := ⟨st.G.m, none, st.G.f⟩ } (inv 0 s0))
    (hinv : ∀ k s, (inv k s).sl = sl0 ∧ (inv k s).nt = st.nt)
    (round : st.withYf fun Y fQ => ∀ k s args, pf k s → xs[k]? = some args → ∀ m f, (inv k s).flatS (parSl ps.toList args sl0) m f fun st0 => vc C P assign st0 fun e st1 => match e with
      | .normal => ∀ m', st1.flatY m' none f fun st1 => vc C P body st1 fun e st2 => match e with
        | .normal => ∃ s', pf (k + 1) s' ∧ Wk st2 (inv (k + 1) s')
        | e => ∃ st3, Wk st2 st3 ∧ st3.sl = sl0 ∧ st3.nt = st.nt ∧ ∀ m, st3.flatY m Y fQ (Q e)
      | _ => False)
    (done : st.withYf fun Y f => ∀ s m, pf xs.length s → (inv xs.length s).flatY m Y f (Q .normal)) : VCode P (.rangeFunc g ps assign body) st Q := by
  refine ⟨fun r n κ B ρ a W fx tm hY hr hκ h hwr hkp => ?_⟩
  refine wpIn_rangeFunc ?_
  intro fn hfn
  -- the record, and the block for deferred calls
  obtain ⟨l, mark, W1, df, m1, henter, hL, hlW, hbW, hm1, hm1l, hmarks, hpin1⟩ : ∃ l mark W1 df m1, (Instr.enterLoop fn a.tmps ps assign body (Fw r).round).run P W = .ok (l, mark) W1 ∧
      W1.heap[l]? = some (.loop { state := .ready, pending := none, fn, tmps := a.tmps, params := ps, assign, body, defers := df }) ∧ W.heap.size ≤ l ∧ Below W.heap.size W W1 ∧ st.G.m.le m1 ∧ m1 l = none ∧ Marks B.n₀ m1 (mark ++ a.defers) ∧
      (∀ b o, m1 b = some o → o.isCells = false ∧ W1.heap[b]? = some o ∧ st.M b = none) := by
    have hMnew : ∀ b, W.heap.size ≤ b → st.M b = none := fun b hb => by
      cases hm : st.M b with
      | none => rfl
      | some o => have := (Array.getElem?_eq_some_iff.1 (h.h.mem b o hm)).1; omega
    have hGnew : ∀ b, W.heap.size ≤ b → st.G.m b = none := fun b hb => by
      cases hm : st.G.m b with
      | none => rfl
      | some o => have := (Array.getElem?_eq_some_iff.1 (h.h.pin b o hm).2.1).1; omega
    cases r with
    | none =>
      have hb1 : Below W.heap.size W (W.alloc (.deferred (some []))) := (Below.refl _ W).alloc (Nat.le_refl _) _
      have hb2 : Below W.heap.size W ((W.alloc (.deferred (some []))).alloc (.loop { state := .ready, pending := none, fn, tmps := a.tmps, params := ps, assign, body, defers := W.heap.size })) := hb1.alloc (by simp) _
      refine ⟨W.heap.size + 1, _, _, W.heap.size, fun b => if b = W.heap.size then some (.deferred (some [])) else st.G.m b, run_enterLoop_outer _ _ _ _ _, ?_, by omega, hb2, ?_, ?_, ?_, ?_⟩
      · have := World.alloc_heap_new (W.alloc (.deferred (some []))) (.loop { state := .ready, pending := none, fn, tmps := a.tmps, params := ps, assign, body, defers := W.heap.size })
        rwa [World.size_alloc] at this
      · intro b o hb
        simp only
        rw [if_neg (fun e => by subst e; rw [hGnew _ (Nat.le_refl _)] at hb; cases hb)]
        exact hb
      · simp only
        rw [if_neg (by omega)]
        exact hGnew _ (by omega)
      · refine ⟨⟨W.heap.size, rfl, by simp, h.h.size, ?_⟩, ?_⟩
        · intro d' hd' he
          have : ∀ {ds : List Deferred}, Marks B.n₀ st.G.m ds → ∀ d' ∈ ds, d'.target = .collected W.heap.size → False := by
            intro ds
            induction ds with
            | nil => intro _ d' hd'; cases hd'
            | cons d ds ih =>
              rintro ⟨⟨D, h1, h2, _, _⟩, h5⟩ d' hd' he
              rcases List.mem_cons.1 hd' with rfl | hd'
              · rw [h1] at he
                cases he
                rw [hGnew _ (Nat.le_refl _)] at h2; cases h2
              · exact ih h5 d' hd' he
          exact this h.marks d' hd' he
        · refine h.marks.mono ?_
          intro b o hb
          simp only
          rw [if_neg (fun e => by subst e; rw [hGnew _ (Nat.le_refl _)] at hb; cases hb)]
          exact hb
      · intro b o hb
        simp only at hb
        split at hb
        · rename_i hbe
          cases hb
          subst hbe
          refine ⟨rfl, ?_, hMnew _ (Nat.le_refl _)⟩
          exact (Below.heap_alloc _ _ _ (by simp)).trans (World.alloc_heap_new W _)
        · obtain ⟨p1, p2, p3⟩ := h.h.pin b o hb
          exact ⟨p1, (hb2.block b (Array.getElem?_eq_some_iff.1 p2).1).trans p2, p3⟩
    | some l₀ =>
      obtain ⟨rec, hrec⟩ := hr l₀ rfl
      have hl₀ := (h.h.pin l₀ _ hrec).2.1
      have hb1 : Below W.heap.size W (W.alloc (.loop { state := .ready, pending := none, fn, tmps := a.tmps, params := ps, assign, body, defers := rec.defers })) := (Below.refl _ W).alloc (Nat.le_refl _) _
      refine ⟨W.heap.size, [], _, rec.defers, st.G.m, run_enterLoop_inner hl₀ _ _ _ _ _, World.alloc_heap_new W _, Nat.le_refl _, hb1, Mem.le_refl _, hGnew _ (Nat.le_refl _), h.marks, ?_⟩
      intro b o hb
      obtain ⟨p1, p2, p3⟩ := h.h.pin b o hb
      exact ⟨p1, (hb1.block b (Array.getElem?_eq_some_iff.1 p2).1).trans p2, p3⟩
  obtain ⟨rec, hrecdef⟩ : ∃ rec : LoopState → Option Code → Loop, rec = fun s p => { state := s, pending := p, fn, tmps := a.tmps, params := ps, assign, body, defers := df } := ⟨_, rfl⟩
  have hL : W1.heap[l]? = some (.loop (rec .ready none)) := by rw [hrecdef]; exact hL
  have hn₀l : B.n₀ ≤ l := Nat.le_trans h.h.size hlW
  have hMl : st.M l = none := by
    cases hm : st.M l with
    | none => rfl
    | some o => have := (Array.getElem?_eq_some_iff.1 (h.h.mem l o hm)).1; omega
  have hfl : st.G.f l = none := by
    cases hm : st.G.f l with
    | none => rfl
    | some o => have := (Array.getElem?_eq_some_iff.1 (h.h.fpin l o hm).1).1; omega
  have hM1 : st.M.ok W1 := fun b o hb => by
    have := h.h.mem b o hb
    rw [hbW.block b (Array.getElem?_eq_some_iff.1 this).1]; exact this
  -- the state at the loop's beginning
  have hS1 : Sat B.n₀ B.w B.M₀ ρ { st with G := ⟨m1, none, st.G.f⟩ } a W1 := by
    have h1 := h.grow hbW (M' := st.M) hM1 (fun _ _ => rfl)
    refine ⟨h1.h.pins ⟨m1, none, st.G.f⟩ hpin1 h1.h.fpin, h1.nt, h1.sl, h.marks.mono hm1⟩
  obtain ⟨ρ0, hS2⟩ := hw.imp ⟨m1, none, st.G.f⟩ _ _ _ ρ a W1 hS1
  -- what the loop keeps
  let J : Nat → (Nat → Prop) → World → Prop := fun k X W' => ∃ s ρ m, pf k s ∧ m1.le m ∧ m l = none ∧ W'.heap[l]? = some (.loop (rec .ready none)) ∧ Sat B.n₀ B.w B.M₀ ρ { inv k s with G := ⟨m, none, st.G.f⟩ } { tmps := a.tmps, defers := [] } W' ∧
    (inv k s).M l = none ∧ X = fun b => b = l ∨ ∃ i e, (inv k s).own i = some e ∧ ob (ρ i) = some b
  let Jx : World → Prop := fun W' => ∃ (ex : Ex) (c : Code) (st3 : St) (ρ : Env) (m : Mem), codeOf ex = some c ∧ (∀ m, Q ex { st3 with G := ⟨m, st.G.Y, st.G.f⟩ }) ∧ m1.le m ∧ m l = none ∧ W'.heap[l]? = some (.loop (rec .done (some c))) ∧
    Sat B.n₀ B.w B.M₀ ρ { st3 with G := ⟨m, none, st.G.f⟩ } { tmps := a.tmps, defers := [] } W' ∧ st3.M l = none
  have satBelow : ∀ {st' : St} {ρ : Env} {a' : Act} {W W' : World}, Sat B.n₀ B.w B.M₀ ρ st' a' W → Below W.heap.size W W' → Sat B.n₀ B.w B.M₀ ρ st' a' W' := fun {st' ρ a' W W'} hs hb => by
    refine hs.grow hb (M' := st'.M) ?_ (fun _ _ => rfl)
    intro b o hb'
    have := hs.h.mem b o hb'
    rw [hb.block b (Array.getElem?_eq_some_iff.1 this).1]; exact this
  have hJ : ∀ k X W W', J k X W → Below W.heap.size W W' → J k X W' := by
    rintro k X W W' ⟨s, ρ, m, j1, j2, j3, j4, j5, j6, j7⟩ hb
    exact ⟨s, ρ, m, j1, j2, j3, (hb.block l (Array.getElem?_eq_some_iff.1 j4).1).trans j4, satBelow j5 hb, j6, j7⟩
  have hJx : ∀ W W', Jx W → Below W.heap.size W W' → Jx W' := by
    rintro W W' ⟨ex, c, st3, ρ, m, j1, j2, j3, j4, j5, j6, j7⟩ hb
    exact ⟨ex, c, st3, ρ, m, j1, j2, j3, j4, (hb.block l (Array.getElem?_eq_some_iff.1 j5).1).trans j5, satBelow j6 hb, j7⟩
  have hXlt : ∀ k X W, J k X W → ∀ b, X b → b < W.heap.size := by
    rintro k X W ⟨s, ρ, m, j1, j2, j3, j4, j5, j6, rfl⟩ b (rfl | ⟨i, e, hi, hb⟩)
    · exact (Array.getElem?_eq_some_iff.1 j4).1
    · exact ((j5.h.own i e hi).2.2.lt b hb).2.1
  obtain ⟨X0, hX0⟩ : ∃ X0 : Nat → Prop, X0 = fun b => b = l ∨ ∃ i e, (inv 0 s0).own i = some e ∧ ob (ρ0 i) = some b := ⟨_, rfl⟩
  have hX0M : ∀ b, X0 b → st.M b = none := by
    rw [hX0]
    rintro b (rfl | ⟨i, e, hi, hob⟩)
    · exact hMl
    · have := hS2.h.msep i e b hi hob
      rw [show st.M = (inv 0 s0).M from hw.m]; exact this
  have hJ0 : J 0 X0 W1 :=
    ⟨s0, ρ0, m1, h0, Mem.le_refl _, hm1l, hL, ⟨hS2.h, hS2.nt, hS2.sl, trivial⟩, by rw [← hw.m]; exact hMl, hX0⟩
  have hround : ∀ k X W1 args, J k X W1 → xs[k]? = some args → ∀ n, YieldAt (Fw none) n P l args.toArray W1 fun e W' =>
      Off X W1 W' ∧ ((e = .returned (.bool true) ∧ ∃ X', (∀ b, X' b → X b ∨ W1.heap.size ≤ b) ∧ J (k + 1) X' W') ∨ (e = .returned (.bool false) ∧ Jx W')) := by
    rintro k X W1 args ⟨s, ρ, m, hpf, hm1m, hml, hl, hS, hMk, rfl⟩ hxs n
    have hXl : ∀ b, (¬ (b = l ∨ ∃ i e, (inv k s).own i = some e ∧ ob (ρ i) = some b)) → b ≠ l := fun b hb e => hb (.inl e)
    have hax : args.length = ps.size := hlen args (List.mem_of_getElem? hxs)
    have hy := run_yield (P := P) (args := args.toArray) hl (by rw [hrecdef]; simpa using hax)
    have hfold : ((rec .ready none).params.zip args.toArray).foldl (fun (tmps : Array Value) (x : Tmp × Value) => match x with | (t, a) => tmps.setIfInBounds t a) (rec .ready none).tmps
        = (ps.toList.zip args).foldl (fun t p => t.setIfInBounds p.1 p.2) a.tmps := by
      rw [hrecdef, ← Array.foldl_toList]
      simp
    refine ⟨fn, (ps.toList.zip args).foldl (fun t p => t.setIfInBounds p.1 p.2) a.tmps, assign, body, by rw [hy, hfold, hrecdef], roundIn_of_wpIn trivial ?_⟩
    obtain ⟨f2, hf2⟩ : ∃ f2 : Mem, f2 = fun b => if b < W1.heap.size ∧ ¬ (b = l ∨ ∃ i e, (inv k s).own i = some e ∧ ob (ρ i) = some b) then W1.heap[b]? else none := ⟨_, rfl⟩
    have hf2l : f2 l = none := by rw [hf2]; simp
    have hf2s : ∀ b, b < W1.heap.size → ¬ (b = l ∨ ∃ i e, (inv k s).own i = some e ∧ ob (ρ i) = some b) → f2 b = W1.heap[b]? := fun b h1 h2 => by
      rw [hf2]; simp only; rw [if_pos ⟨h1, h2⟩]
    obtain ⟨m2, hm2⟩ : ∃ m2 : Mem, m2 = fun b => if b = l then some (.loop (rec .ready none)) else m b := ⟨_, rfl⟩
    have hm12 : m1.le m2 := fun b o hb => by
      rw [hm2]; simp only
      rw [if_neg (fun e => by subst e; rw [hm1l] at hb; cases hb)]
      exact hm1m b o hb
    have hS3 : Sat B.n₀ W1 B.M₀ ρ { inv k s with G := ⟨m2, none, f2⟩ } { tmps := a.tmps, defers := [] } W1 := by
      refine ⟨(SatH.pins (st := { inv k s with G := ⟨m, none, st.G.f⟩ }) (hS.h.rebase (Below.refl _ _)) ⟨m2, none, f2⟩ ?_ ?_), hS.nt, hS.sl, trivial⟩
      · intro b o hb
        rw [hm2] at hb
        simp only at hb
        split at hb
        · rename_i e; subst e; cases hb; exact ⟨rfl, hl, hMk⟩
        · exact hS.h.pin b o hb
      · intro b o hb
        rw [hf2] at hb
        simp only at hb
        split at hb
        · rename_i hb2
          exact ⟨hb, fun i e hi hob => hb2.2 (.inr ⟨i, e, hi, hob⟩)⟩
        · cases hb
    have hsl := (hinv k s).1
    have hntk := (hinv k s).2
    obtain ⟨hS4, hkp4⟩ := par_sat (fx := fun d => look sl0 d ≠ none) (tm := a.tmps) ps.toList args hS3 (fun p hp => by rw [show ({ inv k s with G := ⟨m2, none, f2⟩ } : St).nt = (inv k s).nt from rfl, hntk]; exact hps p hp) (fun d hd => rfl)
    have hro := flatS_iff (withYf_iff round k s args hpf hxs m2 f2)
    have hS4 : Sat B.n₀ W1 B.M₀ ρ { inv k s with sl := parSl ps.toList args sl0, G := ⟨m2, none, f2⟩ } { tmps := (ps.toList.zip args).foldl (fun t p => t.setIfInBounds p.1 p.2) a.tmps, defers := [] } W1 := by rw [← hsl]; exact hS4
    have hSz : Below B.n₀ B.w W1 := hS.h.below
    -- the assignments
    refine wpIn_mono (vc_sound (r := some l) (κ := fun Y B' => Y = none ∧ B' = ⟨B.n₀, W1, B.M₀⟩) hC (yok_none _) (fx := fun d => look sl0 d ≠ none) (tm := a.tmps) (B := ⟨B.n₀, W1, B.M₀⟩) assign hro
      (fun l' hl' => by cases hl'; exact ⟨rec .ready none, by show m2 l = _; rw [hm2]; simp⟩) ⟨rfl, rfl⟩ hS4 hwa hkp4) ?_
    rintro e a1 Wa ⟨⟨ex, he, B', ρ1, st1, ⟨_, rfl⟩, g1, g2, g3⟩, hkp1⟩
    have hen := exOf_inv he
    cases ex with
    | ret => exact g3.elim
    | exit i => exact g3.elim
    | normal =>
    subst hen
    have hml1 : st1.G.m l = some (.loop (rec .ready none)) := g2.1 _ _ (by show m2 l = _; rw [hm2]; simp)
    have hla := (g1.h.pin l _ hml1).2.1
    have hMl1 := (g1.h.pin l _ hml1).2.2
    have hff1 : st1.G.f = f2 := g2.2
    refine ⟨_, run_beginRound hla (by rw [hrecdef]), ?_⟩
    obtain ⟨m3, hm3⟩ : ∃ m3 : Mem, m3 = fun b => if b = l then some (.loop { rec .ready none with state := .busy }) else st1.G.m b := ⟨_, rfl⟩
    have hS5 : Sat B.n₀ W1 B.M₀ ρ1 { st1 with G := ⟨m3, none, f2⟩ } a1 (Wa.putObj l (.loop { rec .ready none with state := .busy })) := by
      have u1 := SatH.unmark g1.h hml1 hn₀l (by rw [hff1]; exact hf2l) (.loop { rec .ready none with state := .busy })
      refine ⟨u1.pins ⟨m3, none, f2⟩ ?_ (by rw [← hff1]; exact u1.fpin), g1.nt, g1.sl, ?_⟩
      · intro b o hb
        rw [hm3] at hb
        simp only at hb
        split at hb
        · rename_i e; subst e; cases hb; exact ⟨rfl, World.putObj_heap_same (Array.getElem?_eq_some_iff.1 hla).1, hMl1⟩
        · rename_i hne
          exact u1.pin b o (by simp only; rw [if_neg hne]; exact hb)
      · rw [hm3]; exact Marks.but hml1 _ g1.marks
    refine wpIn_mono (vc_sound (r := some l) (κ := fun Y B' => Y = none ∧ B' = ⟨B.n₀, W1, B.M₀⟩) hC (yok_none _) (fx := fun d => look sl0 d ≠ none) (tm := a.tmps) (B := ⟨B.n₀, W1, B.M₀⟩) body (flatY_iff (g3 m3))
      (fun l' hl' => by cases hl'; exact ⟨{ rec .ready none with state := .busy }, by show m3 l = _; rw [hm3]; simp⟩) ⟨rfl, rfl⟩ hS5 hwb hkp1) ?_
    rintro e a2 W3 ⟨⟨ex, he, B', ρ2, st2, ⟨_, rfl⟩, k1, k2, k3⟩, hkp2⟩
    have hen := exOf_inv he
    subst hen
    have hml2 : st2.G.m l = some (.loop { rec .ready none with state := .busy }) := k2.1 _ _ (by show m3 l = _; rw [hm3]; simp)
    have hl3 := (k1.h.pin l _ hml2).2.1
    have hff2 : st2.G.f = f2 := k2.2
    obtain ⟨m4, hm4⟩ : ∃ m4 : Mem, m4 = fun b => if b = l then none else st2.G.m b := ⟨_, rfl⟩
    have hm14 : m1.le m4 := fun b o hb => by
      have hbl : b ≠ l := fun e => by subst e; rw [hm1l] at hb; cases hb
      rw [hm4]; simp only
      rw [if_neg hbl]
      refine k2.1 b o ?_
      show m3 b = _
      rw [hm3]; simp only
      rw [if_neg hbl]
      exact g2.1 b o (hm12 b o hb)
    have hm4l : m4 l = none := by rw [hm4]; simp
    -- a state that is left behind, in the loop's own frame
    have leave : ∀ (st3 : St) (o' : Obj), Wk st2 st3 → st3.sl = sl0 → st3.nt = st.nt → ∃ ρ3, Sat B.n₀ B.w B.M₀ ρ3 { st3 with G := ⟨m4, none, st.G.f⟩ } { tmps := a.tmps, defers := [] } (W3.putObj l o') ∧ st3.M l = none ∧
        (∀ i e b, st3.own i = some e → ob (ρ3 i) = some b → f2 b = none) := by
      intro st3 o' hwk hsl3 hnt3
      obtain ⟨ρ3, hs⟩ := hwk.imp st2.G _ _ _ ρ2 a2 W3 k1
      have u1 := SatH.unmark hs.h hml2 hn₀l (by show st2.G.f l = none; rw [hff2]; exact hf2l) o'
      have hMl3 : st3.M l = none := (hs.h.pin l _ hml2).2.2
      have hown : ∀ i e b, st3.own i = some e → ob (ρ3 i) = some b → f2 b = none := fun i e b hi hb => by
        cases hf : f2 b with
        | none => rfl
        | some o => exact absurd hb ((hs.h.fpin b o (by show st2.G.f b = some o; rw [hff2]; exact hf)).2 i e hi)
      refine ⟨ρ3, ⟨?_, by show a.tmps.size = st3.nt; rw [hnt3]; exact h.nt, ?_, trivial⟩, hMl3, hown⟩
      · refine (SatH.pins u1 ⟨m4, none, st.G.f⟩ ?_ ?_).rebase (hSz.trans (u1.below.mono (Nat.le_refl _)))
        · intro b o hb
          rw [hm4] at hb
          exact u1.pin b o hb
        · intro b o hb
          obtain ⟨q1, q2⟩ := hS.h.fpin b o hb
          have hblt := (Array.getElem?_eq_some_iff.1 q1).1
          have hnX : ¬ (b = l ∨ ∃ i e, (inv k s).own i = some e ∧ ob (ρ i) = some b) := by
            rintro (rfl | ⟨i, e, hi, hob⟩)
            · have hb' : st.G.f b = some o := hb
              rw [hfl] at hb'; cases hb'
            · exact q2 i e hi hob
          have hfb : f2 b = some o := by rw [hf2s b hblt hnX]; exact q1
          refine u1.fpin b o ?_
          show st2.G.f b = some o
          rw [hff2]; exact hfb
      · intro d sv hd
        have hd' : look sl0 d = some sv := by rw [← hsl3]; exact hd
        obtain ⟨q1, q2, q3⟩ := hs.sl d sv hd
        refine ⟨q1, q2, ?_⟩
        rw [← hkp2 d (show look sl0 d ≠ none by rw [hd']; simp)]
        exact q3
    have hsz3 : W1.heap.size ≤ W3.heap.size := k1.h.below.size
    have hoff : ∀ o' : Obj, Off (fun b => b = l ∨ ∃ i e, (inv k s).own i = some e ∧ ob (ρ i) = some b) W1 (W3.putObj l o') := by
      intro o'
      refine ⟨fun b hb hnX => ?_, by simpa using hsz3⟩
      rw [World.putObj_heap_other (hXl b hnX)]
      have hsome : ∃ o, W1.heap[b]? = some o := ⟨_, Array.getElem?_eq_getElem hb⟩
      obtain ⟨o, ho⟩ := hsome
      have := (k1.h.fpin b o (by rw [hff2, hf2s b hb hnX]; exact ho)).1
      rw [this, ho]
    have hend := fun (jump : Option Code) => run_endRound (P := P) jump hl3
    have stop : ∀ (ex : Ex) (c : Code), codeOf ex = some c → (∃ st3, Wk st2 st3 ∧ st3.sl = sl0 ∧ st3.nt = st.nt ∧ ∀ m, Q ex { st3 with G := ⟨m, st.G.Y, st.G.f⟩ }) →
        ∃ v w', (Instr.endRound l (some c)).run P W3 = .ok v w' ∧ (Off (fun b => b = l ∨ ∃ i e, (inv k s).own i = some e ∧ ob (ρ i) = some b) W1 w' ∧
          ((Ending.returned v = .returned (.bool true) ∧ ∃ X', (∀ b, X' b → (b = l ∨ ∃ i e, (inv k s).own i = some e ∧ ob (ρ i) = some b) ∨ W1.heap.size ≤ b) ∧ J (k + 1) X' w') ∨ (Ending.returned v = .returned (.bool false) ∧ Jx w'))) := by
      rintro ex c hc ⟨st3, hwk, hsl3, hnt3, hq⟩
      obtain ⟨ρ3, hs3, hMl3, _⟩ := leave st3 (.loop { { rec .ready none with state := .busy } with state := .done, pending := some c }) hwk hsl3 hnt3
      refine ⟨_, _, hend (some c), hoff _, .inr ⟨rfl, ex, c, st3, ρ3, m4, hc, hq, hm14, hm4l, ?_, hs3, hMl3⟩⟩
      rw [World.putObj_heap_same (Array.getElem?_eq_some_iff.1 hl3).1, hrecdef]
      rfl
    cases ex with
    | normal =>
      obtain ⟨s', hpf', hwk⟩ := k3
      obtain ⟨ρ3, hs3, hMl3, hown3⟩ := leave (inv (k + 1) s') (.loop { { rec .ready none with state := .busy } with state := .ready, pending := none }) hwk (hinv _ _).1 (hinv _ _).2
      refine ⟨_, _, hend none, hoff _, .inl ⟨rfl, _, ?_, s', ρ3, m4, hpf', hm14, hm4l, ?_, hs3, hMl3, rfl⟩⟩
      · rintro b (rfl | ⟨i, e, hi, hob⟩)
        · exact .inl (.inl rfl)
        · by_cases hnX : b = l ∨ ∃ i e, (inv k s).own i = some e ∧ ob (ρ i) = some b
          · exact .inl hnX
          · refine .inr ?_
            rcases Nat.lt_or_ge b W1.heap.size with hlt | hge
            · have := hown3 i e b hi hob
              rw [hf2s b hlt hnX, Array.getElem?_eq_getElem hlt] at this
              cases this
            · exact hge
      · rw [World.putObj_heap_same (Array.getElem?_eq_some_iff.1 hl3).1, hrecdef]
        rfl
    | ret => exact stop .ret _ rfl (let ⟨s3, a, b, c, d⟩ := k3; ⟨s3, a, b, c, fun m => flatY_iff (d m)⟩)
    | exit i => exact stop (.exit i) _ rfl (let ⟨s3, a, b, c, d⟩ := k3; ⟨s3, a, b, c, fun m => flatY_iff (d m)⟩)
  -- the iterator is called
  have hcall := hit.run (n - 1) l J Jx X0 W1 hJ hJx hXlt hround hJ0 hM1 hX0M
  have hcallr : CallsIn (Fw r) (n - 1) P gf (#[.func (.yield l) #[] #[]] ++ lb) W1 fun e W' => (∃ v, e = .returned v) ∧ ((∃ X, J xs.length X W') ∨ Jx W') := by
    cases r with
    | none => exact hcall
    | some l₀ => exact CallsIn.inRound l₀ hcall
  have hgv : a.eval g = .func (.func gf) #[] lb := (h.ev hg).1
  have hres : ∀ e W', ((∃ v, e = Ending.returned v) ∧ ((∃ X, J xs.length X W') ∨ Jx W')) → rangePost (Fw r) n P l (Post κ st.G Q fx tm) { tmps := a.tmps, defers := mark ++ a.defers } e W' := by
    have behind : ∀ (ex : Ex) (st3 : St) (ρ3 : Env) (m : Mem) (W' : World) (rc : Loop), W'.heap[l]? = some (.loop rc) → m1.le m → m l = none → st3.M l = none → Sat B.n₀ B.w B.M₀ ρ3 { st3 with G := ⟨m, none, st.G.f⟩ } { tmps := a.tmps, defers := [] } W' →
        Q ex { st3 with G := ⟨m, st.G.Y, st.G.f⟩ } → ∀ o', Post κ st.G Q fx tm (exitOf ex) { a with defers := mark ++ a.defers } (W'.putObj l o') := by
      intro ex st3 ρ3 m W' rc hl' hle hml hMl' hs hq o'
      have u := SatH.putAt hs.h hl' rfl hMl' hml hfl hn₀l o'
      refine ⟨⟨ex, by cases ex <;> rfl, B, ρ3, { st3 with G := ⟨m, st.G.Y, st.G.f⟩ }, hκ, ⟨⟨u.below, u.size, u.mem, u.own, u.sep, u.msep, u.pin, u.mlow, u.fpin⟩, hs.nt, hs.sl, hmarks.mono hle⟩, ⟨hm1.trans hle, rfl⟩, hq⟩, hkp⟩
    rintro e W' ⟨⟨v, rfl⟩, ⟨X, s, ρ3, m, j1, j2, j3, j4, j5, j6, _⟩ | ⟨ex, c, st3, ρ3, m, j0, j1, j2, j3, j4, j5, j6⟩⟩
    · refine ⟨none, _, by have := run_endLoop (P := P) j4 (by rw [hrecdef]; simp); rw [hrecdef] at this; exact this, ?_⟩
      exact behind .normal _ ρ3 m W' _ j4 j2 j3 j6 j5 (flatY_iff (withYf_iff done s m j1)) _
    · refine ⟨some c, _, by have := run_endLoop (P := P) j4 (by rw [hrecdef]; simp); rw [hrecdef] at this; exact this, ?_⟩
      have hb := fun o' => behind ex st3 ρ3 m W' _ j4 j2 j3 j6 j5 (j1 m) o'
      cases ex with
      | normal => cases j0
      | ret => cases j0; exact wpIn_ret (hb _)
      | exit i => cases j0; exact wpIn_exit (hb _)
  have e1 : (resolve a.eval (rangeCall g l) 0).run P W1 = .ok { target := .fn (.func gf) lb, args := #[.func (.yield l) #[] #[]] } W1 := by
    simp only [resolve, hgv]
    simp [go_sem]
  have e2 : (invoke (.fn (.func gf) lb) #[.func (.yield l) #[] #[]]).run P W1 = .ok (.enter gf (#[.func (.yield l) #[] #[]] ++ lb)) W1 := by
    simp only [invoke]
    exact hit.ent _ _
  exact ⟨l, mark, W1, _, W1, gf, _, W1, henter, e1, fun _ _ => trivial, e2, (fun hd => (by cases hd)), hcallr.mono hres⟩

def hasB (sl : List (Nat × SV)) (d : Nat) : Bool := match look sl d with | none => false | some _ => true
def wrB (sl : List (Nat × SV)) : Code → Bool
  | .region _ ops _ => ops.toList.all fun o => match o.dst with | some d => !hasB sl d | none => true
  | .seq a b => wrB sl a && wrB sl b
  | .cond _ a b => wrB sl a && wrB sl b
  | .block _ c => wrB sl c
  | .loop c => wrB sl c
  | .scope c => wrB sl c
  | _ => true
theorem hasB_spec {sl : List (Nat × SV)} {d : Nat} (h : hasB sl d = false) : ¬ look sl d ≠ none := by
  unfold hasB at h
  split at h
  · rename_i hn; simp [hn]
  · cases h
theorem wrB_spec {sl : List (Nat × SV)} : ∀ (c : Code), wrB sl c = true → wr (fun d => look sl d ≠ none) c
  | .region id ops dr, h => by
    intro o ho d hd
    simp only [wrB, List.all_eq_true] at h
    have := h o ho
    rw [hd] at this
    exact hasB_spec (by simpa using this)
  | .seq a b, h => by
    simp only [wrB, Bool.and_eq_true] at h
    exact ⟨wrB_spec a h.1, wrB_spec b h.2⟩
  | .cond _ a b, h => by
    simp only [wrB, Bool.and_eq_true] at h
    exact ⟨wrB_spec a h.1, wrB_spec b h.2⟩
  | .block _ c, h => wrB_spec c h
  | .loop c, h => wrB_spec c h
  | .scope c, h => wrB_spec c h
  | .skip, _ => trivial
  | .rangeFunc .., _ => trivial
  | .exit _, _ => trivial
  | .ret, _ => trivial
  | .label _, _ => trivial
  | .goto _, _ => trivial
  | .refuse _, _ => trivial
def psB (nt : Nat) (sl : List (Nat × SV)) (ps : List Nat) : Bool := ps.all fun p => Nat.blt p nt && !hasB sl p
/-- The same; what is asked of the code is reckoned. -/
theorem VCode.rangeB {C : VX} (hC : VXOK P C) {g : Operand} {ps : Array Tmp} {assign body : Code} {st : St} {Q : Ex → St → Prop} {gf : Nat} {lb : Array Value} {xs : List (List Value)}
    (hg : st.ev g = some (.v (.func (.func gf) #[] lb))) (hit : Iter P gf lb st.M xs) (hlen : ∀ x ∈ xs, x.length = ps.size) (sl0 : List (Nat × SV))
    (hps : psB st.nt sl0 ps.toList = true) (hwa : wrB sl0 assign = true) (hwb : wrB sl0 body = true)
    (S : Type) (inv : Nat → S → St) (pf : Nat → S → Prop) (s0 : S) (h0 : pf 0 s0) (hw : Wk { st with G := ⟨st.G.m, none, st.G.f⟩ } (inv 0 s0))
    (hinv : ∀ k s, (inv k s).sl = sl0 ∧ (inv k s).nt = st.nt)
    (round : st.withYf fun Y fQ => ∀ k s args, pf k s → xs[k]? = some args → ∀ m f, (inv k s).flatS (parSl ps.toList args sl0) m f fun st0 => vc C P assign st0 fun e st1 => match e with
      | .normal => ∀ m', st1.flatY m' none f fun st1 => vc C P body st1 fun e st2 => match e with
        | .normal => ∃ s', pf (k + 1) s' ∧ Wk st2 (inv (k + 1) s')
        | e => ∃ st3, Wk st2 st3 ∧ st3.sl = sl0 ∧ st3.nt = st.nt ∧ ∀ m, st3.flatY m Y fQ (Q e)
      | _ => False)
    (done : st.withYf fun Y f => ∀ s m, pf xs.length s → (inv xs.length s).flatY m Y f (Q .normal)) : VCode P (.rangeFunc g ps assign body) st Q :=
  VCode.range hC hg hit hlen sl0 (fun p hp => by
    simp only [psB, List.all_eq_true, Bool.and_eq_true] at hps
    obtain ⟨h1, h2⟩ := hps p hp
    exact ⟨Nat.le_of_ble_eq_true h1, hasB_spec (by simpa using h2)⟩) (wrB_spec _ hwa) (wrB_spec _ hwb) S inv pf s0 h0 hw hinv round done
end Go.V
