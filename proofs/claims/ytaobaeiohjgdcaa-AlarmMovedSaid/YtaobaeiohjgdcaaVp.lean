/- The verification-condition framework, part P: iterators, and loops over them. -/
import Derived.Test.YtaobaeiohjgdcaaVo
namespace Go.V
open Go Go.RowKit
variable {P : Program}

/-- What a round may do to the world: the blocks that are not X's stay. -/
def Off (X : Nat → Prop) (W W' : World) : Prop := (∀ b, b < W.heap.size → ¬ X b → W'.heap[b]? = W.heap[b]?) ∧ W.heap.size ≤ W'.heap.size

/-- gf, with lb captured, is an iterator that yields xs. -/
structure Iter (P : Program) (gf : Nat) (lb : Array Value) (M : Mem) (xs : List (List Value)) : Prop where
  ent : Enters P gf
  run : ∀ (n l : Nat) (J : Nat → (Nat → Prop) → World → Prop) (Jx : World → Prop) (X : Nat → Prop) (W : World),
    (∀ k X W W', J k X W → Below W.heap.size W W' → J k X W') → (∀ W W', Jx W → Below W.heap.size W W' → Jx W') →
    (∀ k X W, J k X W → ∀ b, X b → b < W.heap.size) →
    (∀ k X W1 args, J k X W1 → xs[k]? = some args → ∀ n, YieldAt (Fw none) n P l args.toArray W1 fun e W' =>
      Off X W1 W' ∧ ((e = .returned (.bool true) ∧ ∃ X', (∀ b, X' b → X b ∨ W1.heap.size ≤ b) ∧ J (k + 1) X' W') ∨ (e = .returned (.bool false) ∧ Jx W'))) →
    J 0 X W → M.ok W → (∀ b, X b → M b = none) →
    CallsIn (Fw none) n P gf (#[.func (.yield l) #[] #[]] ++ lb) W fun e W' => (∃ v, e = .returned v) ∧ ((∃ X, J xs.length X W') ∨ Jx W')

/-- An iterator has come to its end. -/
inductive VEnd (l : Nat) (G : Gh) : Prop
  | all (h : G.Y = some (l, []))
  | stop (h : G.Y = none)
def finI (l : Nat) (e : Ex) (st : St) : Prop :=
  match e with
  | .exit _ => VStuck 173
  | _ => match st with | ⟨_, _, _, _, _, G⟩ => VEnd l G

theorem Iter.of_vc {C : VX} (hC : VXOK P C) {f : Nat} {fn : Func} {c : Code} (hf : P.funcs[f]? = some fn) (hb : fn.body = some c) (hname : (fn.name == "runtime.NumGoroutine") = false) (hres : fn.results = #[])
    {lb : Array Value} (hnt : Nat.ble (lb.toList.length + 1) fn.ntmps = true) {M : Mem} {xs : List (List Value)} (h : ∀ l, vc C P c (st0 (.func (.yield l) #[] #[] :: lb.toList) M fn.ntmps (some (l, xs))) (finI l)) : Iter P f lb M xs := by
  refine ⟨Go.Proofs.enters_of hf hname hb, ?_⟩
  intro n l J Jx X W hJ hJx hXlt hround h0 hM hX
  have hargs : (#[Value.func (.yield l) #[] #[]] ++ lb) = (Value.func (.yield l) #[] #[] :: lb.toList).toArray := by apply Array.ext'; simp
  rw [hargs]
  have h := h l
  generalize hal : (Value.func (.yield l) #[] #[] :: lb.toList) = args at h
  have hlen : args.length = lb.toList.length + 1 := by rw [← hal]; rfl
  have hle := Nat.le_of_ble_eq_true hnt
  refine callsIn_of_wp_marks hf hb trivial ?_ rfl
  have hs0 : Sat W.heap.size W M (fun _ => undef) (st0 args M fn.ntmps (some (l, xs))) { tmps := args.toArray ++ Array.replicate (fn.ntmps - args.toArray.size) undef, defers := [] } W := by
    refine ⟨⟨Below.refl _ _, Nat.le_refl _, hM, ?_, ?_, ?_, ?_, fun _ _ => rfl, fun b o hb => by cases hb⟩, by simp [st0]; omega, ?_, trivial⟩
    · intro id e he; simp [St.own, st0, look] at he
    · intro i j ei ej hi; simp [St.own, st0, look] at hi
    · intro i e b hi; simp [St.own, st0, look] at hi
    · intro b o hb; cases hb
    · intro d s hd
      obtain ⟨h1, h2, v, h3, rfl⟩ := argSlots_look args 0 d s hd
      refine ⟨by simp [st0]; omega, trivial, ?_⟩
      simp only [Nat.sub_zero] at h3
      rw [Array.getElem?_append_left (by simp; omega)]
      simp only [SV.den, List.getElem?_toArray]
      exact h3
  let κ : Yt → Bs → Prop := fun Y B => B.n₀ = B.w.heap.size ∧ match Y with
    | some (l', rest) => l' = l ∧ ∃ k X, rest = xs.drop k ∧ k ≤ xs.length ∧ J k X B.w ∧ ∀ b, X b → B.M₀ b = none
    | none => Jx B.w
  have hYOK : YOK none P κ := by
    rintro l' args rest B M' W1 ⟨hn, rfl, k, X, hr, hk, hj, hx⟩ hbl hsz hok hlow n
    have hj1 : J k X W1 := hJ _ _ _ _ hj (by rw [← hn]; exact hbl)
    have hlt := hXlt _ _ _ hj
    have hdisj : ∀ b, X b → M' b = none := fun b hb => by
      have := hlt b hb
      rw [hlow b (by omega)]
      exact hx b hb
    have hk' : k < xs.length := by
      rcases Nat.lt_or_ge k xs.length with h | h
      · exact h
      · rw [List.drop_eq_nil_of_le h] at hr; cases hr
    have hd := List.drop_eq_getElem_cons hk'
    rw [hd] at hr
    obtain ⟨ha, hr'⟩ := List.cons.inj hr
    obtain ⟨fn', tmps, assign, body, hy, hro⟩ := hround k X W1 args hj1 (by rw [ha]; exact List.getElem?_eq_getElem hk') n
    refine ⟨fn', tmps, assign, body, hy, hro.mono ?_⟩
    rintro e W' ⟨⟨hoff, hsz'⟩, hcase⟩
    have hok' : M'.ok W' := fun b o hb => by
      have h1 := hok b o hb
      rw [hoff b (Array.getElem?_eq_some_iff.1 h1).1 (fun hxb => by rw [hdisj b hxb] at hb; cases hb)]
      exact h1
    refine ⟨hok', ?_⟩
    rcases hcase with ⟨rfl, X', hx', hj'⟩ | ⟨rfl, hj'⟩
    · refine .inl ⟨rfl, rfl, rfl, k + 1, X', hr', hk', hj', ?_⟩
      intro b hb
      rcases hx' b hb with h | h
      · exact hdisj b h
      · cases hm : M' b with
        | none => exact hm
        | some o =>
          have := (Array.getElem?_eq_some_iff.1 (hok b o hm)).1
          omega
    · exact .inr ⟨rfl, rfl, hj'⟩
  have := vc_sound (r := none) (n := n) hC (κ := κ) hYOK (fx := fun _ => False) (tm := #[]) (B := ⟨W.heap.size, W, M⟩) c h (fun l hl => by cases hl)
    ⟨rfl, rfl, 0, X, rfl, Nat.zero_le _, h0, hX⟩ hs0 (wr_false c) (fun d hd => hd.elim)
  refine wpIn_mono this ?_
  rintro e a' W' ⟨⟨ex, he, B, ρ, st, hκ, h1, h2, h3⟩, _⟩
  have main : finI l .ret st → LeavesInM (Fw none) n P fn a'.tmps (fun e W' => (∃ v, e = .returned v) ∧ ((∃ X, J xs.length X W') ∨ Jx W')) a'.defers .returning W' := by
    intro h3
    refine leaves_of a'.defers h1.h h1.h rfl (fun b => by rw [h2.2]; rfl) h1.marks ?_
    intro G W'' s1 _
    refine ⟨ret [], results_ret fn a'.tmps P [] W'' (by rw [hres]; rfl), ⟨_, rfl⟩, ?_⟩
    have hbl := s1.below
    rw [hκ.1] at hbl
    obtain ⟨sl, ow, nx, M', nt, G'⟩ := st
    simp only [finI] at h3
    cases h3 with
    | all h =>
      have hκ2 := hκ.2
      rw [h] at hκ2
      obtain ⟨_, k, X, hr, hk, hj, _⟩ := hκ2
      have : k = xs.length := by
        have := congrArg List.length hr
        simp at this
        omega
      subst this
      exact .inl ⟨X, hJ _ _ _ _ hj hbl⟩
    | stop h =>
      have hκ2 := hκ.2
      rw [h] at hκ2
      exact .inr (hJx _ _ hκ2 hbl)
  cases e with
  | normal => cases he; exact main h3
  | ret => cases he; exact main h3
  | exit i => cases he; cases h3
  | goto => cases he
  | panic => cases he
  | outgrown => cases he
end Go.V
