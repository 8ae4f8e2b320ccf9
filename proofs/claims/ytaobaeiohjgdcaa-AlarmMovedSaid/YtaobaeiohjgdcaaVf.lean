/- The verification-condition framework, part F: the operations that leave memory as it is. -/
import Derived.Test.YtaobaeiohjgdcaaVe
namespace Go.V
open Go Go.RowKit
variable {P : Program}

def eqRes : BinOp → Bool → Bool
  | .eql, b => b
  | _, b => !b
/-- What the walk knows of the program: its types; the structs of two integers, which compare cell by cell. -/
structure VX where
  te : List (Nat × TI)
  eq2 : List Nat
structure VXOK (P : Program) (C : VX) : Prop where
  te : TEOK P C.te
  eq2 : ∀ t ∈ C.eq2, ∀ (op : BinOp) (x y x' y' : Int) (W : World), (op = .eql ∨ op = .neq) → ∀ (u v : Operand),
    (do eqGuard op t u v (.agg #[.int .i64 x, .int .i64 y]) (.agg #[.int .i64 x', .int .i64 y']); binOp op t (.agg #[.int .i64 x, .int .i64 y]) (.agg #[.int .i64 x', .int .i64 y']) : Sem Value).run P W
      = .ok (.bool (eqRes op (x == x' && y == y'))) W
  mixed : P.follows .mixedOrders = true

def isEq : BinOp → Bool
  | .eql => true
  | _ => false
def memN : List Nat → Nat → Bool
  | [], _ => false
  | x :: r, t => match Nat.beq t x with | true => true | false => memN r t
theorem memN_mem : ∀ {l : List Nat} {t : Nat}, memN l t = true → t ∈ l
  | x :: r, t, h => by
    simp only [memN] at h
    cases hb : Nat.beq t x with
    | true => rw [Nat.eq_of_beq_eq_true hb]; simp
    | false => rw [hb] at h; exact List.mem_cons_of_mem _ (memN_mem h)

def bin (C : VX) (op : BinOp) (t : TypeId) (x y : SV) (k : SV → Prop) : Prop :=
  match x, y with
  | .v (.int ka a), .v (.int kb b) => match decide (ka = kb) with
    | true => match op with
      | .shl => VStuck 41
      | .shr => VStuck 42
      | op => intOp op ka a b fun v => k (.v v)
    | false => VStuck 43
  | .v (.bool a), .v (.bool b) => match look C.te t with
    | some ⟨.bool, _, _⟩ => match op with
      | .eql => k (.v (.bool (a == b)))
      | .neq => k (.v (.bool (!(a == b))))
      | _ => VStuck 44
    | _ => VStuck 45
  | .v (.agg u), .v (.agg v) => match u.toList, v.toList with
    | [.int .i64 a, .int .i64 b], [.int .i64 a', .int .i64 b'] => match memN C.eq2 t with
      | true => match op with
        | .eql => k (.v (.bool (a == a' && b == b')))
        | .neq => k (.v (.bool (!(a == a' && b == b'))))
        | _ => VStuck 46
      | false => VStuck 47
    | _, _ => VStuck 48
  | .v (.slice a _ _), .v (.slice none 0 0) => match look C.te t with
    | some ⟨.sl _, _, _⟩ => match op with
      | .eql => k (.v (.bool a.isNone))
      | .neq => k (.v (.bool (!a.isNone)))
      | _ => VStuck 198
    | _ => VStuck 199
  | _, _ => VStuck 49

theorem equalIn_bool {t : TypeId} (hd : P.underlying t = some .bool) (d : Nat) (a b : Bool) (W : World) : (Op.equalIn (d + 1) t (.bool a) (.bool b)).run P W = .ok (a == b) W := by
  simp [Op.equalIn, run_underlying hd]
theorem equalIn_nil {t e : TypeId} (hd : P.underlying t = some (.slice e)) (d : Nat) (a : Option Addr) (n c : Nat) (W : World) : (Op.equalIn (d + 1) t (.slice a n c) (.slice none 0 0)).run P W = .ok a.isNone W := by
  cases a <;> simp [Op.equalIn, run_underlying hd]
theorem eql_bool {t : TypeId} (hd : P.underlying t = some .bool) (a b : Bool) (W : World) : (binOp .eql t (.bool a) (.bool b)).run P W = .ok (.bool (a == b)) W := by
  have := equalIn_bool hd 9999 a b W
  simp only [binOp, Op.equal, Op.maxDepth, Sem.run_bind, this, Result.andThen_ok, Sem.run_pure]
theorem neq_bool {t : TypeId} (hd : P.underlying t = some .bool) (a b : Bool) (W : World) : (binOp .neq t (.bool a) (.bool b)).run P W = .ok (.bool (!(a == b))) W := by
  have := equalIn_bool hd 9999 a b W
  simp only [binOp, Op.equal, Op.maxDepth, Sem.run_bind, this, Result.andThen_ok, Sem.run_pure]

theorem bin_sound {C : VX} (hC : VXOK P C) {ρ : Env} {nx : Nat} {op : BinOp} {t : TypeId} {x y : SV} {k : SV → Prop} (hk : bin C op t x y k) (u v : Operand) :
    ∃ s, s.sc nx ∧ (∀ W, (do eqGuard op t u v (x.den ρ) (y.den ρ); binOp op t (x.den ρ) (y.den ρ) : Sem Value).run P W = .ok (s.den ρ) W) ∧ k s := by
  unfold bin at hk
  split at hk
  · rename_i ka a kb b
    have hg : ∀ W, (eqGuard op t u v (.int ka a) (.int kb b)).run P W = .ok () W := by
      intro W; unfold eqGuard; split <;> rfl
    split at hk
    · rename_i hd
      have hkk : ka = kb := of_decide_eq_true hd
      subst hkk
      split at hk
      · cases hk
      · cases hk
      · obtain ⟨v', hr, hk'⟩ := intOp_run (P := P) hk t
        exact ⟨.v v', trivial, fun W => by simp only [SV.den, Sem.run_bind, hg, Result.andThen_ok, hr], hk'⟩
    · cases hk
  · rename_i a b
    have hg : ∀ W, (eqGuard op t u v (.bool a) (.bool b)).run P W = .ok () W := by
      intro W; unfold eqGuard; split <;> rfl
    split at hk
    · rename_i z by' hl
      have hT := hC.te t _ hl
      obtain ⟨d, hd, hf⟩ := hT.und
      simp only [TK.fits] at hf
      subst hf
      split at hk
      · exact ⟨.v (.bool (a == b)), trivial, fun W => by simp only [SV.den, Sem.run_bind, hg, Result.andThen_ok]; exact eql_bool hd a b W, hk⟩
      · exact ⟨.v (.bool (!(a == b))), trivial, fun W => by simp only [SV.den, Sem.run_bind, hg, Result.andThen_ok]; exact neq_bool hd a b W, hk⟩
      · cases hk
    · cases hk
  · rename_i u' v'
    split at hk
    · rename_i a b a' b' h1 h2
      have e1 : u' = #[.int .i64 a, .int .i64 b] := by rw [← Array.toArray_toList (xs := u'), h1]
      have e2 : v' = #[.int .i64 a', .int .i64 b'] := by rw [← Array.toArray_toList (xs := v'), h2]
      subst e1; subst e2
      split at hk
      · rename_i hm
        have hq := hC.eq2 t (memN_mem hm)
        split at hk
        · exact ⟨.v (.bool (a == a' && b == b')), trivial, fun W => hq .eql a b a' b' W (.inl rfl) u v, hk⟩
        · exact ⟨.v (.bool (!(a == a' && b == b'))), trivial, fun W => hq .neq a b a' b' W (.inr rfl) u v, hk⟩
        · cases hk
      · cases hk
    · cases hk
  · rename_i a n c
    have hg : ∀ W, (eqGuard op t u v (.slice a n c) (.slice none 0 0)).run P W = .ok () W := by
      intro W; unfold eqGuard; split <;> rfl
    split at hk
    · rename_i e z by' hl
      have hT := hC.te t _ hl
      obtain ⟨d, hd, hf⟩ := hT.und
      simp only [TK.fits] at hf
      subst hf
      have he := fun W => equalIn_nil hd 9999 a n c W
      split at hk
      · exact ⟨.v (.bool a.isNone), trivial, fun W => by simp only [SV.den, Sem.run_bind, hg, Result.andThen_ok, binOp, Op.equal, Op.maxDepth, he, Sem.run_pure], hk⟩
      · exact ⟨.v (.bool (!a.isNone)), trivial, fun W => by simp only [SV.den, Sem.run_bind, hg, Result.andThen_ok, binOp, Op.equal, Op.maxDepth, he, Sem.run_pure], hk⟩
      · cases hk
    · cases hk
  · cases hk

/-! ### max, min -/
def intsOf : List SV → Option (IntKind × List Int)
  | [] => none
  | [.v (.int k n)] => some (k, [n])
  | .v (.int k n) :: r => match intsOf r with
    | some (k', l) => match decide (k = k') with | true => some (k, n :: l) | false => none
    | none => none
  | _ => none
theorem intsOf_den {ρ : Env} : ∀ {l : List SV} {k : IntKind} {ns : List Int}, intsOf l = some (k, ns) → l.map (SV.den ρ) = ns.map (Value.int k) ∧ ns ≠ []
  | [], _, _, h => by cases h
  | [s], k, ns, h => by
    cases s with
    | v x => cases x <;> simp only [intsOf, reduceCtorEq, Option.some.injEq, Prod.mk.injEq] at h; obtain ⟨rfl, rfl⟩ := h; simp [SV.den]
    | _ => cases h
  | s :: s2 :: r, k, ns, h => by
    cases s with
    | v x =>
      cases x <;> simp only [intsOf, reduceCtorEq] at h
      cases hr : intsOf (s2 :: r) with
      | none => rw [hr] at h; cases h
      | some q =>
        obtain ⟨k', l⟩ := q
        rw [hr] at h
        rename_i k0 n
        by_cases hkk : k0 = k'
        · subst hkk
          simp only [decide_true, Option.some.injEq, Prod.mk.injEq] at h
          obtain ⟨rfl, rfl⟩ := h
          have := intsOf_den (ρ := ρ) hr
          refine ⟨?_, by simp⟩
          rw [List.map_cons, this.1]; rfl
        · simp [hkk] at h
    | _ => cases h
theorem foldlM_max (k : IntKind) : ∀ (l : List Int) (x : Int) (W : World), ((l.map (Value.int k)).foldlM Builtin.max2 (.int k x)).run P W = .ok (.int k (l.foldl max x)) W
  | [], x, W => rfl
  | y :: l, x, W => by
    have e : (if y > x then y else x) = max x y := by
      show (if y > x then y else x) = if x ≤ y then y else x
      split <;> split <;> omega
    simp only [List.map_cons, List.foldlM_cons, Builtin.max2, Sem.run_bind, Sem.run_pure, Result.andThen_ok, List.foldl_cons, e]
    exact foldlM_max k l _ W
theorem foldlM_min (k : IntKind) : ∀ (l : List Int) (x : Int) (W : World), ((l.map (Value.int k)).foldlM Builtin.min2 (.int k x)).run P W = .ok (.int k (l.foldl min x)) W
  | [], x, W => rfl
  | y :: l, x, W => by
    have e : (if y < x then y else x) = min x y := by
      show (if y < x then y else x) = if x ≤ y then x else y
      split <;> split <;> omega
    simp only [List.map_cons, List.foldlM_cons, Builtin.min2, Sem.run_bind, Sem.run_pure, Result.andThen_ok, List.foldl_cons, e]
    exact foldlM_min k l _ W
end Go.V
