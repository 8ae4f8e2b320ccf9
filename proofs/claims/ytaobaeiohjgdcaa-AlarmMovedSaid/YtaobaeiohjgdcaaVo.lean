/- The verification-condition framework, part O: what is known of a program's types, from closed facts. -/
import Derived.Test.YtaobaeiohjgdcaaVn
namespace Go.V
open Go Go.RowKit
variable {P : Program}

theorem TyOK.mk' {t : TypeId} {i : TI} {z : Value} {d : TypeDesc} (h1 : (P.info? t).map (fun i => (i.zero, i.size, i.bytes)) = some (some z, i.zero.length, i.bytes)) (hz : z.cells = i.zero.toArray) (h2 : P.underlying t = some d) (hf : i.k.fits d) : TyOK P t i := by
  refine ⟨?_, d, h2, hf⟩
  cases hi : P.info? t with
  | none => rw [hi] at h1; cases h1
  | some inf =>
    rw [hi] at h1
    simp only [Option.map_some, Option.some.injEq, Prod.mk.injEq] at h1
    exact ⟨inf, z, rfl, h1.2.1, h1.1, hz, h1.2.2⟩
theorem teOK_nil : TEOK P [] := fun t i h => by cases h
theorem teOK_cons {t : TypeId} {i : TI} {l : List (Nat × TI)} (h : TyOK P t i) (hl : TEOK P l) : TEOK P ((t, i) :: l) := fun t' i' h' => by
  rw [look_cons] at h'
  split at h'
  · rename_i e; subst e; cases h'; exact h
  · exact hl _ _ h'

theorem equalIn_int {t : TypeId} {k : IntKind} (hd : P.underlying t = some (.int k)) (d : Nat) (a b : Int) (W : World) : (Op.equalIn (d + 1) t (.int .i64 a) (.int .i64 b)).run P W = .ok (a == b) W := by
  simp [Op.equalIn, run_underlying hd]
theorem isAgg_int {t : TypeId} {k : IntKind} (hd : P.underlying t = some (.int k)) (W : World) : (isAgg t).run P W = .ok false W := by
  unfold isAgg
  simp [run_underlying hd]
theorem eq2_of {t : TypeId} {f1 f2 : Field} {k1 k2 : IntKind} (hu : P.underlying t = some (.struct #[f1, f2])) (n1 : (f1.name == "_") = false) (n2 : (f2.name == "_") = false) (o1 : f1.offset = 0) (o2 : f2.offset = 1)
    (u1 : P.underlying f1.type = some (.int k1)) (u2 : P.underlying f2.type = some (.int k2)) (hg : P.eqGuardType P.depth t = false) (hs : P.stoodInHeld t = false)
    (op : BinOp) (x y x' y' : Int) (W : World) (hop : op = .eql ∨ op = .neq) (u v : Operand) :
    (do eqGuard op t u v (.agg #[.int .i64 x, .int .i64 y]) (.agg #[.int .i64 x', .int .i64 y']); binOp op t (.agg #[.int .i64 x, .int .i64 y]) (.agg #[.int .i64 x', .int .i64 y']) : Sem Value).run P W
      = .ok (.bool (eqRes op (x == x' && y == y'))) W := by
  have hguard : (eqGuard op t u v (.agg #[.int .i64 x, .int .i64 y]) (.agg #[.int .i64 x', .int .i64 y'])).run P W = .ok () W := by
    rcases hop with rfl | rfl <;> simp [eqGuard, run_program, hg]
  have hp : ∀ (f : Field) (k : IntKind) (hk : P.underlying f.type = some (.int k)) (a b : Value) (W : World), (part f.type #[a, b] 0).run P W = .ok a W ∧ (part f.type #[a, b] 1).run P W = .ok b W := fun f k hk a b W => by
    simp [part, isAgg_int hk]
  have hm1 : ¬ f1.name = "_" := by simpa using n1
  have hm2 : ¬ f2.name = "_" := by simpa using n2
  have heq : (Op.equalIn 10000 t (.agg #[.int .i64 x, .int .i64 y]) (.agg #[.int .i64 x', .int .i64 y'])).run P W = .ok (x == x' && y == y') W := by
    show (Op.equalIn (9999 + 1) t _ _).run P W = _
    unfold Op.equalIn
    have e1 := equalIn_int u1 9998 x x' W
    have e2 := equalIn_int u2 9998 y y' W
    simp only [Nat.reduceAdd] at e1 e2
    simp [run_underlying hu, run_program, hs, hm1, hm2, o1, o2, (hp f1 k1 u1 _ _ W).1, (hp f2 k2 u2 _ _ W).2, e1, e2]
    by_cases hx : x = x' <;> by_cases hy : y = y' <;> simp [hx, hy]
  rcases hop with rfl | rfl
  · simp only [Sem.run_bind, hguard, Result.andThen_ok, binOp, Op.equal, Op.maxDepth, heq, Sem.run_pure, eqRes]
  · simp only [Sem.run_bind, hguard, Result.andThen_ok, binOp, Op.equal, Op.maxDepth, heq, Sem.run_pure, eqRes]
end Go.V
