/- The verification-condition framework, part C: types; one operation. -/
import Derived.Test.YtaobaeiohjgdcaaVb
namespace Go.V
open Go Go.RowKit

inductive TK where
  | sc
  | bool
  | int (k : IntKind)
  | st (fl : List (Nat × TypeId))
  | sl (e : TypeId)
  | ar (n : Nat) (e : TypeId)
/-- What the walk knows of a type. -/
structure TI where
  k : TK
  zero : List Value
  bytes : Nat
def TK.agg : TK → Bool
  | .st _ => true
  | .ar _ _ => true
  | _ => false
def TK.fits : TK → TypeDesc → Prop
  | .sc, d => match d with | .struct _ | .array _ _ => False | _ => True
  | .bool, d => d = .bool
  | .int k, d => d = .int k
  | .st fl, d => ∃ fs, d = .struct fs ∧ fs.toList.map (fun f => (f.offset, f.type)) = fl
  | .sl e, d => d = .slice e
  | .ar n e, d => d = .array n e
structure TyOK (P : Program) (t : TypeId) (i : TI) : Prop where
  inf : ∃ inf z, P.info? t = some inf ∧ inf.size = i.zero.length ∧ inf.zero = some z ∧ z.cells = i.zero.toArray ∧ inf.bytes = i.bytes
  und : ∃ d, P.underlying t = some d ∧ i.k.fits d
def TEOK (P : Program) (te : List (Nat × TI)) : Prop := ∀ t i, look te t = some i → TyOK P t i

variable {P : Program}
theorem TyOK.isAgg {t : TypeId} {i : TI} (h : TyOK P t i) (W : World) : (isAgg t).run P W = .ok i.k.agg W := by
  obtain ⟨d, hd, hf⟩ := h.und
  unfold Go.isAgg
  simp only [Sem.run_bind, run_underlying hd, Result.andThen_ok]
  cases hk : i.k <;> rw [hk] at hf <;> simp only [TK.fits] at hf
  · cases d <;> first | rfl | exact hf.elim
  · subst hf; rfl
  · subst hf; rfl
  · obtain ⟨fs, rfl, _⟩ := hf; rfl
  · subst hf; rfl
  · subst hf; rfl
theorem TyOK.sizeOf {t : TypeId} {i : TI} (h : TyOK P t i) (W : World) : (sizeOf t).run P W = .ok i.zero.length W := by
  obtain ⟨inf, z, h1, h2, _⟩ := h.inf
  simp [Go.sizeOf, typeInfo, h1, h2]
theorem TyOK.zeroValue {t : TypeId} {i : TI} (h : TyOK P t i) (W : World) : ∃ z, (zeroValue t).run P W = .ok z W ∧ z.cells = i.zero.toArray := by
  obtain ⟨inf, z, h1, _, h3, h4, _⟩ := h.inf
  exact ⟨z, by simp [Go.zeroValue, typeInfo, h1, h3], h4⟩

/-- A point at which the walk can't go on; the number says where. -/
inductive VStuck (n : Nat) : Prop
inductive VIf (b : Bool) (A B : Prop) : Prop
  | mk (h1 : b = true → A) (h2 : b = false → B)
theorem VIf.tt {A B : Prop} (h : A) : VIf true A B := .mk (fun _ => h) (fun h => Bool.noConfusion h)
theorem VIf.ff {A B : Prop} (h : B) : VIf false A B := .mk (fun h => Bool.noConfusion h) (fun _ => h)
inductive VArith (lo hi : Int) (k : IntKind) (n : Int) (K : Int → Prop) : Prop
  | ok (h1 : lo ≤ n) (h2 : n ≤ hi) (hk : K n)
  | wr (hk : K (k.wrap n))
inductive VDiv (y : Int) (K : Prop) : Prop
  | mk (h : y ≠ 0) (hk : K)
inductive VRead (M : Mem) (a : Addr) (K : Value → Prop) : Prop
  | mk (v : Value) (h : M.cell a = some v) (hk : K v)
inductive VReads (M : Mem) (a : Addr) (n : Nat) (K : List Value → Prop) : Prop
  | mk (cs : List Value) (hl : cs.length = n) (h : ∀ j v, cs[j]? = some v → M.cell (a.add j) = some v) (hk : K cs)
/-- An index into a slice of immutable memory. -/
inductive VIdx (a : Option Addr) (i : Int) (len : Nat) (K : Addr → Nat → Prop) : Prop
  | mk (ad : Addr) (n : Nat) (ha : a = some ad) (hi : i = (n : Int)) (hn : n < len) (hk : K ad n)
/-- An index into a growing slice of one's own. -/
inductive VIdxR (i : Int) (len : Nat) (K : Nat → Prop) : Prop
  | mk (n : Nat) (hi : i = (n : Int)) (hn : n < len) (hk : K n)
inductive VCells (xs : List Value) (off n : Nat) (K : List Value → Prop) : Prop
  | mk (cs : List Value) (hl : cs.length = n) (h : ∀ j v, cs[j]? = some v → xs[off + j]? = some v) (hk : K cs)
/-- A fact that the walk needs. -/
inductive VFact (A K : Prop) : Prop
  | mk (h : A) (hk : K)

/-- An operand. -/
def St.ev (st : St) : Operand → Option SV
  | .tmp t => look st.sl t
  | .const v => some (.v v)
  | .func f => some (.clo f [] [])
  | .global _ => none
theorem Sat.ev {n₀ : Nat} {w : World} {M₀ : Mem} {ρ : Env} {st : St} {a : Act} {W : World} (h : Sat n₀ w M₀ ρ st a W) {x : Operand} {s : SV} (hx : st.ev x = some s) : a.eval x = s.den ρ ∧ s.sc st.nx := by
  cases x with
  | tmp t =>
    obtain ⟨_, h2, h3⟩ := h.sl t s hx
    exact ⟨by simp [Act.eval, h3], h2⟩
  | const v => cases hx; exact ⟨rfl, trivial⟩
  | func f => cases hx; exact ⟨rfl, by simp [SV.sc]⟩
  | global g => cases hx

/-- A symbolic value's cells. -/
def SV.cells : SV → Option (List SV)
  | .v (.agg arr) => some (arr.toList.map .v)
  | .v (.int k n) => some [.v (.int k n)]
  | .v (.bool b) => some [.v (.bool b)]
  | .v (.slice a n c) => some [.v (.slice a n c)]
  | .v (.pointer a) => some [.v (.pointer a)]
  | .v (.string s) => some [.v (.string s)]
  | .v (.func f x y) => some [.v (.func f x y)]
  | .v .nilFunc => some [.v .nilFunc]
  | .v (.map r) => some [.v (.map r)]
  | .box id off => some [.box id off]
  | .row id => some [.row id]
  | .clo f x y => some [.clo f x y]
  | _ => none
def SV.one : SV → Bool
  | .v (.agg _) => false
  | .v (.tuple _) => false
  | .tup _ => false
  | _ => true

/-- Atoms that are plain values. -/
def avals : List At → Option (List Value)
  | [] => some []
  | .v x :: r => match avals r with | some l => some (x :: l) | none => none
  | _ => none
theorem avals_den {ρ : Env} : ∀ {l : List At} {r : List Value}, avals l = some r → l.map (At.den ρ) = r
  | [], r, h => by cases h; rfl
  | s :: l, r, h => by
    cases s with
    | v x =>
      simp only [avals] at h
      cases hv : avals l with
      | none => rw [hv] at h; cases h
      | some l' => rw [hv] at h; cases h; simp [At.den, avals_den hv]
    | _ => cases h
/-- A plain value. -/
def plain : SV → Option Value
  | .v x => some x
  | .clo f a b => match avals a, avals b with
    | some x, some y => some (.func (.func f) x.toArray y.toArray)
    | _, _ => none
  | _ => none
theorem plain_den {ρ : Env} {s : SV} {x : Value} (h : plain s = some x) : s.den ρ = x := by
  cases s with
  | v y => cases h; rfl
  | clo f a b =>
    simp only [plain] at h
    split at h
    · rename_i u v hu hv
      cases h
      simp [SV.den, avals_den hu, avals_den hv]
    · cases h
  | _ => cases h
/-- Cells put together. -/
def vals : List SV → Option (List Value)
  | [] => some []
  | s :: r => match plain s, vals r with | some x, some l => some (x :: l) | _, _ => none
theorem vals_den {ρ : Env} : ∀ {l : List SV} {r : List Value}, vals l = some r → l.map (SV.den ρ) = r
  | [], r, h => by cases h; rfl
  | s :: l, r, h => by
    simp only [vals] at h
    split at h
    · rename_i x l' hx hl
      cases h
      simp [plain_den hx, vals_den hl]
    · cases h

def upTo (n : Nat) (l : List SV) : List SV := l.take n

def arith (k : IntKind) (n : Int) (K : Int → Prop) : Prop :=
  match k with
  | .i64 => VArith (-9223372036854775808) 9223372036854775807 .i64 n K
  | .u8 => VArith 0 255 .u8 n K
  | .u64 => VArith 0 18446744073709551615 .u64 n K
  | k => VArith k.min k.max k n K
theorem wrap_in {k : IntKind} {n : Int} (h1 : k.min ≤ n) (h2 : n ≤ k.max) : k.wrap n = n := by
  cases k <;> simp [IntKind.min, IntKind.max, IntKind.signed, IntKind.bits, IntKind.wrap] at * <;> (try split) <;> omega
theorem arith_elim {k : IntKind} {n : Int} {K : Int → Prop} (h : arith k n K) : K (k.wrap n) := by
  cases k <;> simp only [arith] at h <;> (cases h with
    | ok h1 h2 hk => rw [wrap_in (by simp [IntKind.min, IntKind.signed, IntKind.bits] at *; omega) (by simp [IntKind.max, IntKind.signed, IntKind.bits] at *; omega)]; exact hk
    | wr hk => exact hk)

def cmpOp : BinOp → Int → Int → Option Bool
  | .eql, a, b => some (a == b)
  | .neq, a, b => some (a != b)
  | .lss, a, b => some (decide (a < b))
  | .leq, a, b => some (decide (a ≤ b))
  | .gtr, a, b => some (decide (a > b))
  | .geq, a, b => some (decide (a ≥ b))
  | _, _, _ => none

def intOp (op : BinOp) (k : IntKind) (a b : Int) (K : Value → Prop) : Prop :=
  match op with
  | .add => arith k (a + b) fun n => K (.int k n)
  | .sub => arith k (a - b) fun n => K (.int k n)
  | .mul => arith k (a * b) fun n => K (.int k n)
  | .quo => VDiv b (arith k (a.tdiv b) fun n => K (.int k n))
  | .rem => VDiv b (K (.int k (a.tmod b)))
  | .eql => K (.bool (a == b))
  | .neq => K (.bool (a != b))
  | .lss => K (.bool (decide (a < b)))
  | .leq => K (.bool (decide (a ≤ b)))
  | .gtr => K (.bool (decide (a > b)))
  | .geq => K (.bool (decide (a ≥ b)))
  | _ => VStuck 10
theorem intOp_run {op : BinOp} {k : IntKind} {a b : Int} {K : Value → Prop} (h : intOp op k a b K) (t : TypeId) :
    ∃ v, (∀ W : World, (binOp op t (.int k a) (.int k b)).run P W = .ok v W) ∧ K v := by
  unfold intOp at h
  split at h
  · exact ⟨_, fun W => by simp [binOp, Op.intArith], arith_elim h⟩
  · exact ⟨_, fun W => by simp [binOp, Op.intArith], arith_elim h⟩
  · exact ⟨_, fun W => by simp [binOp, Op.intArith], arith_elim h⟩
  · obtain ⟨hb, hk⟩ := h
    exact ⟨.int k (k.wrap (a.tdiv b)), fun W => by simp [binOp, Op.intDiv, hb], arith_elim hk⟩
  · obtain ⟨hb, hk⟩ := h
    exact ⟨.int k (a.tmod b), fun W => by simp [binOp, Op.intDiv, hb], hk⟩
  · exact ⟨.bool (a == b), fun W => by simp [binOp, Op.intCmp], h⟩
  · exact ⟨.bool (a != b), fun W => by simp [binOp, Op.intCmp], h⟩
  · exact ⟨.bool (decide (a < b)), fun W => by simp [binOp, Op.intCmp], h⟩
  · exact ⟨.bool (decide (a ≤ b)), fun W => by simp [binOp, Op.intCmp], h⟩
  · exact ⟨.bool (decide (a > b)), fun W => by simp [binOp, Op.intCmp], h⟩
  · exact ⟨.bool (decide (a ≥ b)), fun W => by simp [binOp, Op.intCmp], h⟩
  · cases h
end Go.V
