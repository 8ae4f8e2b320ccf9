/- The verification-condition framework, part G: addresses, fields, literals, slices, length; all value operations together. -/
import Derived.Test.YtaobaeiohjgdcaaVf
namespace Go.V
open Go Go.RowKit
variable {P : Program}

def un (op : UnOp) (x : SV) (k : SV → Prop) : Prop :=
  match op, x with
  | .not, .v (.bool b) => k (.v (.bool (!b)))
  | .neg, .v (.int kk n) => arith kk (-n) fun m => k (.v (.int kk m))
  | _, _ => VStuck 50
theorem un_sound {ρ : Env} {nx : Nat} {op : UnOp} {x : SV} {k : SV → Prop} (hk : un op x k) :
    ∃ s, s.sc nx ∧ (∀ W, (Op.unary op (x.den ρ)).run P W = .ok (s.den ρ) W) ∧ k s := by
  unfold un at hk
  split at hk
  · rename_i b
    exact ⟨.v (.bool (!b)), trivial, fun W => rfl, hk⟩
  · rename_i kk n
    have := arith_elim hk
    refine ⟨.v (.int kk (kk.wrap (-n))), trivial, fun W => ?_, this⟩
    simp [SV.den, Op.unary, Op.intArith]
  · cases hk

def conv (C : VX) (src dst : TypeId) (x : SV) (k : SV → Prop) : Prop :=
  match look C.te src, look C.te dst, x with
  | some ⟨.int _, _, _⟩, some ⟨.int kd, _, _⟩, .v (.int _ n) => arith kd n fun m => k (.v (.int kd m))
  | _, _, _ => VStuck 51
theorem conv_sound {C : VX} (hC : VXOK P C) {ρ : Env} {nx : Nat} {src dst : TypeId} {x : SV} {k : SV → Prop} (hk : conv C src dst x k) :
    ∃ s, s.sc nx ∧ (∀ W, (convert src dst (x.den ρ)).run P W = .ok (s.den ρ) W) ∧ k s := by
  unfold conv at hk
  split at hk
  · rename_i ks z1 b1 kd z2 b2 kx n h1 h2
    obtain ⟨d1, hd1, hf1⟩ := (hC.te _ _ h1).und
    obtain ⟨d2, hd2, hf2⟩ := (hC.te _ _ h2).und
    simp only [TK.fits] at hf1 hf2
    subst hf1; subst hf2
    refine ⟨.v (.int kd (kd.wrap n)), trivial, fun W => ?_, arith_elim hk⟩
    simp [SV.den, convert, run_underlying hd1, run_underlying hd2, Conv.intToInt]
  · cases hk

def extr (x : SV) (i : Nat) (k : SV → Prop) : Prop :=
  match x with
  | .tup l => match l[i]? with
    | some (.v x) => k (.v x)
    | some (.box id off) => k (.box id off)
    | some (.row id) => k (.row id)
    | none => VStuck 52
  | _ => VStuck 53
theorem extr_sound {ρ : Env} {nx : Nat} {x : SV} {i : Nat} {k : SV → Prop} (hk : extr x i k) (hx : x.sc nx) :
    ∃ s, s.sc nx ∧ (∀ W, (Instr.extract (x.den ρ) i).run P W = .ok (s.den ρ) W) ∧ k s := by
  unfold extr at hk
  cases x with
  | tup l =>
    simp only at hk
    cases hl : l[i]? with
    | none => rw [hl] at hk; cases hk
    | some a =>
      rw [hl] at hk
      have hm := hx a (List.mem_of_getElem? hl)
      cases a with
      | v x => exact ⟨.v x, trivial, fun W => by simp [SV.den, Instr.extract, hl, At.den], hk⟩
      | box id off => exact ⟨.box id off, hm, fun W => by simp [SV.den, Instr.extract, hl, At.den], hk⟩
      | row id => exact ⟨.row id, hm, fun W => by simp [SV.den, Instr.extract, hl, At.den], hk⟩
  | _ => cases hk

/-- The place and the type of a field. -/
def fieldOf (C : VX) (t : TypeId) (f : Nat) : Option (Nat × TI) :=
  match look C.te t with
  | some ⟨.st fl, _, _⟩ => match fl[f]? with
    | some (o, ft) => match look C.te ft with
      | some i => some (o, i)
      | none => none
    | none => none
  | _ => none
theorem fieldOf_spec {C : VX} (hC : VXOK P C) {t : TypeId} {f o : Nat} {i : TI} (h : fieldOf C t f = some (o, i)) :
    ∃ (fs : Array Field) (fd : Field), P.underlying t = some (.struct fs) ∧ fs[f]? = some fd ∧ fd.offset = o ∧ TyOK P fd.type i := by
  unfold fieldOf at h
  split at h
  · rename_i fl z b hl
    obtain ⟨d, hd, hf⟩ := (hC.te _ _ hl).und
    simp only [TK.fits] at hf
    obtain ⟨fs, rfl, hfl⟩ := hf
    split at h
    · rename_i o' ft hg
      split at h
      · rename_i i' hi
        simp only [Option.some.injEq, Prod.mk.injEq] at h
        obtain ⟨rfl, rfl⟩ := h
        rw [← hfl, List.getElem?_map] at hg
        simp only [Array.getElem?_toList] at hg
        cases hfd : fs[f]? with
        | none => rw [hfd] at hg; cases hg
        | some fd =>
          rw [hfd] at hg
          simp only [Option.map_some, Option.some.injEq, Prod.mk.injEq] at hg
          exact ⟨fs, fd, hd, rfl.trans hfd, hg.1, by rw [hg.2]; exact hC.te _ _ hi⟩
      · cases h
    · cases h
  · cases h

def fldA (C : VX) (_st : St) (t : TypeId) (p : SV) (f : Nat) (k : SV → Prop) : Prop :=
  match fieldOf C t f with
  | some (o, i) => match Nat.beq i.zero.length 0 with
    | false => match p with
      | .box id off => k (.box id (off + o))
      | .v (.pointer (some ad)) => k (.v (.pointer (some (ad.add o))))
      | _ => VStuck 54
    | true => VStuck 55
  | none => VStuck 56
theorem fldA_sound {C : VX} (hC : VXOK P C) {ρ : Env} {st : St} {t : TypeId} {p : SV} {f : Nat} {k : SV → Prop} (hk : fldA C st t p f k) (hp : p.sc st.nx) :
    ∃ s, s.sc st.nx ∧ (∀ W, (Instr.fieldAt t (p.den ρ) f).run P W = .ok (s.den ρ) W) ∧ k s := by
  unfold fldA at hk
  cases hf : fieldOf C t f with
  | none => rw [hf] at hk; cases hk
  | some q =>
    obtain ⟨o, i⟩ := q
    rw [hf] at hk
    simp only at hk
    obtain ⟨fs, fd, h1, h2, h3, h4⟩ := fieldOf_spec hC hf
    cases hz : Nat.beq i.zero.length 0 with
    | true => rw [hz] at hk; cases hk
    | false =>
      rw [hz] at hk
      have hne : ¬ i.zero.length = 0 := fun e => by rw [e] at hz; cases hz
      have hsz := fun W => h4.sizeOf W
      simp only at hk
      split at hk
      · rename_i id off
        refine ⟨.box id (off + o), hp, fun W => ?_, hk⟩
        simp only [SV.den, Instr.fieldAt, Sem.run_bind, run_underlying h1, Result.andThen_ok, h2, Instr.sureAddr, Sem.run_pure, fieldPlace, hsz, h3]
        rw [if_neg hne]
        simp [Addr.add_none]
      · rename_i ad
        refine ⟨.v (.pointer (some (ad.add o))), trivial, fun W => ?_, hk⟩
        simp only [SV.den, Instr.fieldAt, Sem.run_bind, run_underlying h1, Result.andThen_ok, h2, Instr.sureAddr, Sem.run_pure, fieldPlace, hsz, h3]
        rw [if_neg hne]
        simp
      · cases hk

def fldV (C : VX) (t : TypeId) (x : SV) (f : Nat) (k : SV → Prop) : Prop :=
  match fieldOf C t f, x with
  | some (o, i), .v (.agg arr) => match i.k.agg with
    | true => k (.v (.agg ((arr.toList.drop o).take i.zero.length).toArray))
    | false => match arr.toList[o]? with
      | some x => k (.v x)
      | none => VStuck 57
  | _, _ => VStuck 58
theorem fldV_sound {C : VX} (hC : VXOK P C) {ρ : Env} {nx : Nat} {t : TypeId} {x : SV} {f : Nat} {k : SV → Prop} (hk : fldV C t x f k) :
    ∃ s, s.sc nx ∧ (∀ W, (Instr.field t (x.den ρ) f).run P W = .ok (s.den ρ) W) ∧ k s := by
  unfold fldV at hk
  split at hk
  · rename_i o i arr hf
    obtain ⟨fs, fd, h1, h2, h3, h4⟩ := fieldOf_spec hC hf
    have hag := fun W => h4.isAgg W
    have hsz := fun W => h4.sizeOf W
    split at hk
    · rename_i ha
      rw [ha] at hag
      refine ⟨.v (.agg ((arr.toList.drop o).take i.zero.length).toArray), trivial, fun W => ?_, hk⟩
      simp only [SV.den, Instr.field, Sem.run_bind, run_underlying h1, Result.andThen_ok, h2, asAgg, Sem.run_pure, part, hag, if_true, hsz, h3]
      congr 2
      apply Array.ext'
      rw [Array.toList_extract, List.extract_eq_take_drop]
      congr 1
      omega
    · rename_i ha
      rw [ha] at hag
      split at hk
      · rename_i x hx
        refine ⟨.v x, trivial, fun W => ?_, hk⟩
        simp only [Array.getElem?_toList] at hx
        simp [SV.den, Instr.field, run_underlying h1, h2, asAgg, part, hag, h3, hx]
      · cases hk
  · cases hk

def idx (C : VX) (st : St) (t : TypeId) (x i : SV) (k : SV → Prop) : Prop :=
  match look C.te t with
  | some ⟨.sl e, _, _⟩ => match look C.te e with
    | some ei => match x, i with
      | .v (.slice a n _), .v (.int _ j) => VIdx a j n fun ad m => k (.v (.pointer (some (ad.add (m * ei.zero.length)))))
      | .row id, .v (.int _ j) => match st.own id with
        | some (.row _ sz n _) => match Nat.beq sz ei.zero.length with
          | true => VIdxR j n fun m => k (.box id (m * sz))
          | false => VStuck 60
        | _ => VStuck 61
      | _, _ => VStuck 62
    | none => VStuck 63
  | _ => VStuck 64
theorem idx_sound {C : VX} (hC : VXOK P C) {n₀ : Nat} {w : World} {M₀ : Mem} {ρ : Env} {st : St} {t : TypeId} {x i : SV} {k : SV → Prop} (hk : idx C st t x i k) (hx : x.sc st.nx) :
    ∃ s, s.sc st.nx ∧ (∀ W, SatH n₀ w M₀ ρ st W → (Instr.indexAt t (x.den ρ) (i.den ρ)).run P W = .ok (s.den ρ) W) ∧ k s := by
  unfold idx at hk
  split at hk
  · rename_i e z1 b1 hl
    obtain ⟨d, hd, hf⟩ := (hC.te _ _ hl).und
    simp only [TK.fits] at hf
    subst hf
    split at hk
    · rename_i ei hei
      have hsz := fun W => (hC.te _ _ hei).sizeOf W
      split at hk
      · rename_i a n c kk j
        obtain ⟨ad, m, rfl, rfl, hm, hk⟩ := hk
        refine ⟨.v (.pointer (some (ad.add (m * ei.zero.length)))), trivial, fun W _ => ?_, hk⟩
        have hb : (0 : Int) ≤ (m : Int) ∧ (m : Int) < (n : Int) := by omega
        simp [SV.den, Instr.indexAt, asIntOf, run_underlying hd, hsz]
        intro hle; omega
      · rename_i id kk j
        split at hk
        · rename_i E sz n xs hid
          split at hk
          · rename_i hs
            have hs := Nat.eq_of_beq_eq_true hs
            obtain ⟨m, rfl, hm, hk⟩ := hk
            refine ⟨.box id (m * sz), hx, fun W h => ?_, hk⟩
            obtain ⟨_, _, ho, _⟩ := h.own id _ hid
            rcases ho.2 with ⟨_, h0⟩ | ⟨g, cap, cur, hg, _⟩
            · omega
            · have hb : (0 : Int) ≤ (m : Int) ∧ (m : Int) < (n : Int) := by omega
              have := Addr.add_none g 0 (m * ei.zero.length)
              simp [SV.den, hg, slOf, blkOf, Instr.indexAt, asIntOf, run_underlying hd, hsz, this, hs]
              intro hle; omega
          · cases hk
        · cases hk
      · cases hk
    · cases hk
  · cases hk

def lenOf (st : St) (x : SV) (k : SV → Prop) : Prop :=
  match x with
  | .v (.slice _ n _) => k (.v (.int .i64 n))
  | .row id => match st.own id with
    | some (.row _ _ n _) => k (.v (.int .i64 n))
    | _ => VStuck 65
  | _ => VStuck 66
theorem lenOf_sound {C : VX} (hC : VXOK P C) {n₀ : Nat} {w : World} {M₀ : Mem} {ρ : Env} {st : St} {t ty : TypeId} {x : SV} {k : SV → Prop} (hk : lenOf st x k)
    {e : TypeId} {z : List Value} {b : Nat} (ht : look C.te t = some ⟨.sl e, z, b⟩) :
    ∃ s, s.sc st.nx ∧ (∀ W, SatH n₀ w M₀ ρ st W → (Builtin.len_ #[t] ty #[x.den ρ]).run P W = .ok (s.den ρ) W) ∧ k s := by
  obtain ⟨d, hd, hf⟩ := (hC.te _ _ ht).und
  simp only [TK.fits] at hf
  subst hf
  unfold lenOf at hk
  split at hk
  · rename_i a n c
    exact ⟨.v (.int .i64 n), trivial, fun W _ => by simp [SV.den, Builtin.len_, run_underlying hd, goInt], hk⟩
  · rename_i id
    split at hk
    · rename_i E sz n xs hid
      refine ⟨.v (.int .i64 n), trivial, fun W h => ?_, hk⟩
      obtain ⟨_, _, ho, _⟩ := h.own id _ hid
      rcases ho.2 with ⟨hv, h0⟩ | ⟨g, cap, cur, hg, _⟩
      · subst h0; simp [SV.den, hv, slOf, Builtin.len_, run_underlying hd, goInt]
      · simp [SV.den, hg, slOf, Builtin.len_, run_underlying hd, goInt]
    · cases hk
  · cases hk
end Go.V
