/- The verification-condition framework, part K: one operation, whichever it is. -/
import Derived.Test.YtaobaeiohjgdcaaVj
namespace Go.V
open Go Go.RowKit
variable {P : Program}

/-- A call that may touch what is owned. -/
structure VCall (P : Program) (f : Nat) (args : List SV) (st : St) (K : SV → St → Prop) : Prop where
  ent : Enters P f
  run : ∀ n₀ w M₀ ρ W, SatH n₀ w M₀ ρ st W → Calls P f (args.map (SV.den ρ)).toArray W fun e W' => ∃ s st' ρ', e = .returned (s.den ρ') ∧ Agree st.nx ρ ρ' ∧ st.nx ≤ st'.nx ∧ s.sc st'.nx ∧
    SatH n₀ w M₀ ρ' st' W' ∧ st'.sl = st.sl ∧ st'.nt = st.nt ∧ st'.G = st.G ∧ K s st'

def KOf (n₀ : Nat) (w : World) (M₀ : Mem) (G : Gh) (k : St → Prop) : Act → World → Prop := fun a W => ∃ ρ st, Sat n₀ w M₀ ρ st a W ∧ G.le st.G ∧ k st

/-- A reference to an entry: a slice's; a variable's, if bx. -/
def At.ref (bx : Bool) : At → Option Nat
  | .v _ => none
  | .row id => some id
  | .box id _ => match bx with | true => some id | false => none
def firstAt (bx : Bool) : List At → Option Nat
  | [] => none
  | a :: r => match a.ref bx with | some id => some id | none => firstAt bx r
def SV.ref (bx : Bool) : SV → Option Nat
  | .v _ => none
  | .row id => some id
  | .box id _ => match bx with | true => some id | false => none
  | .clo _ a b => match firstAt bx a with | some id => some id | none => firstAt bx b
  | .tup l => firstAt bx l
def firstRef (bx : Bool) : List SV → Option Nat
  | [] => none
  | s :: r => match s.ref bx with | some id => some id | none => firstRef bx r
/-- What is to be made immutable first. -/
def deep (st : St) : Nat → Nat → Nat
  | 0, id => id
  | n + 1, id => match st.own id with
    | some (.box _ cs) => match firstRef true cs with
      | some j => deep st n j
      | none => id
    | _ => id
def deepK (st : St) (k : Nat → Prop) : Nat → Nat → Prop
  | 0, id => k id
  | n + 1, id => match st.own id with
    | some (.box _ cs) => match firstRef true cs with
      | some j => deepK st k n j
      | none => k id
    | _ => k id
theorem deepK_iff {st : St} {k : Nat → Prop} : ∀ {n id : Nat}, deepK st k n id → k (deep st n id)
  | 0, id, h => h
  | n + 1, id, h => by
    simp only [deepK] at h
    simp only [deep]
    split at h
    · split at h
      · exact deepK_iff h
      · exact h
    · exact h
/-- The own slices (and variables, if bx) among the arguments are made immutable. -/
def frzAll (bx : Bool) (k : St → List SV → Prop) : Nat → St → List SV → Prop
  | 0, st, as => k st as
  | n + 1, st, as => match firstRef bx as with
    | none => k st as
    | some id0 => deepK st (fun id => match st.own id with
        | some (.row _ sz m xs) => st.withM fun M => VFz M sz m xs fun x B M' => st.subK id x B M' fun st' => svsK (as.map (SV.sub id x B)) fun as' => frzAll bx k n st' as'
        | some (.box t cs) => match vals cs with
          | some vs => st.withM fun M => VFzB M t vs fun x B M' => st.subK id x B M' fun st' => svsK (as.map (SV.sub id x B)) fun as' => frzAll bx k n st' as'
          | none => VStuck 89
        | none => VStuck 90) 5 id0
theorem frzAll_sound {bx : Bool} {n₀ : Nat} {w : World} {M₀ : Mem} {a : Act} {W : World} {k : St → List SV → Prop} {ρ : Env} : ∀ (n : Nat) {st : St} {as : List SV}, Sat n₀ w M₀ ρ st a W → (∀ s ∈ as, s.sc st.nx) → frzAll bx k n st as →
    ∃ st' as', Sat n₀ w M₀ ρ st' a W ∧ as'.map (SV.den ρ) = as.map (SV.den ρ) ∧ (∀ s ∈ as', s.sc st'.nx) ∧ st'.G = st.G ∧ k st' as'
  | 0, st, as, h, hs, hk => ⟨st, as, h, rfl, hs, rfl, hk⟩
  | n + 1, st, as, h, hs, hk => by
    simp only [frzAll] at hk
    split at hk
    · exact ⟨st, as, h, rfl, hs, rfl, hk⟩
    · rename_i id0 _
      replace hk := deepK_iff hk
      generalize deep st 5 id0 = id at hk
      have next : ∀ M', Sat n₀ w M₀ ρ (st.sub id (slOf (ρ id)) (blkOf (ρ id)) M') a W → frzAll bx k n (st.sub id (slOf (ρ id)) (blkOf (ρ id)) M') (as.map (SV.sub id (slOf (ρ id)) (blkOf (ρ id)))) →
          ∃ st' as', Sat n₀ w M₀ ρ st' a W ∧ as'.map (SV.den ρ) = as.map (SV.den ρ) ∧ (∀ s ∈ as', s.sc st'.nx) ∧ st'.G = st.G ∧ k st' as' := by
        intro M' h3 hk
        obtain ⟨st', as', g1, g2, g3, g4, g5⟩ := frzAll_sound n h3 (as := as.map (SV.sub id (slOf (ρ id)) (blkOf (ρ id)))) (fun s hs' => by
          simp only [List.mem_map] at hs'
          obtain ⟨z, hz, rfl⟩ := hs'
          exact SV.sub_sc (hs z hz)) hk
        refine ⟨st', as', g1, ?_, g3, g4, g5⟩
        rw [g2, List.map_map]
        exact List.map_congr_left fun s _ => SV.sub_den rfl rfl s
      split at hk
      · rename_i E sz m xs hid
        obtain ⟨hk⟩ := withM_iff hk
        obtain ⟨M', h1, h2, h3⟩ := h.frz hid
        exact next M' h3 (svsK_iff (k := fun as' => frzAll bx k n _ as') (subK_iff (hk _ _ _ h1 h2)))
      · rename_i t cs hid
        split at hk
        · rename_i vs hv
          obtain ⟨hk⟩ := withM_iff hk
          obtain ⟨M', h1, h2, h3⟩ := h.frzB hid hv
          exact next M' h3 (svsK_iff (k := fun as' => frzAll bx k n _ as') (subK_iff (hk _ _ _ h1 h2)))
        · cases hk
      · cases hk

/-- A call that is handed variables of one's own: they are made immutable; or the call is walked. -/
inductive VOwn (A B : Prop) : Prop
  | frz (h : A)
  | own (h : B)
/-- A call of a function, its arguments complete. -/
def callF (P : Program) (st : St) (f : Nat) (as : List SV) (k : SV → St → Prop) : Prop :=
  frzAll false (fun st as => match vals as with
    | some vs => st.withM fun M => VFn P f vs M fun rs M' => st.memK M' (k (retSV rs))
    | none => VOwn (frzAll true (fun st as => match vals as with
        | some vs => st.withM fun M => VFn P f vs M fun rs M' => st.memK M' (k (retSV rs))
        | none => VStuck 88) 12 st as) (VCall P f as st k)) as.length st as

def atom : SV → Option At
  | .v x => some (.v x)
  | .box id off => some (.box id off)
  | .row id => some (.row id)
  | _ => none
def atoms (st : St) : List Operand → Option (List At)
  | [] => some []
  | x :: r => match st.ev x with
    | some s => match atom s, atoms st r with
      | some a, some l => some (a :: l)
      | _, _ => none
    | none => none
def At.sv : At → SV
  | .v x => .v x
  | .box id off => .box id off
  | .row id => .row id
theorem At.sv_den (ρ : Env) (a : At) : a.sv.den ρ = a.den ρ := by cases a <;> rfl
theorem At.sv_sc {nx : Nat} {a : At} (h : a.sc nx) : a.sv.sc nx := by cases a <;> exact h
theorem atom_spec {ρ : Env} {nx : Nat} {s : SV} {a : At} (h : atom s = some a) (hs : s.sc nx) : a.den ρ = s.den ρ ∧ a.sc nx := by
  cases s <;> simp only [atom, reduceCtorEq, Option.some.injEq] at h <;> subst h <;> exact ⟨rfl, hs⟩
theorem atoms_spec {n₀ : Nat} {w : World} {M₀ : Mem} {ρ : Env} {st : St} {a : Act} {W : World} (h : Sat n₀ w M₀ ρ st a W) : ∀ {l : List Operand} {r : List At}, atoms st l = some r → r.map (At.den ρ) = l.map a.eval ∧ ∀ x ∈ r, x.sc st.nx
  | [], r, hr => by simp only [atoms, Option.some.injEq] at hr; subst hr; simp
  | x :: l, r, hr => by
    simp only [atoms] at hr
    split at hr
    · rename_i s hs
      obtain ⟨e1, e2⟩ := h.ev hs
      split at hr
      · rename_i t q ht hq
        simp only [Option.some.injEq] at hr
        subst hr
        obtain ⟨g1, g2⟩ := atom_spec (ρ := ρ) ht e2
        obtain ⟨i1, i2⟩ := atoms_spec h hq
        refine ⟨by simp [g1, e1, i1], ?_⟩
        intro y hy
        rcases List.mem_cons.1 hy with rfl | hy
        · exact g2
        · exact i2 y hy
      · cases hr
    · cases hr
def evs (st : St) : List Operand → Option (List SV)
  | [] => some []
  | x :: r => match st.ev x, evs st r with
    | some s, some l => some (s :: l)
    | _, _ => none
theorem evs_spec {n₀ : Nat} {w : World} {M₀ : Mem} {ρ : Env} {st : St} {a : Act} {W : World} (h : Sat n₀ w M₀ ρ st a W) : ∀ {l : List Operand} {r : List SV}, evs st l = some r → l.map a.eval = r.map (SV.den ρ) ∧ ∀ x ∈ r, x.sc st.nx
  | [], r, hr => by simp only [evs, Option.some.injEq] at hr; subst hr; simp
  | x :: l, r, hr => by
    simp only [evs] at hr
    split at hr
    · rename_i s q hs hq
      simp only [Option.some.injEq] at hr
      subst hr
      obtain ⟨e1, e2⟩ := h.ev hs
      obtain ⟨i1, i2⟩ := evs_spec h hq
      refine ⟨by simp [e1, i1], ?_⟩
      intro y hy
      rcases List.mem_cons.1 hy with rfl | hy
      · exact e2
      · exact i2 y hy
    · cases hr

/-- What is called, and with what. -/
def callee (f : SV) (args : List SV) : Option (Nat × List SV) :=
  match f with
  | .clo g fst cap => some (g, fst.map At.sv ++ args ++ cap.map At.sv)
  | .v (.func (.func g) fst cap) => some (g, fst.toList.map .v ++ args ++ cap.toList.map .v)
  | _ => none

theorem calls_fw {r : Option Nat} {n : Nat} {f : Nat} {args : Array Value} {W : World} {R : Ending → World → Prop} (h : Calls P f args W R) : CallsIn (Fw r) n P f args W R := by
  cases r with
  | none => exact callsIn_wide.2 h
  | some l => exact CallsIn.inRound l (callsIn_wide.2 h)

theorem callF_sound {n₀ : Nat} {w : World} {M₀ : Mem} {ρ : Env} {st : St} {a : Act} {W : World} (h : Sat n₀ w M₀ ρ st a W) {f : Nat} {as : List SV} (hs : ∀ s ∈ as, s.sc st.nx) {k : SV → St → Prop} (hk : callF P st f as k) :
    Enters P f ∧ Calls P f (as.map (SV.den ρ)).toArray W fun e W' => ∃ s st' ρ', e = .returned (s.den ρ') ∧ s.sc st'.nx ∧ Sat n₀ w M₀ ρ' st' a W' ∧ st'.G = st.G ∧ k s st' := by
  have plainCall : ∀ {st1 : St} {as1 : List SV} {vs : List Value}, Sat n₀ w M₀ ρ st1 a W → as1.map (SV.den ρ) = as.map (SV.den ρ) → st1.G = st.G → vals as1 = some vs →
      (st1.withM fun M => VFn P f vs M fun rs M' => st1.memK M' (k (retSV rs))) →
      Enters P f ∧ Calls P f (as.map (SV.den ρ)).toArray W fun e W' => ∃ s st' ρ', e = .returned (s.den ρ') ∧ s.sc st'.nx ∧ Sat n₀ w M₀ ρ' st' a W' ∧ st'.G = st.G ∧ k s st' := by
    intro st1 as1 vs h1 e1 t1 hv hk
    obtain ⟨R, ⟨hent, hfn⟩, hk⟩ := withM_iff hk
    refine ⟨hent, ?_⟩
    rw [← e1, vals_den hv]
    refine (hfn W h1.h.mem).mono ?_
    rintro e W' ⟨rs, M', rfl, g2, g3, g4, g5, g6⟩
    exact ⟨retSV rs, { st1 with M := M' }, ρ, by rw [retSV_den], retSV_sc _ _, h1.grow g2 g4 g5, t1, memK_iff (hk rs M' g3 g6)⟩
  obtain ⟨st1, as1, h1, e1, s1, t1, hk⟩ := frzAll_sound _ h hs hk
  split at hk
  · rename_i vs hv
    exact plainCall h1 e1 t1 hv hk
  · cases hk with
    | frz hk =>
      obtain ⟨st2, as2, h2, e2, s2, t2, hk⟩ := frzAll_sound _ h1 s1 hk
      split at hk
      · rename_i vs hv
        exact plainCall h2 (e2.trans e1) (t2.trans t1) hv hk
      · cases hk
    | own hk =>
      rw [← e1]
      obtain ⟨hent, hrun⟩ := hk
      refine ⟨hent, ?_⟩
      refine (hrun n₀ w M₀ ρ W h1.h).mono ?_
      rintro e W' ⟨s, st', ρ', rfl, g2, g3, g4, g5, g7, g8, g10, g9⟩
      exact ⟨s, st', ρ', rfl, g4, h1.env g5 g2 g3 g7 g8 g10, by rw [g10, t1], g9⟩

theorem op_call {r : Option Nat} {n : Nat} {n₀ : Nat} {w : World} {M₀ : Mem} {ρ : Env} {st : St} {a : Act} {W : World} {o : Oper} {c : Call} {f : Operand} {k : St → Prop} {Q : Exit → Act → World → Prop}
    (ho : o.op = .call c) (hc : c.callee = .value f) (h : Sat n₀ w M₀ ρ st a W) {sf : SV} {g : Nat} {args as : List SV} (hf : st.ev f = some sf) (ha : evs st c.args.toList = some args) (hg : callee sf args = some (g, as))
    (hk : callF P st g as fun s st' => st'.putv o.dst s k) : o.wpIn (Fw r) n P a W (KOf n₀ w M₀ st.G k) Q := by
  obtain ⟨e1, e2⟩ := h.ev hf
  obtain ⟨i1, i2⟩ := evs_spec h ha
  have hargs : c.args.map a.eval = (args.map (SV.den ρ)).toArray := by
    apply Array.ext'
    rw [Array.toList_map, i1]
  -- the function value, its bound and its captured values
  obtain ⟨fst, cap, hfv, hall, hsc⟩ : ∃ fst cap : Array Value, sf.den ρ = .func (.func g) fst cap ∧ (fst ++ (args.map (SV.den ρ)).toArray ++ cap) = (as.map (SV.den ρ)).toArray ∧ ∀ s ∈ as, s.sc st.nx := by
    unfold callee at hg
    split at hg
    · rename_i g' fst cap
      simp only [Option.some.injEq, Prod.mk.injEq] at hg
      obtain ⟨rfl, rfl⟩ := hg
      refine ⟨_, _, rfl, ?_, ?_⟩
      · apply Array.ext'
        have : SV.den ρ ∘ At.sv = At.den ρ := funext (At.sv_den ρ)
        simp [this]
      · intro s hs
        simp only [List.mem_append, List.mem_map] at hs
        rcases hs with (⟨x, hx, rfl⟩ | hs) | ⟨x, hx, rfl⟩
        · exact At.sv_sc (e2.1 x hx)
        · exact i2 s hs
        · exact At.sv_sc (e2.2 x hx)
    · rename_i g' fst cap
      simp only [Option.some.injEq, Prod.mk.injEq] at hg
      obtain ⟨rfl, rfl⟩ := hg
      refine ⟨fst, cap, rfl, ?_, ?_⟩
      · apply Array.ext'
        have : SV.den ρ ∘ SV.v = id := rfl
        simp [this]
      · intro s hs
        simp only [List.mem_append, List.mem_map] at hs
        rcases hs with (⟨x, hx, rfl⟩ | hs) | ⟨x, hx, rfl⟩
        · trivial
        · exact i2 s hs
        · trivial
    · cases hg
  obtain ⟨hent, hcalls⟩ := callF_sound h hsc hk
  refine ⟨fun _ _ => trivial, ?_⟩
  have hrun : (execOp a.eval o).run P W = .ok (.enter g (as.map (SV.den ρ)).toArray) W := by
    simp only [execOp, ho, resolve, hc, e1, hfv, Deferred.ofValue, Sem.run_bind, Sem.run_pure, Result.andThen_ok, invoke, hargs]
    rw [hent, ← hall]
  rw [Oper.semAt_plain _ _ _ (fun c' => by rw [ho]; simp), hrun]
  refine ⟨fun h => (by cases h), ?_⟩
  refine (calls_fw hcalls).mono ?_
  rintro e W' ⟨s, st', ρ', rfl, g2, g3, g4, g5⟩
  obtain ⟨j1, j2⟩ := putv_elim g5 g3 g2
  exact ⟨ρ', _, j1, by rw [show (st'.put o.dst s).G = st'.G from by cases o.dst <;> rfl, g4]; exact Gh.le_refl _, j2⟩

/-! ### Slices of slices -/
/-- A bound, if there is one. -/
def bnd (st : St) (x : Option Operand) (dflt hi : Nat) (k : Nat → Prop) : Prop :=
  match x with
  | none => k dflt
  | some x => match st.ev x with
    | some (.v (.int _ i)) => VBnd i hi k
    | _ => VStuck 91
def slc (C : VX) (st : St) (t : TypeId) (x : SV) (lo hi mx : Option Operand) (k : SV → Prop) : Prop :=
  match look C.te t with
  | some ⟨.sl e, _, _⟩ => match look C.te e with
    | some ei => match x with
      | .v (.slice a len cap) => match lo, hi, mx with
        | none, some hi, none => bnd st (some hi) 0 cap fun h => k (.v (.slice a h cap))
        | some lo, none, none => bnd st (some lo) 0 len fun l => k (.v (.slice (if cap = l then a else a.map (·.add (l * ei.zero.length))) (len - l) (cap - l)))
        | _, _, _ => VStuck 92
      | _ => VStuck 93
    | none => VStuck 94
  | _ => VStuck 95
theorem Addr.add_zero (a : Addr) : a.add 0 = a := by simp [Go.Addr.add]
theorem slc_sound {C : VX} (hC : VXOK P C) {n₀ : Nat} {w : World} {M₀ : Mem} {ρ : Env} {st : St} {a : Act} {W : World} (h : Sat n₀ w M₀ ρ st a W) {t : TypeId} {x : SV} {lo hi mx : Option Operand} {k : SV → Prop} (hk : slc C st t x lo hi mx k) :
    ∃ s, s.sc st.nx ∧ (∀ W, (Instr.sliceAt t (x.den ρ) (lo.map a.eval) (hi.map a.eval) (mx.map a.eval)).run P W = .ok (s.den ρ) W) ∧ k s := by
  unfold slc at hk
  split at hk
  · rename_i e z b hl
    obtain ⟨d, hd, hf⟩ := (hC.te _ _ hl).und
    simp only [TK.fits] at hf
    subst hf
    have hu := fun W => run_underlying (P := P) (w := W) hd
    split at hk
    · rename_i ei hei
      have hsz := fun W => (hC.te _ _ hei).sizeOf W
      split at hk
      · rename_i sa len cap
        split at hk
        · rename_i hi
          unfold bnd at hk
          simp only at hk
          split at hk
          · rename_i kk i hev
            obtain ⟨m, rfl, hm, hk⟩ := hk
            have e1 := (h.ev hev).1
            refine ⟨.v (.slice sa m cap), trivial, fun W => ?_, hk⟩
            have hb : (0 : Int) ≤ (m : Int) ∧ (m : Int) ≤ (cap : Int) := by omega
            simp only [SV.den] at e1
            simp only [SV.den, Instr.sliceAt, Sem.run_bind, hu, Result.andThen_ok, Instr.slice, Instr.sliceBounds, Option.map_none, Option.map_some, e1, Instr.sliceBound, asIntOf, Sem.run_pure, hb, and_self, if_true, hsz, Int.toNat_natCast]
            cases sa with
            | none => simp
            | some ad => simp [Addr.add_zero]
          · cases hk
        · rename_i lo
          unfold bnd at hk
          simp only at hk
          split at hk
          · rename_i kk i hev
            obtain ⟨m, rfl, hm, hk⟩ := hk
            have e1 := (h.ev hev).1
            refine ⟨.v (.slice (if cap = m then sa else sa.map (·.add (m * ei.zero.length))) (len - m) (cap - m)), trivial, fun W => ?_, hk⟩
            have hb : (0 : Int) ≤ (m : Int) ∧ (m : Int) ≤ (len : Int) := by omega
            simp only [SV.den] at e1
            simp only [SV.den, Instr.sliceAt, Sem.run_bind, hu, Result.andThen_ok, Instr.slice, Instr.sliceBounds, Option.map_none, Option.map_some, e1, Instr.sliceBound, asIntOf, Sem.run_pure, hb, and_self, if_true, hsz, Int.toNat_natCast]
          · cases hk
        · cases hk
      · cases hk
    · cases hk
  · cases hk

/-! ### One operation -/
/-- An operation that yields a value and leaves memory as it is. -/
def val (C : VX) (st : St) (o : Oper) (k : SV → Prop) : Prop :=
  match o.op with
  | .move x => match st.ev x with | some s => k s | none => VStuck 100
  | .assign x => match st.ev x with | some s => k s | none => VStuck 101
  | .pick c a b => match st.ev c with
    | some (.v (.bool c)) => VIf c (match st.ev a with | some s => k s | none => VStuck 102) (match st.ev b with | some s => k s | none => VStuck 103)
    | _ => VStuck 104
  | .load t x => match st.ev x with | some s => ld C.te st t s k | none => VStuck 108
  | .binOp op t x y _ => match st.ev x, st.ev y with | some u, some v => bin C op t u v k | _, _ => VStuck 110
  | .unOp op _ x => match st.ev x with | some s => un op s k | none => VStuck 111
  | .convert src dst x => match st.ev x with | some s => conv C src dst s k | none => VStuck 112
  | .extract x i => match st.ev x with | some s => extr s i k | none => VStuck 113
  | .fieldAddr t x f => match st.ev x with | some s => fldA C st t s f k | none => VStuck 114
  | .field t x f => match st.ev x with | some s => fldV C t s f k | none => VStuck 115
  | .indexAddr t x i => match st.ev x, st.ev i with | some u, some v => idx C st t u v k | _, _ => VStuck 116
  | .build t parts => bld C st t parts k
  | .makeFunc (.func f) fst cap => match atoms st fst.toList, atoms st cap.toList with | some a, some b => k (.clo f a b) | _, _ => VStuck 117
  | .nilCheck x => match st.ev x with
    | some (.box id off) => k (.box id off)
    | some (.v (.pointer (some ad))) => k (.v (.pointer (some ad)))
    | _ => VStuck 118
  | .slice t x lo hi mx => match st.ev x with | some s => slc C st t s lo hi mx k | none => VStuck 119
  | .call c => match c.callee with
    | .builtin .len => match c.args.toList, c.argTypes.toList with
      | [x], [t] => match look C.te t, st.ev x with
        | some ⟨.sl _, _, _⟩, some s => lenOf st s k
        | _, _ => VStuck 120
      | _, _ => VStuck 121
    | .builtin .max => match evs st c.args.toList with
      | some l => match intsOf l with
        | some (kk, x :: r) => k (.v (.int kk (r.foldl max x)))
        | _ => VStuck 122
      | none => VStuck 123
    | .builtin .min => match evs st c.args.toList with
      | some l => match intsOf l with
        | some (kk, x :: r) => k (.v (.int kk (r.foldl min x)))
        | _ => VStuck 124
      | none => VStuck 125
    | _ => VStuck 130
  | _ => VStuck 131
/-- Own variables and slices among operands are made immutable first. -/
def frzOps (st : St) (xs : List Operand) (k : St → Prop) : Prop :=
  match evs st xs with
  | some as => frzAll true (fun st' _ => k st') 12 st as
  | none => VStuck 197
theorem frzOps_sound {n₀ : Nat} {w : World} {M₀ : Mem} {a : Act} {W : World} {k : St → Prop} {ρ : Env} {st : St} {xs : List Operand} (h : Sat n₀ w M₀ ρ st a W) (hk : frzOps st xs k) : ∃ st', Sat n₀ w M₀ ρ st' a W ∧ st'.G = st.G ∧ k st' := by
  unfold frzOps at hk
  split at hk
  · rename_i as ha
    obtain ⟨st', as', g1, _, _, g4, g5⟩ := frzAll_sound _ h (evs_spec h ha).2 hk
    exact ⟨st', g1, g4, g5⟩
  · cases hk
def step (C : VX) (P : Program) (st : St) (o : Oper) (k : St → Prop) : Prop :=
  match o.op with
  | .alloc t => match look C.te t with
    | some i => st.addK (.box t (i.zero.map .v)) fun st' id => st'.putv o.dst (.box id 0) k
    | none => VStuck 105
  | .box t x => match st.ev x with
    | some s => match s.cells with
      | some cs => st.addK (.box t cs) fun st' id => st'.putv o.dst (.box id 0) k
      | none => VStuck 106
    | none => VStuck 107
  | .store t x y => match st.ev x, st.ev y, o.dst with | some p, some v, none => sto C.te st t p v k | _, _, _ => VStuck 109
  | .buildSlice t n parts => frzOps st (parts.toList.map (·.2)) fun st => bldS C st t n parts fun st' id => st'.putv o.dst (.row id) k
  | .build t parts => frzOps st (parts.toList.map (·.2)) fun st => bld C st t parts fun s => st.putv o.dst s k
  | .load t x => match st.ev x with
    | some (.box id _) => match look C.te t, st.own id with
      | some ⟨.st _, _, _⟩, some (.box _ cs) => frzAll true (fun st _ => val C st o fun s => st.putv o.dst s k) 12 st cs
      | _, _ => val C st o fun s => st.putv o.dst s k
    | _ => val C st o fun s => st.putv o.dst s k
  | .call c => match c.callee with
    | .builtin .append => match c.args.toList, c.argTypes.toList with
      | [s, x], [t, t'] => match Nat.beq t t', st.ev s, st.ev x with
        | true, some u, some v => app C st t u v fun st' r => st'.putv o.dst r k
        | _, _, _ => VStuck 126
      | _, _ => VStuck 127
    | .value f => match st.ev f, evs st c.args.toList with
      | some sf, some args => match callee sf args with
        | some (g, as) => callF P st g as fun s st' => st'.putv o.dst s k
        | none => VStuck 128
      | _, _ => VStuck 129
    | _ => val C st o fun s => st.putv o.dst s k
  | _ => val C st o fun s => st.putv o.dst s k
end Go.V
