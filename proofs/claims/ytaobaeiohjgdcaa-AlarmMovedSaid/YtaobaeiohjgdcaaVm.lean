/- The verification-condition framework, part M: code. -/
import Derived.Test.YtaobaeiohjgdcaaVlc
namespace Go.V
open Go Go.RowKit
variable {P : Program}

inductive Ex where
  | normal
  | ret
  | exit (id : Nat)
def exOf : Exit → Option Ex
  | .normal => some .normal
  | .ret => some .ret
  | .exit id => some (.exit id)
  | _ => none
/-- Whence a walk is counted: nothing below n₀ has turned since w. -/
structure Bs where
  n₀ : Nat
  w : World
  M₀ : Mem
abbrev Yt := Option (Nat × List (List Value))
def KK (κ : Yt → Bs → Prop) (G : Gh) (k : St → Prop) : Act → World → Prop := fun a W => ∃ B ρ st, κ st.G.Y B ∧ Sat B.n₀ B.w B.M₀ ρ st a W ∧ G.lq st.G ∧ k st
/-- What a call of yield comes to. -/
def YOK (r : Option Nat) (P : Program) (κ : Yt → Bs → Prop) : Prop :=
  ∀ l args rest B M W, κ (some (l, args :: rest)) B → Below B.n₀ B.w W → B.n₀ ≤ W.heap.size → Mem.ok M W → (∀ b, b < B.n₀ → M b = B.M₀ b) → ∀ n, YieldAt (Fw r) n P l args.toArray W fun e W' =>
    M.ok W' ∧ ((e = .returned (.bool true) ∧ κ (some (l, rest)) ⟨W'.heap.size, W', M⟩) ∨ (e = .returned (.bool false) ∧ κ none ⟨W'.heap.size, W', M⟩))
/-- The temporaries that fx names are as they were. -/
def Keep (fx : Nat → Prop) (tm : Array Value) (a : Act) : Prop := ∀ d, fx d → a.tmps[d]? = tm[d]?
/-- Code that writes no temporary that fx names. -/
def wr (fx : Nat → Prop) : Code → Prop
  | .region _ ops _ => ∀ o ∈ ops.toList, ∀ d, o.dst = some d → ¬ fx d
  | .seq a b => wr fx a ∧ wr fx b
  | .cond _ a b => wr fx a ∧ wr fx b
  | .block _ c => wr fx c
  | .loop c => wr fx c
  | .scope c => wr fx c
  | _ => True
theorem Keep.put {fx : Nat → Prop} {tm : Array Value} {a : Act} (h : Keep fx tm a) {d : Option Tmp} (hd : ∀ t, d = some t → ¬ fx t) (v : Value) : Keep fx tm (a.put d v) := by
  intro e he
  cases d with
  | none => exact h e he
  | some d =>
    have hne : d ≠ e := fun x => hd d rfl (x ▸ he)
    simp only [Act.put]
    rw [Array.getElem?_setIfInBounds_ne hne]
    exact h e he
theorem op_keep {F : Fence} {n : Nat} {o : Oper} {a : Act} {W : World} {next : Act → World → Prop} {Q : Exit → Act → World → Prop} {fx : Nat → Prop} {tm : Array Value} (h : o.wpIn F n P a W next Q)
    (hd : ∀ t, o.dst = some t → ¬ fx t) (hk : Keep fx tm a) : o.wpIn F n P a W (fun a' W' => next a' W' ∧ Keep fx tm a') Q := by
  refine ⟨h.1, ?_⟩
  have h2 := h.2
  revert h2
  generalize (o.semAt F.round a.eval).run P W = res
  intro h2
  unfold Oper.uponIn at h2 ⊢
  split at h2
  · exact ⟨h2, hk.put hd _⟩
  · exact ⟨h2, hk.put hd _⟩
  · exact ⟨h2, Keep.put (a := { a with defers := _ :: a.defers }) hk hd _⟩
  · refine ⟨h2.1, h2.2.mono ?_⟩
    intro e W' he
    cases e with
    | returned v => exact ⟨he, hk.put hd _⟩
    | panicked => exact he
    | outgrown => exact he
  · refine ⟨h2.1, h2.2.mono ?_⟩
    intro v W' he
    exact ⟨he, hk.put hd _⟩
  · refine ⟨h2.1, h2.2.mono ?_⟩
    intro e W' he
    cases e with
    | returned v => exact ⟨he, hk.put hd _⟩
    | panicked => exact he
    | outgrown => exact he
  · exact h2
  · exact h2.elim

/-- How code is left, meant. -/
def Post (κ : Yt → Bs → Prop) (G : Gh) (Q : Ex → St → Prop) (fx : Nat → Prop) (tm : Array Value) : Exit → Act → World → Prop := fun e a W => (∃ ex, exOf e = some ex ∧ KK κ G (Q ex) a W) ∧ Keep fx tm a
/-- In a round of a loop over an iterator that loop's record is pinned. -/
def RoundOK (r : Option Nat) (G : Mem) : Prop := ∀ l, r = some l → ∃ rec, G l = some (.loop rec)
theorem RoundOK.le {r : Option Nat} {G G' : Mem} (h : RoundOK r G) (hl : G.le G') : RoundOK r G' := fun l hr => let ⟨rec, h1⟩ := h l hr; ⟨rec, hl _ _ h1⟩

/-- Code that is walked by a law of its own. -/
structure VCode (P : Program) (c : Code) (st : St) (Q : Ex → St → Prop) : Prop where
  run : ∀ r n κ B ρ a W fx tm, YOK r P κ → RoundOK r st.G.m → κ st.G.Y B → Sat B.n₀ B.w B.M₀ ρ st a W → wr fx c → Keep fx tm a → c.wpIn (Fw r) n P (Post κ st.G Q fx tm) a W

/-- yield is called. -/
inductive VYield (l : Nat) (args : List Value) (G : Gh) (K : Value → Gh → Prop) : Prop
  | mk (rest : List (List Value)) (hG : G = ⟨fun _ => none, some (l, args :: rest), fun _ => none⟩) (h1 : K (.bool true) ⟨fun _ => none, some (l, rest), fun _ => none⟩) (h2 : K (.bool false) ⟨fun _ => none, none, fun _ => none⟩)
def yieldK (l : Nat) (args : List Value) (st : St) (k : Value → St → Prop) : Prop :=
  match st with
  | ⟨sl, _, nx, M, nt, G⟩ => VYield l args G fun v G' => k v ⟨sl, [], nx, M, nt, G'⟩
/-- One operation; a call of yield among them. -/
def stepY (C : VX) (P : Program) (st : St) (o : Oper) (k : St → Prop) : Prop :=
  match o.op with
  | .call c => match c.callee with
    | .value f => match st.ev f with
      | some (.v (.func (.yield l) fst cap)) => match fst.toList, cap.toList, evs st c.args.toList with
        | [], [], some as => frzAll true (fun st as => match vals as with
          | some vs => yieldK l vs st fun v st' => st'.putv o.dst (.v v) k
          | none => VStuck 160) 12 st as
        | _, _, _ => VStuck 161
      | _ => step C P st o k
    | _ => step C P st o k
  | _ => step C P st o k
theorem KK_of_KOf {κ : Yt → Bs → Prop} {B : Bs} {G : Gh} {k : St → Prop} {a : Act} {W : World} (hκ : κ G.Y B) (h : KOf B.n₀ B.w B.M₀ G k a W) : KK κ G k a W := by
  obtain ⟨ρ, st, h1, h2, h3⟩ := h
  exact ⟨B, ρ, st, by rw [h2.2]; exact hκ, h1, h2.1, h3⟩
theorem marks_nil {n₀ : Nat} {G : Mem} {ds : List Deferred} (h : Marks n₀ G ds) (hG : ∀ b, G b = none) : ds = [] := by
  cases ds with
  | nil => rfl
  | cons d ds => obtain ⟨⟨D, _, h2, _⟩, _⟩ := h; rw [hG] at h2; cases h2
theorem stepY_sound {C : VX} (hC : VXOK P C) {r : Option Nat} {n : Nat} {κ : Yt → Bs → Prop} (hY : YOK r P κ) {B : Bs} {ρ : Env} {st : St} {a : Act} {W : World} {o : Oper} {k : St → Prop} {Q : Exit → Act → World → Prop}
    (hk : stepY C P st o k) (hκ : κ st.G.Y B) (h : Sat B.n₀ B.w B.M₀ ρ st a W) : o.wpIn (Fw r) n P a W (KK κ st.G k) Q := by
  have old : step C P st o k → o.wpIn (Fw r) n P a W (KK κ st.G k) Q := fun hk => Oper.wpIn_mono (fun _ _ hq => KK_of_KOf hκ hq) (step_sound hC hk h)
  unfold stepY at hk
  split at hk
  · rename_i c ho
    split at hk
    · rename_i f hc
      split at hk
      · rename_i l fst cap hf
        split at hk
        · rename_i as hfst hcap hev
          have hfst' : fst = #[] := by apply Array.ext'; simpa using hfst
          have hcap' : cap = #[] := by apply Array.ext'; simpa using hcap
          subst hfst'; subst hcap'
          obtain ⟨e1, _⟩ := h.ev hf
          obtain ⟨i1, i2⟩ := evs_spec h hev
          obtain ⟨st1, as1, h1, e2, _, t1, hk⟩ := frzAll_sound _ h i2 hk
          split at hk
          · rename_i vs hvs
            have hargs : c.args.map a.eval = vs.toArray := by
              apply Array.ext'
              rw [Array.toList_map, i1, ← e2, vals_den hvs]
            obtain ⟨sl, ow, nx, M, nt, G⟩ := st1
            simp only [yieldK] at hk
            obtain ⟨rest, hG, k1, k2⟩ := hk
            subst hG
            have hds : a.defers = [] := marks_nil h1.marks (fun _ => rfl)
            have hb := h1.h.below
            have hsz := h1.h.size
            have hm := h1.h.mem
            have hlow := h1.h.mlow
            rw [← t1] at hκ
            have hmG : st.G.m = fun _ => none := by rw [← t1]
            have hfG : st.G.f = fun _ => none := by rw [← t1]
            refine ⟨fun _ _ => trivial, ?_⟩
            obtain ⟨fn, tmps, assign, body, hy, hround⟩ := hY l vs rest B M W hκ hb hsz hm hlow (n - 1)
            have hrun : (execOp a.eval o).run P W = .ok (.round l fn tmps assign body) W := by
              simp only [execOp, ho, resolve, hc, e1, SV.den, Deferred.ofValue, Sem.run_bind, Sem.run_pure, Result.andThen_ok, invoke, hargs]
              simp [hy]
            rw [Oper.semAt_plain _ _ _ (fun c' => by rw [ho]; simp), hrun]
            refine ⟨fun h => (by cases h), ?_⟩
            refine hround.mono ?_
            have fin : ∀ (v : Value) (Y : Yt) (W' : World), M.ok W' → κ Y ⟨W'.heap.size, W', M⟩ → St.putv ⟨sl, [], nx, M, nt, ⟨fun _ => none, Y, fun _ => none⟩⟩ o.dst (.v v) k → KK κ st.G k (a.put o.dst v) W' := by
              intro v Y W' hM' hκ' hput
              have hs : Sat W'.heap.size W' M ρ ⟨sl, [], nx, M, nt, ⟨fun _ => none, Y, fun _ => none⟩⟩ a W' := by
                refine ⟨⟨Below.refl _ _, Nat.le_refl _, hM', ?_, ?_, ?_, ?_, fun _ _ => rfl, fun b o hb => by cases hb⟩, h1.nt, h1.sl, by rw [hds]; trivial⟩
                · intro id e he; simp [St.own, look] at he
                · intro i j ei ej hi; simp [St.own, look] at hi
                · intro i e b hi; simp [St.own, look] at hi
                · intro b o hb; cases hb
              obtain ⟨j1, j2⟩ := putv_elim hput hs trivial
              refine ⟨⟨W'.heap.size, W', M⟩, ρ, _, ?_, j1, ?_, j2⟩
              · rw [put_G]; exact hκ'
              · refine ⟨(by rw [hmG]; intro b o hb; cases hb), ?_⟩
                rw [hfG, put_G]
            rintro e W' ⟨hM', ⟨rfl, hκ'⟩ | ⟨rfl, hκ'⟩⟩
            · exact fin _ _ _ hM' hκ' k1
            · exact fin _ _ _ hM' hκ' k2
          · cases hk
        · cases hk
      · exact old hk
    · exact old hk
  · exact old hk

def St.lit (st : St) (d : Nat) (b : Bool) : St := { st with sl := (d, .v (.bool b)) :: st.sl }
theorem Sat.lit {n₀ : Nat} {w : World} {M₀ : Mem} {ρ : Env} {st : St} {a : Act} {W : World} (h : Sat n₀ w M₀ ρ st a W) {d : Nat} {b : Bool} (hd : look st.sl d = some (.v (.bool b))) : Sat n₀ w M₀ ρ (st.lit d b) a W := by
  refine ⟨h.h.same rfl rfl rfl rfl, h.nt, ?_, h.marks⟩
  intro e s he
  simp only [St.lit, look_cons] at he
  split at he
  · rename_i hed
    subst hed
    cases he
    exact h.sl e _ hd
  · exact h.sl e s he

def St.litK (st : St) (d : Nat) (b : Bool) (k : St → Prop) : Prop :=
  match st with
  | ⟨sl, ow, nx, M, nt, G⟩ => k ⟨(d, .v (.bool b)) :: sl, ow, nx, M, nt, G⟩
theorem litK_iff {st : St} {d : Nat} {b : Bool} {k : St → Prop} (h : st.litK d b k) : k (st.lit d b) := by cases st; exact h
/-- An operation under its guard. -/
def guardV (ops : List Oper) (st : St) (o : Oper) (A B : St → Prop) : Prop :=
  match o.guard with
  | none => A st
  | some (j, want) => match ops[j]? with
    | some oj => match oj.dst with
      | some d => match look st.sl d with
        | some (.v (.bool b)) => match want with
          | true => VIf b (st.litK d true A) (st.litK d false B)
          | false => VIf b (st.litK d true B) (st.litK d false A)
        | some (.v (.tuple _)) => B st
        | _ => VStuck 140
      | none => VStuck 141
    | none => VStuck 142
theorem guard_sound {n₀ : Nat} {w : World} {M₀ : Mem} {ρ : Env} {st : St} {a : Act} {W : World} (h : Sat n₀ w M₀ ρ st a W) {ops : Array Oper} {o : Oper} {A B : St → Prop} (hg : guardV ops.toList st o A B) :
    ∃ st', Sat n₀ w M₀ ρ st' a W ∧ st'.G = st.G ∧ ((Region.wanted o (yielded ops a.tmps) = true ∧ A st') ∨ (Region.wanted o (yielded ops a.tmps) = false ∧ B st')) := by
  unfold guardV at hg
  split at hg
  · rename_i ho
    exact ⟨st, h, rfl, .inl ⟨by simp [Region.wanted, ho], hg⟩⟩
  · rename_i j want ho
    split at hg
    · rename_i oj hj
      have hj' : ops[j]? = some oj := by simpa using hj
      split at hg
      · rename_i d hd
        split at hg
        · rename_i b hl
          have hy : yielded ops a.tmps j = some b := by
            obtain ⟨_, _, h3⟩ := h.sl d _ hl
            simp [yielded, hj', hd, h3, SV.den]
          split at hg
          · obtain ⟨h1, h2⟩ := hg
            cases b with
            | true => exact ⟨_, h.lit hl, rfl, .inl ⟨by simp [Region.wanted, ho, hy], litK_iff (h1 rfl)⟩⟩
            | false => exact ⟨_, h.lit hl, rfl, .inr ⟨by simp [Region.wanted, ho, hy], litK_iff (h2 rfl)⟩⟩
          · obtain ⟨h1, h2⟩ := hg
            cases b with
            | true => exact ⟨_, h.lit hl, rfl, .inr ⟨by simp [Region.wanted, ho, hy], litK_iff (h1 rfl)⟩⟩
            | false => exact ⟨_, h.lit hl, rfl, .inl ⟨by simp [Region.wanted, ho, hy], litK_iff (h2 rfl)⟩⟩
        · rename_i vs hl
          have hy : yielded ops a.tmps j = none := by
            obtain ⟨_, _, h3⟩ := h.sl d _ hl
            simp [yielded, hj', hd, h3, SV.den]
          exact ⟨st, h, rfl, .inr ⟨by simp [Region.wanted, ho, hy], hg⟩⟩
        · cases hg
      · cases hg
    · cases hg

def vcOps (C : VX) (P : Program) (ops : List Oper) : List Oper → St → (St → Prop) → Prop
  | [], st, k => k st
  | o :: r, st, k => guardV ops st o (fun st => stepY C P st o fun st' => vcOps C P ops r st' k) (fun st => st.putv o.dst (.v (.tuple #[])) fun st' => vcOps C P ops r st' k)
theorem vcOps_sound {C : VX} (hC : VXOK P C) {r : Option Nat} {n : Nat} {κ : Yt → Bs → Prop} (hY : YOK r P κ) {fx : Nat → Prop} {tm : Array Value} {ops : Array Oper} {k : St → Prop} {G : Gh} {Q : Exit → Act → World → Prop} (hQ : ∀ a W, KK κ G k a W → Keep fx tm a → Q .normal a W) :
    ∀ (l : List Oper) {B : Bs} {ρ : Env} {st : St} {a : Act} {W : World}, vcOps C P ops.toList l st k → κ st.G.Y B → Sat B.n₀ B.w B.M₀ ρ st a W → G.lq st.G → (∀ o ∈ l, ∀ d, o.dst = some d → ¬ fx d) → Keep fx tm a → wpListIn (Fw r) n P ops Q l a W
  | [], B, ρ, st, a, W, hk, hκ, h, hG, _, hkp => hQ a W ⟨B, ρ, st, hκ, h, hG, hk⟩ hkp
  | o :: l, B, ρ, st, a, W, hk, hκ, h, hG, hw, hkp => by
    simp only [vcOps] at hk
    obtain ⟨st1, h1, hG1, hcase⟩ := guard_sound h hk
    have hwo := hw o (List.mem_cons_self)
    have hwl := fun o' (ho' : o' ∈ l) => hw o' (List.mem_cons_of_mem _ ho')
    refine wpListIn_step fun K hK => ?_
    rcases hcase with ⟨hw', hA⟩ | ⟨hw', hB⟩
    · rw [if_pos hw']
      refine Oper.wpIn_mono ?_ (op_keep (stepY_sound hC hY hA (by rw [hG1]; exact hκ) h1) hwo hkp)
      rintro a' W' ⟨⟨B', ρ', st', hκ', h2, hG2, h3⟩, hkp'⟩
      exact hK _ _ (vcOps_sound hC hY hQ l h3 hκ' h2 (hG.trans (by rw [← hG1]; exact hG2)) hwl hkp')
    · rw [if_neg (by rw [hw']; exact Bool.false_ne_true)]
      refine ⟨fun _ _ => trivial, ?_⟩
      obtain ⟨j1, j2⟩ := putv_elim hB h1 (by trivial)
      exact hK _ _ (vcOps_sound hC hY hQ l j2 (by rw [put_G, hG1]; exact hκ) j1 (by rw [put_G, hG1]; exact hG) hwl (hkp.put hwo _))

/-! ### A region that draws its order -/
def madeHere (ops : List Oper) : Operand → Bool
  | .tmp d => ops.any fun o => (match o.dst with | some e => Nat.beq d e | none => false) && match o.op with | .buildSlice .. => true | _ => false
  | _ => false
def isVal (ops : List Oper) (o : Oper) : Bool :=
  match o.op with
  | .build _ parts => parts.toList.all fun p => !madeHere ops p.2
  | .move _ => true | .assign _ => true | .pick .. => true | .load .. => true | .binOp .. => true | .unOp .. => true | .convert .. => true | .extract .. => true | .fieldAddr .. => true | .field .. => true
  | .indexAddr .. => true | .makeFunc .. => true | .nilCheck _ => true | .slice .. => true
  | .call c => match c.callee with | .builtin .len => true | .builtin .max => true | .builtin .min => true | _ => false
  | _ => false
/-- The law's order: whatever yields a value comes as soon as it can. -/
def ordGo (ops : List Oper) (tab : List Nat) : Nat → List Nat → List (Nat × Nat)
  | 0, _ => []
  | f + 1, done =>
    let rdy := (List.range ops.length).filter fun i => !done.any (Nat.beq i) && match ops[i]? with | some o => (bindsOn o).all (fun k => done.any (Nat.beq k)) | none => false
    match rdy.find? (fun i => match ops[i]? with | some o => isVal ops o | none => false) with
    | some i => (i, 0) :: ordGo ops tab f (i :: done)
    | none => match rdy with
      | i :: _ => (i, if done.all (anc tab i) then 2 else 1) :: ordGo ops tab f (i :: done)
      | [] => []
def ordOf (ops : List Oper) : List (Nat × Nat) := ordGo ops (tabOf ops) ops.length []
def vcOrd (C : VX) (P : Program) (ops : List Oper) : List (Nat × Nat) → St → (St → Prop) → Prop
  | [], st, k => k st
  | (i, m) :: rest, st, k => match ops[i]? with
    | none => VStuck 190
    | some o => match m with
      | 0 => guardV ops st o (fun st => val C st o fun s => st.putv o.dst s fun st' => vcOrd C P ops rest st' k) (fun st => st.putv o.dst (.v (.tuple #[])) fun st' => vcOrd C P ops rest st' k)
      | 1 => guardV ops st o (fun st => stepM C P st o fun st' => vcOrd C P ops rest st' k) (fun st => st.putv o.dst (.v (.tuple #[])) fun st' => vcOrd C P ops rest st' k)
      | _ => guardV ops st o (fun st => stepY C P st o fun st' => vcOrd C P ops rest st' k) (fun st => st.putv o.dst (.v (.tuple #[])) fun st' => vcOrd C P ops rest st' k)
/-- A region that draws its order: the order in which it is walked. -/
inductive VDraw (ops : Array Oper) (K : List (Nat × Nat) → Prop) : Prop
  | mk (ord : List (Nat × Nat)) (tab : List Nat) (h : drawOK ops ord tab = true) (hk : K ord)
theorem VDraw.go {ops : Array Oper} {K : List (Nat × Nat) → Prop} (h : drawOK ops (ordOf ops.toList) (tabOf ops.toList) = true) (hk : K (ordOf ops.toList)) : VDraw ops K := ⟨_, _, h, hk⟩
theorem vcOrd_sound {C : VX} (hC : VXOK P C) {r : Option Nat} {n : Nat} {κ : Yt → Bs → Prop} (hY : YOK r P κ) {fx : Nat → Prop} {tm : Array Value} {ops : Array Oper} {k : St → Prop} {G : Gh} {Q : Exit → Act → World → Prop} (hQ : ∀ a W, KK κ G k a W → Keep fx tm a → Q .normal a W) (hw : ∀ o ∈ ops.toList, ∀ d, o.dst = some d → ¬ fx d) :
    ∀ (l : List (Nat × Nat)) {B : Bs} {ρ : Env} {st : St} {a : Act} {W : World}, vcOrd C P ops.toList l st k → κ st.G.Y B → Sat B.n₀ B.w B.M₀ ρ st a W → G.lq st.G → Keep fx tm a → eag (Fw r) n P ops Q l a W := by
  intro l
  induction l with
  | nil => intro B ρ st a W hk hκ h hG hkp; exact hQ a W ⟨B, ρ, st, hκ, h, hG, hk⟩ hkp
  | cons x rest ih =>
    obtain ⟨i, m⟩ := x
    intro B ρ st a W hk hκ h hG hkp
    simp only [vcOrd] at hk
    split at hk
    · cases hk
    · rename_i o ho
      have ho' : ops[i]? = some o := by simpa using ho
      have hwo := hw o (List.mem_of_getElem? ho)
      have skip : ∀ {st1 : St}, Sat B.n₀ B.w B.M₀ ρ st1 a W → st1.G = st.G → (st1.putv o.dst (.v (.tuple #[])) fun st' => vcOrd C P ops.toList rest st' k) → eag (Fw r) n P ops Q rest (a.put o.dst undef) W := by
        intro st1 h1 hG1 hB
        obtain ⟨j1, j2⟩ := putv_elim hB h1 (by trivial)
        exact ih j2 (by rw [put_G, hG1]; exact hκ) j1 (by rw [put_G, hG1]; exact hG) (hkp.put hwo _)
      refine ⟨o, ho', ?_⟩
      match m, hk with
      | 0, hk =>
        obtain ⟨st1, h1, hG1, hcase⟩ := guard_sound h hk
        rcases hcase with ⟨hw', hA⟩ | ⟨hw', hB⟩
        · obtain ⟨_, s, q1, q2, q3⟩ := val_sound hC hA h1
          obtain ⟨j1, j2⟩ := putv_elim q3 h1 q1
          refine ⟨s.den ρ, fun W' hb => .inl ⟨hw', q2 W' ?_⟩, fun _ _ _ _ => trivial, ih j2 (by rw [put_G, hG1]; exact hκ) j1 (by rw [put_G, hG1]; exact hG) (hkp.put hwo _)⟩
          refine h1.h.grow hb (M' := st1.M) ?_ (fun _ _ => rfl)
          intro b o hb'
          have := h1.h.mem b o hb'
          rw [hb.block b (Array.getElem?_eq_some_iff.1 this).1]; exact this
        · exact ⟨undef, fun W' hb => .inr ⟨hw', rfl⟩, fun _ _ _ _ => trivial, skip h1 hG1 hB⟩
      | 1, hk =>
        obtain ⟨st1, h1, hG1, hcase⟩ := guard_sound h hk
        unfold wpOpIn
        simp only [ho']
        rcases hcase with ⟨hw', hA⟩ | ⟨hw', hB⟩
        · rw [if_pos hw']
          refine Oper.wpIn_mono ?_ (op_keep (stepM_sound hC hA h1) hwo hkp)
          rintro a' W' ⟨⟨hb, hK⟩, hkp'⟩
          obtain ⟨B', ρ', st', hκ', g1, g2, g3⟩ := KK_of_KOf (B := B) (κ := κ) (by rw [hG1]; exact hκ) hK
          exact ⟨hb, ih g3 hκ' g1 (hG.trans (by rw [← hG1]; exact g2)) hkp'⟩
        · rw [if_neg (by rw [hw']; exact Bool.false_ne_true)]
          exact ⟨fun _ _ => trivial, Below.refl _ _, skip h1 hG1 hB⟩
      | m + 2, hk =>
        obtain ⟨st1, h1, hG1, hcase⟩ := guard_sound h hk
        show wpOpIn (Fw r) n P ops Q i (eag (Fw r) n P ops Q rest) a W
        unfold wpOpIn
        simp only [ho']
        rcases hcase with ⟨hw', hA⟩ | ⟨hw', hB⟩
        · rw [if_pos hw']
          refine Oper.wpIn_mono ?_ (op_keep (stepY_sound hC hY hA (by rw [hG1]; exact hκ) h1) hwo hkp)
          rintro a' W' ⟨⟨B', ρ', st', hκ', g1, g2, g3⟩, hkp'⟩
          exact ih g3 hκ' g1 (hG.trans (by rw [← hG1]; exact g2)) hkp'
        · rw [if_neg (by rw [hw']; exact Bool.false_ne_true)]
          exact ⟨fun _ _ => trivial, skip h1 hG1 hB⟩

/-- The verification condition of code. -/
def vc (C : VX) (P : Program) : Code → St → (Ex → St → Prop) → Prop
  | .skip, st, Q => Q .normal st
  | .region _ ops draw, st, Q => match draw with
    | false => vcOps C P ops.toList ops.toList st (Q .normal)
    | true => VDraw ops fun ord => vcOrd C P ops.toList ord st (Q .normal)
  | .seq a b, st, Q => vc C P a st fun e st' => match e with
    | .normal => vc C P b st' Q
    | .ret => Q .ret st'
    | .exit i => Q (.exit i) st'
  | .cond c a b, st, Q => match c with
    | .tmp t => match look st.sl t with
      | some (.v (.bool x)) => VIf x (st.litK t true fun st' => vc C P a st' Q) (st.litK t false fun st' => vc C P b st' Q)
      | _ => VStuck 150
    | _ => VStuck 151
  | .block id c, st, Q => vc C P c st fun e st' => match e with
    | .exit j => match Nat.beq j id with
      | true => Q .normal st'
      | false => Q (.exit j) st'
    | .normal => Q .normal st'
    | .ret => Q .ret st'
  | .exit id, st, Q => Q (.exit id) st
  | .ret, st, Q => Q .ret st
  | c, st, Q => VCode P c st Q

theorem post_mono {κ : Yt → Bs → Prop} {G G' : Gh} (hG : G.lq G') {Q : Ex → St → Prop} {fx : Nat → Prop} {tm : Array Value} : ∀ (e : Exit) (a : Act) (W : World), Post κ G' Q fx tm e a W → Post κ G Q fx tm e a W :=
  fun _ _ _ ⟨⟨ex, h1, B, ρ, st, hκ, h2, h3, h4⟩, hk⟩ => ⟨⟨ex, h1, B, ρ, st, hκ, h2, hG.trans h3, h4⟩, hk⟩

theorem vc_sound {C : VX} (hC : VXOK P C) {r : Option Nat} {n : Nat} {κ : Yt → Bs → Prop} (hY : YOK r P κ) {fx : Nat → Prop} {tm : Array Value} : ∀ (c : Code) {Q : Ex → St → Prop} {B : Bs} {ρ : Env} {st : St} {a : Act} {W : World}, vc C P c st Q → RoundOK r st.G.m → κ st.G.Y B → Sat B.n₀ B.w B.M₀ ρ st a W →
    wr fx c → Keep fx tm a → c.wpIn (Fw r) n P (Post κ st.G Q fx tm) a W
  | .skip, Q, B, ρ, st, a, W, hk, _, hκ, h, _, hkp => wpIn_skip ⟨⟨.normal, rfl, B, ρ, st, hκ, h, Gh.lq_refl _, hk⟩, hkp⟩
  | .region id ops draw, Q, B, ρ, st, a, W, hk, hr, hκ, h, hw, hkp => by
    cases draw with
    | false =>
      simp only [vc] at hk
      refine wpIn_region_list ?_
      exact vcOps_sound hC hY (G := st.G) (k := Q .normal) (fun a W hK hkp => ⟨⟨.normal, rfl, hK⟩, hkp⟩) _ hk hκ h (Gh.lq_refl _) hw hkp
    | true =>
      simp only [vc] at hk
      obtain ⟨ord, tab, hok, hk⟩ := hk
      refine wpIn_region_eag hC.mixed hok ?_ ?_
      · rintro c a' w' ⟨⟨ex, he, _⟩, _⟩; cases he
      · refine vcOrd_sound hC hY (G := st.G) (k := Q .normal) (fun a W hK hkp => ⟨⟨.normal, rfl, hK⟩, hkp⟩) hw ord hk hκ (h.grow (W' := { W with drawn := W.drawn + 1 }) (Below.drew (Below.refl _ W)) (M' := st.M) h.h.mem (fun _ _ => rfl)) (Gh.lq_refl _) hkp
  | .seq x y, Q, B, ρ, st, a, W, hk, hr, hκ, h, hw, hkp => by
    simp only [vc] at hk
    refine wpIn_seq (wpIn_mono (vc_sound hC hY x hk hr hκ h hw.1 hkp) ?_)
    rintro e a' W' ⟨⟨ex, he, B', ρ', st', hκ', h1, h2, h3⟩, hkp'⟩
    cases e with
    | normal =>
      cases he
      exact wpIn_mono (vc_sound hC hY y h3 (hr.le h2.1) hκ' h1 hw.2 hkp') (post_mono h2)
    | ret => cases he; exact ⟨⟨.ret, rfl, B', ρ', st', hκ', h1, h2, h3⟩, hkp'⟩
    | exit i => cases he; exact ⟨⟨.exit i, rfl, B', ρ', st', hκ', h1, h2, h3⟩, hkp'⟩
    | goto => cases he
    | panic => cases he
    | outgrown => cases he
  | .cond c x y, Q, B, ρ, st, a, W, hk, hr, hκ, h, hw, hkp => by
    simp only [vc] at hk
    split at hk
    · rename_i t
      split at hk
      · rename_i b hl
        obtain ⟨h1, h2⟩ := hk
        have he : a.eval (.tmp t) = .bool b := (h.ev (x := .tmp t) hl).1
        cases b with
        | true => exact wpIn_cond_true he (vc_sound hC hY x (st := st.lit t true) (litK_iff (h1 rfl)) hr hκ (h.lit hl) hw.1 hkp)
        | false => exact wpIn_cond_false he (vc_sound hC hY y (st := st.lit t false) (litK_iff (h2 rfl)) hr hκ (h.lit hl) hw.2 hkp)
      · cases hk
    · cases hk
  | .block id c, Q, B, ρ, st, a, W, hk, hr, hκ, h, hw, hkp => by
    simp only [vc] at hk
    refine wpIn_block (wpIn_mono (vc_sound hC hY c hk hr hκ h hw hkp) ?_)
    rintro e a' W' ⟨⟨ex, he, B', ρ', st', hκ', h1, h2, h3⟩, hkp'⟩
    cases e with
    | normal => cases he; exact ⟨⟨.normal, rfl, B', ρ', st', hκ', h1, h2, h3⟩, hkp'⟩
    | ret => cases he; exact ⟨⟨.ret, rfl, B', ρ', st', hκ', h1, h2, h3⟩, hkp'⟩
    | exit i =>
      cases he
      by_cases hi : i = id
      · subst hi
        have : Nat.beq i i = true := Nat.beq_refl i
        simp only [this] at h3
        simp only [Exit.inBlock, if_true]
        exact ⟨⟨.normal, rfl, B', ρ', st', hκ', h1, h2, h3⟩, hkp'⟩
      · have : Nat.beq i id = false := by
          cases hb : Nat.beq i id with
          | false => rfl
          | true => exact absurd (Nat.eq_of_beq_eq_true hb) hi
        simp only [this] at h3
        simp only [Exit.inBlock, hi, if_false]
        exact ⟨⟨.exit i, rfl, B', ρ', st', hκ', h1, h2, h3⟩, hkp'⟩
    | goto => cases he
    | panic => cases he
    | outgrown => cases he
  | .exit id, Q, B, ρ, st, a, W, hk, _, hκ, h, _, hkp => wpIn_exit ⟨⟨.exit id, rfl, B, ρ, st, hκ, h, Gh.lq_refl _, hk⟩, hkp⟩
  | .ret, Q, B, ρ, st, a, W, hk, _, hκ, h, _, hkp => wpIn_ret ⟨⟨.ret, rfl, B, ρ, st, hκ, h, Gh.lq_refl _, hk⟩, hkp⟩
  | .loop c, Q, B, ρ, st, a, W, hk, hr, hκ, h, hw, hkp => VCode.run hk r n κ B ρ a W fx tm hY hr hκ h hw hkp
  | .rangeFunc f ps x y, Q, B, ρ, st, a, W, hk, hr, hκ, h, hw, hkp => VCode.run hk r n κ B ρ a W fx tm hY hr hκ h hw hkp
  | .scope c, Q, B, ρ, st, a, W, hk, hr, hκ, h, hw, hkp => VCode.run hk r n κ B ρ a W fx tm hY hr hκ h hw hkp
  | .label l, Q, B, ρ, st, a, W, hk, hr, hκ, h, hw, hkp => VCode.run hk r n κ B ρ a W fx tm hY hr hκ h hw hkp
  | .goto l, Q, B, ρ, st, a, W, hk, hr, hκ, h, hw, hkp => VCode.run hk r n κ B ρ a W fx tm hY hr hκ h hw hkp
  | .refuse s, Q, B, ρ, st, a, W, hk, hr, hκ, h, hw, hkp => VCode.run hk r n κ B ρ a W fx tm hY hr hκ h hw hkp
end Go.V
