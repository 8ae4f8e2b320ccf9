/- The verification-condition framework, part E: stores, and the operations that touch no memory. -/
import Derived.Test.YtaobaeiohjgdcaaVd
namespace Go.V
open Go Go.RowKit
variable {P : Program}

theorem cells_den {ρ : Env} {s : SV} {l : List SV} (h : s.cells = some l) : (s.den ρ).cells = (l.map (SV.den ρ)).toArray := by
  cases s with
  | v x =>
    have e : SV.den ρ ∘ SV.v = id := rfl
    cases x <;> simp only [SV.cells, reduceCtorEq, Option.some.injEq] at h <;> subst h <;> simp [SV.den, Value.cells, e]
  | box id off => simp only [SV.cells, Option.some.injEq] at h; subst h; simp [SV.den, Value.cells]
  | row id =>
    simp only [SV.cells, Option.some.injEq] at h; subst h
    simp only [List.map_cons, List.map_nil, SV.den]
    cases ρ id <;> rfl
  | clo f x y => simp only [SV.cells, Option.some.injEq] at h; subst h; simp [SV.den, Value.cells]
  | tup l' => cases h
theorem cells_sc {nx : Nat} {s : SV} {l : List SV} (h : s.cells = some l) (hs : s.sc nx) : ∀ x ∈ l, x.sc nx := by
  cases s with
  | v x =>
    cases x <;> simp only [SV.cells, reduceCtorEq, Option.some.injEq] at h <;> subst h <;> intro y hy
    all_goals first
      | (simp at hy; subst hy; trivial)
      | (simp only [List.mem_map] at hy; obtain ⟨z, _, rfl⟩ := hy; trivial)
  | box id off => simp only [SV.cells, Option.some.injEq] at h; subst h; intro y hy; simp at hy; subst hy; exact hs
  | row id => simp only [SV.cells, Option.some.injEq] at h; subst h; intro y hy; simp at hy; subst hy; exact hs
  | clo f x y => simp only [SV.cells, Option.some.injEq] at h; subst h; intro y hy; simp at hy; subst hy; exact hs
  | tup l' => cases h
theorem setRow_grown (W : World) (g : Nat) (cs : Array Value) : W.grownBy (W.setRow g cs) (some g) :=
  ⟨rfl, rfl, rfl, by simp [World.setRow], fun k _ hk => by
    simp only [World.setRow, Array.getElem?_modify]
    rw [if_neg (fun e => hk (by rw [e]))]⟩
def splice (cs : List SV) (off : Nat) (vs : List SV) : List SV := cs.take off ++ vs ++ cs.drop (off + vs.length)
/-- The values of these cells are no aggregates, no tuples. -/
def SV.isOne : SV → Bool
  | .v (.agg _) => false
  | .v (.tuple _) => false
  | .v _ => true
  | .tup _ => false
  | _ => true
theorem isOne_den {ρ : Env} {s : SV} (h : s.isOne = true) : (s.den ρ).oneCell' = true := by
  cases s with
  | v x => cases x <;> first | rfl | cases h
  | box id off => rfl
  | row id => simp only [SV.den]; cases ρ id <;> rfl
  | clo f x y => rfl
  | tup l => cases h
def allOne : List SV → Bool
  | [] => true
  | s :: r => match s.isOne with | true => allOne r | false => false
theorem allOne_den {ρ : Env} : ∀ {l : List SV}, allOne l = true → ∀ v ∈ l.map (SV.den ρ), v.oneCell' = true
  | [], _, v, hv => by simp at hv
  | s :: r, h, v, hv => by
    simp only [allOne] at h
    cases hs : s.isOne with
    | false => rw [hs] at h; cases h
    | true =>
      rw [hs] at h
      simp only [List.map_cons, List.mem_cons] at hv
      rcases hv with rfl | hv
      · exact isOne_den hs
      · exact allOne_den h v hv

/-- A store into a variable of one's own. -/
def sto (te : List (Nat × TI)) (st : St) (t : TypeId) (p v : SV) (k : St → Prop) : Prop :=
  match look te t with
  | none => VStuck 30
  | some i => match p with
    | .box id off => match st.own id with
      | some (.box t' cs) => match v.cells with
        | some vs => match Nat.beq vs.length i.zero.length && Nat.ble (off + vs.length) cs.length && allOne vs with
          | true => match st with | ⟨sl, ow, nx, M, nt, G⟩ => k ⟨sl, (id, some (.box t' (splice cs off vs))) :: ow, nx, M, nt, G⟩
          | false => VStuck 31
        | none => VStuck 32
      | _ => VStuck 33
    | _ => VStuck 34
theorem sto_sound {te : List (Nat × TI)} (hte : TEOK P te) {n₀ : Nat} {w : World} {M₀ : Mem} {ρ : Env} {st : St} {a : Act} {W : World} (h : Sat n₀ w M₀ ρ st a W) {t : TypeId} {p v : SV} {k : St → Prop} (hv : v.sc st.nx)
    (hk : sto te st t p v k) : ∃ W' st', (Instr.storeAt t (p.den ρ) (v.den ρ)).run P W = .ok () W' ∧ Sat n₀ w M₀ ρ st' a W' ∧ st'.nt = st.nt ∧ st'.G = st.G ∧ k st' := by
  unfold sto at hk
  cases hi : look te t with
  | none => simp only [hi] at hk; cases hk
  | some i =>
    simp only [hi] at hk
    have hT := hte t i hi
    cases p with
    | box id off =>
      simp only at hk
      cases hid : st.own id with
      | none => simp only [hid] at hk; cases hk
      | some e =>
        simp only [hid] at hk
        cases e with
        | row => simp only at hk; cases hk
        | box t' cs =>
          simp only at hk
          cases hc : v.cells with
          | none => simp only [hc] at hk; cases hk
          | some vs =>
            simp only [hc] at hk
            cases hb : (Nat.beq vs.length i.zero.length && Nat.ble (off + vs.length) cs.length && allOne vs) with
            | false => simp only [hb] at hk; cases hk
            | true =>
              simp only [hb] at hk
              replace hk : k { st with ow := (id, some (.box t' (splice cs off vs))) :: st.ow } := by cases st; exact hk
              simp only [Bool.and_eq_true] at hb
              obtain ⟨⟨hb1, hb2⟩, hb3⟩ := hb
              have hb1 := Nat.eq_of_beq_eq_true hb1
              have hb2 := Nat.le_of_ble_eq_true hb2
              obtain ⟨g1, g2, B, hr, hn, hh⟩ := h.h.own id _ hid
              have hcd := cells_den (ρ := ρ) hc
              have hst := run_storeCells_at P B off t' (vs.map (SV.den ρ)) 0 (cs.map (SV.den ρ)).toArray W hh (by simpa using hb2) (allOne_den hb3)
              refine ⟨W.setRow B (((cs.map (SV.den ρ)).toArray.toList.take (off + 0) ++ vs.map (SV.den ρ) ++ (cs.map (SV.den ρ)).toArray.toList.drop (off + 0 + (vs.map (SV.den ρ)).length)).toArray), { st with ow := (id, some (.box t' (splice cs off vs))) :: st.ow }, ?_, ?_, rfl, rfl, hk⟩
              · have e1 : SV.den ρ (.box id off) = .pointer (some ⟨B, off, none⟩) := by simp [SV.den, hr, blkOf]
                rw [e1]
                generalize SV.den ρ v = x at hcd
                have h2 := hT.sizeOf W
                rw [← hb1] at h2
                simp only [Instr.storeAt, Instr.sureAddr, Sem.run_bind, Sem.run_pure, Result.andThen_ok, storeVar, hcd, h2]
                simp only [List.size_toArray, List.length_map, ne_eq, not_true_eq_false, if_false]
                simpa using hst
              · have hob : ob (ρ id) = some B := by simp [hr, ob]
                refine h.env (h.h.set (e' := .box t' (splice cs off vs)) hid (by rw [hob]; exact setRow_grown _ _ _) ?_ ?_) (Agree.refl _ _) (Nat.le_refl _) rfl rfl rfl
                · intro s hs
                  simp only [splice, List.mem_append] at hs
                  rcases hs with (hs | hs) | hs
                  · exact g2 s (List.mem_of_mem_take hs)
                  · exact cells_sc hc hv s hs
                  · exact g2 s (List.mem_of_mem_drop hs)
                · refine ⟨B, hr, hn, ?_⟩
                  rw [setRow_heap _ _ _ _ _ _ hh]
                  simp [splice, List.map_take, List.map_drop]
    | v x => simp only at hk; cases hk
    | row id => simp only at hk; cases hk
    | clo f x y => simp only at hk; cases hk
    | tup l => simp only at hk; cases hk
end Go.V
