/- The bridge: the types of this program; what a law leaves. -/
import Derived.Test.YtaobaeiohjgdcaaE1
namespace Go.Proofs.Ytaobaeiohjgdcaa
open Go Go.V Go.RowKit
section
variable {H : Type} {enc : TypeId × Value → H} {w : World} {sp : Nat → Bool} {held : Bool}
def PtD (_ : Mem) (p : Pt) (r : List Value) : Prop := r = [.int .i64 p.1, .int .i64 p.2] ∧ i64r p.1 ∧ i64r p.2
theorem field0 {P : Program} {t : TypeId} {fs : Array Field} {fuel : Nat} {cs : List Value} {x : DataW H × List MemPlace} (hu : P.underlying t = some (.struct fs)) (h : DataW.trod enc P w 0 sp held fuel t cs = some x) :
    cs.length = P.cellsOf t ∧ ∃ n, ∀ (i : Nat) (f : Field), fs[i]? = some f → ∃ y, DataW.trod enc P w 0 sp held n f.type ((cs.drop f.offset).take (P.cellsOf f.type)) = some y := by
  obtain ⟨xs, n, _, _, hl, hx, hf⟩ := DataW.trod_struct hu h
  refine ⟨hl, n, fun i f hi => ?_⟩
  have := hf i f hi
  have hlt := (Array.getElem?_eq_some_iff.1 hi).1
  rw [List.getElem?_eq_getElem (by omega)] at this
  exact ⟨_, this⟩
theorem len2 {α : Type} {l : List α} (h : l.length = 2) : ∃ a b, l = [a, b] := by
  match l, h with
  | [a, b], _ => exact ⟨a, b, rfl⟩
theorem len3 {α : Type} {l : List α} (h : l.length = 3) : ∃ a b c, l = [a, b, c] := by
  match l, h with
  | [a, b, c], _ => exact ⟨a, b, c, rfl⟩
theorem opens3 : Opens enc Try.prog w sp held IntD 3 1 := opens_int Try.underlying3
theorem opens39 : Opens enc Try.prog w sp held PtD 39 2 := by
  intro fuel cs x h
  obtain ⟨hl, n, hf⟩ := field0 Try.underlying39 h
  have hk : Try.prog.cellsOf 39 = 2 := by kernel_rfl
  have hk3 : Try.prog.cellsOf 3 = 1 := by kernel_rfl
  rw [hk] at hl
  obtain ⟨a, b, rfl⟩ : ∃ a b, cs = [a, b] := len2 hl
  obtain ⟨y, hy⟩ := hf 0 _ rfl
  obtain ⟨z, hz⟩ := hf 1 _ rfl
  have hy : DataW.trod enc Try.prog w 0 sp held n 3 ((List.drop 0 [a, b]).take (Try.prog.cellsOf 3)) = some y := hy
  rw [hk3] at hy
  have hz : DataW.trod enc Try.prog w 0 sp held n 3 ((List.drop 1 [a, b]).take (Try.prog.cellsOf 3)) = some z := hz
  rw [hk3] at hz
  obtain ⟨n1, ⟨h1, g1⟩, _⟩ := opens3 _ _ _ hy
  obtain ⟨n2, ⟨h2, g2⟩, _⟩ := opens3 _ _ _ hz
  simp at h1 h2
  subst h1 h2
  exact ⟨(n1, n2), ⟨rfl, g1, g2⟩, rfl, by simp [Value.oneCell']⟩
theorem cellsP_rows (ps : List Pt) : (ps.map fun p => [Value.int .i64 p.1, Value.int .i64 p.2]).flatten = cellsP ps := by
  induction ps with
  | nil => rfl
  | cons p ps ih => simp only [List.map_cons, List.flatten_cons, ih]; rfl
theorem Pts.of_arr {M : Mem} {v : Value} {ps : List Pt} (h : Arr PtD M 2 v ps) : Pts M v ps ∧ i64P ps := by
  obtain ⟨rows, h1, h2, h3, h4⟩ := h
  have e : rows = ps.map fun p => [Value.int .i64 p.1, Value.int .i64 p.2] := by
    apply List.ext_getElem?
    intro i
    rw [List.getElem?_map]
    cases hp : ps[i]? with
    | none =>
      have := List.getElem?_eq_none_iff.1 hp
      simp only [Option.map_none]
      exact List.getElem?_eq_none (by omega)
    | some p =>
      have hi := (List.getElem?_eq_some_iff.1 hp).1
      have hr : rows[i]? = some (rows[i]'(by omega)) := List.getElem?_eq_getElem (by omega)
      rw [hr]
      simp only [Option.map_some, Option.some.injEq]
      exact (h4 i p _ hp hr).1
  rw [e, cellsP_rows] at h3
  refine ⟨h3, fun i hi => ?_⟩
  have hp := getD_get (0, 0) hi
  have hr : rows[i]? = some (rows[i]'(by omega)) := List.getElem?_eq_getElem (by omega)
  exact (h4 i _ _ hp hr).2
theorem opens24 : Opens enc Try.prog w sp held PolyD 24 1 := by
  intro fuel cs x h
  obtain ⟨l, ⟨v, rfl, ha⟩, h2, h3⟩ := opens_slice Try.underlying24 (k := 2) (by kernel_rfl) (by omega) opens39 fuel cs x h
  exact ⟨l, ⟨v, rfl, Pts.of_arr ha⟩, h2, h3⟩
theorem opens43 : Opens enc Try.prog w sp held (fun M l r => ∃ v, r = [v] ∧ IntsV M v l) 43 1 := opens_slice Try.underlying43 (by kernel_rfl) (by omega) opens3
theorem opens44 : Opens enc Try.prog w sp held (fun M l r => ∃ v, r = [v] ∧ RegV M v l) 44 1 := opens_slice Try.underlying44 (by kernel_rfl) (by omega) opens24
theorem opens46 : Opens enc Try.prog w sp held CaseD 46 3 := by
  intro fuel cs x h
  obtain ⟨hl, n, hf⟩ := field0 Try.underlying46 h
  have hk : Try.prog.cellsOf 46 = 3 := by kernel_rfl
  have hk43 : Try.prog.cellsOf 43 = 1 := by kernel_rfl
  have hk44 : Try.prog.cellsOf 44 = 1 := by kernel_rfl
  rw [hk] at hl
  obtain ⟨a, b, c, rfl⟩ : ∃ a b c, cs = [a, b, c] := len3 hl
  obtain ⟨y, hy⟩ := hf 0 _ rfl
  obtain ⟨z, hz⟩ := hf 1 _ rfl
  obtain ⟨u, hu⟩ := hf 2 _ rfl
  have hy : DataW.trod enc Try.prog w 0 sp held n 43 ((List.drop 0 [a, b, c]).take (Try.prog.cellsOf 43)) = some y := hy
  rw [hk43] at hy
  have hz : DataW.trod enc Try.prog w 0 sp held n 43 ((List.drop 1 [a, b, c]).take (Try.prog.cellsOf 43)) = some z := hz
  rw [hk43] at hz
  have hu : DataW.trod enc Try.prog w 0 sp held n 44 ((List.drop 2 [a, b, c]).take (Try.prog.cellsOf 44)) = some u := hu
  rw [hk44] at hu
  obtain ⟨l1, ⟨v1, h1, g1⟩, _, o1⟩ := opens43 _ _ _ hy
  obtain ⟨l2, ⟨v2, h2, g2⟩, _, o2⟩ := opens43 _ _ _ hz
  obtain ⟨l3, ⟨v3, h3, g3⟩, _, o3⟩ := opens44 _ _ _ hu
  simp at h1 h2 h3
  subst h1 h2 h3
  exact ⟨⟨l1, l2, l3⟩, ⟨_, _, _, rfl, g1, g2, g3⟩, rfl, by simp [g1.one, g2.one, g3.one]⟩
theorem opens22 : Opens enc Try.prog w sp held (fun M l r => ∃ v, r = [v] ∧ CasV M v l) 22 1 := opens_slice Try.underlying22 (by kernel_rfl) (by omega) opens46
theorem CasV.one {M : Mem} {v : Value} {l : List CaseS} (h : CasV M v l) : v.oneCell' = true := by obtain ⟨ad, c, rfl, _⟩ := h.get; rfl
theorem opens36 : Opens enc Try.prog w sp held BelD 36 2 := by
  intro fuel cs x h
  obtain ⟨hl, n, hf⟩ := field0 Try.underlying36 h
  have hk : Try.prog.cellsOf 36 = 2 := by kernel_rfl
  have hk3 : Try.prog.cellsOf 3 = 1 := by kernel_rfl
  have hk22 : Try.prog.cellsOf 22 = 1 := by kernel_rfl
  rw [hk] at hl
  obtain ⟨a, b, rfl⟩ : ∃ a b, cs = [a, b] := len2 hl
  obtain ⟨y, hy⟩ := hf 0 _ rfl
  obtain ⟨z, hz⟩ := hf 1 _ rfl
  have hy : DataW.trod enc Try.prog w 0 sp held n 3 ((List.drop 0 [a, b]).take (Try.prog.cellsOf 3)) = some y := hy
  rw [hk3] at hy
  have hz : DataW.trod enc Try.prog w 0 sp held n 22 ((List.drop 1 [a, b]).take (Try.prog.cellsOf 22)) = some z := hz
  rw [hk22] at hz
  obtain ⟨n1, ⟨h1, g1⟩, _⟩ := opens3 _ _ _ hy
  obtain ⟨l2, ⟨v2, h2, g2⟩, _, o2⟩ := opens22 _ _ _ hz
  simp at h1 h2
  subst h1 h2
  refine ⟨⟨n1, l2⟩, ⟨_, rfl, g1, g2⟩, rfl, fun v hv => ?_⟩
  simp at hv
  rcases hv with rfl | rfl
  · rfl
  · exact g2.one
theorem opens23 : Opens enc Try.prog w sp held (fun M l r => ∃ v, r = [v] ∧ BelsV M v l) 23 1 := opens_slice Try.underlying23 (by kernel_rfl) (by omega) opens36
end
section
variable {H : Type} {enc : TypeId × Value → H} {P : Program}
theorem trodAll_stays (hl : laidOutB P = true) {W W' : World} (hb : Below W.heap.size W W') (sp : Nat → Bool) : ∀ {ts : List TypeId} {vs : List Value} {ds : List (DataW H)} {ps : List MemPlace}, (∀ t ∈ ts, P.readableRec t = true ∧ t < P.types.size) →
    DataW.TrodAll enc P W 0 (fun _ => true) true ts vs ds ps → (∀ x ∈ ps, x.block < W.heap.size) → (∀ x ∈ ps, sp x.block = true) → DataW.TrodAll enc P W' 0 sp true ts vs ds ps
  | [], _, _, _, _, h, _, _ => by
    obtain ⟨rfl, rfl, rfl⟩ := ChangeShapes.trodAll_nil h
    rfl
  | t :: ts, _, _, _, ht, h, hlt, hsp => by
    obtain ⟨v, vs, d, ds, p, q, rfl, rfl, rfl, h1, h2⟩ := ChangeShapes.trodAll_cons h
    refine ⟨p, q, ?_, trodAll_stays hl hb sp (fun t h => ht t (List.mem_cons_of_mem _ h)) h2 (fun x hx => hlt x (List.mem_append_right _ hx)) (fun x hx => hsp x (List.mem_append_right _ hx)), rfl⟩
    exact WideElems.Trod_stays hl (ht t List.mem_cons_self).1 (ht t List.mem_cons_self).2 h1 (fun x hx => hb.same (hlt x (List.mem_append_left _ hx))) (fun x hx => hsp x (List.mem_append_left _ hx))
theorem post_of_below {f : Func} {s : ChangeSpec} {apart fresh handsOn again : Bool} {W W' : World} {args : Array Value} {v : Value} {ds : List (DataW H)} {before : List MemPlace}
    (hl : laidOutB P = true) (hr : ∀ t ∈ f.params.toList, P.readableRec t = true ∧ t < P.types.size) (hvs : s.vars = [])
    (hW : DataW.Whole enc P f.params.toList s.vars apart W args.toList ds [] before) (hA : DataW.TrodAll enc P W 0 (fun _ => true) true f.params.toList args.toList ds before)
    (hres : ∀ (b : Nat) (sp : Nat → Bool) (hd : Bool), DataW.TrodAll enc P W' b sp hd f.resultTypes.toList (v.resultList f.resultTypes.size) (s.fn H (ds ++ [])).results [])
    (hargs : (s.fn H (ds ++ [])).args = ds) (hvars : (s.fn H (ds ++ [])).vars = []) (hb : Below W.heap.size W W')
    (hok : ∀ (j : Nat) (t : TypeId) (r : Value), f.resultTypes[j]? = some t → (v.resultList f.resultTypes.size)[j]? = some r → Value.okWide P W' .any 0 t r) :
    s.post enc P f apart fresh handsOn again W args v W' := by
  have hlt : ∀ p ∈ before, p.block < W.heap.size := fun p hp => by simpa using hW.lt p hp
  have hold : ∀ p ∈ before, (fun b => decide (b < W.heap.size)) p.block = true := fun p hp => by simpa using hlt p hp
  have st : ∀ sp : Nat → Bool, (∀ p ∈ before, sp p.block = true) → DataW.TrodAll enc P W' 0 sp true f.params.toList args.toList (s.fn H (ds ++ [])).args before := fun sp hsp => by
    rw [hargs]; exact trodAll_stays hl hb sp hr hA hlt hsp
  have sv : ∀ sp : Nat → Bool, DataW.TrodVars enc P W' sp s.vars (s.fn H (ds ++ [])).vars [] := fun sp => by rw [hvs, hvars]; rfl
  refine ⟨ds, [], before, [], before, [], hW, hres _ _ _, st _ hold, sv _, hb.frame _, fun _ => ?_⟩
  obtain ⟨_, _, _, _, _, hz, hn⟩ := hW
  refine ⟨hok, _, _, ([] ++ before) ++ [], ⟨[] ++ before, [], ChangeShapes.trodAll_append (st _ (fun _ _ => rfl)) (hres _ _ _), sv _, rfl, ?_, ?_⟩, ?_⟩
  · intro b off hp
    have hp' : MemPlace.cell b off ∈ before := by simpa using hp
    rw [hb.frozen (show (⟨b, off, none⟩ : Addr).block < W.heap.size from hlt _ hp')]
    exact hz b off hp'
  · intro ha
    simpa using hn ha
  · intro p hp _
    simpa using hp
end
theorem laid : laidOutB Try.prog = true := by kernel_rfl
theorem own : ownKnob Try.prog.godebug = none := by kernel_rfl
end Go.Proofs.Ytaobaeiohjgdcaa
