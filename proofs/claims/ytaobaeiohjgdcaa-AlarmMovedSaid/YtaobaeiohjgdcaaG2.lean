/- Plain law: what is moved alike. -/
import Derived.Test.YtaobaeiohjgdcaaC20
import Derived.Test.YtaobaeiohjgdcaaG1
namespace Go.Proofs.Ytaobaeiohjgdcaa
open Go Go.V
def mv (q p : Pt) : Pt := (p.1 + q.1, p.2 + q.2)
theorem len_move (q : Pt) (ps : List Pt) : (moveP q ps).length = ps.length := by simp [moveP]
theorem gp_move (q : Pt) {ps : List Pt} {i : Nat} (h : i < ps.length) : gp (moveP q ps) i = mv q (gp ps i) := by simp [gp, moveP, mv, h]
theorem cross_move (q a b c : Pt) : crossP (mv q a) (mv q b) (mv q c) = crossP a b c := by unfold crossP cross mv; grind
theorem betw_move (q a b x : Pt) : betwB (mv q a) (mv q b) (mv q x) = betwB a b x := by
  unfold betwB mv; refine decide_eq_decide.2 ?_; dsimp only
  have e1 : min (a.1 + q.1) (b.1 + q.1) = min a.1 b.1 + q.1 := by omega
  have e2 : max (a.1 + q.1) (b.1 + q.1) = max a.1 b.1 + q.1 := by omega
  have e3 : min (a.2 + q.2) (b.2 + q.2) = min a.2 b.2 + q.2 := by omega
  have e4 : max (a.2 + q.2) (b.2 + q.2) = max a.2 b.2 + q.2 := by omega
  rw [e1, e2, e3, e4]; omega
theorem has_move (q : Pt) (ps : List Pt) (x : Pt) : hasB (moveP q ps) (mv q x) = hasB ps x := by
  unfold hasB
  rw [len_move]
  by_cases h1 : ps.length = 1
  · rw [if_pos h1, if_pos h1, gp_move q (by omega), Bool.eq_iff_iff, beq_iff_eq, beq_iff_eq]
    unfold mv
    constructor
    · intro h
      simp only [Prod.mk.injEq] at h
      exact Prod.ext (by omega) (by omega)
    · intro h; rw [h]
  rw [if_neg h1, if_neg h1]
  by_cases h2 : ps.length = 2
  · rw [if_pos h2, if_pos h2, gp_move q (by omega), gp_move q (by omega), cross_move, betw_move]
  rw [if_neg h2, if_neg h2, Bool.eq_iff_iff, all_iff, all_iff]
  have e : ∀ i, i < ps.length → sideB (moveP q ps) (mv q x) i = sideB ps x i := fun i hi => by
    unfold sideB
    rw [len_move, gp_move q hi, gp_move q (Nat.mod_lt _ (by omega)), cross_move]
  exact ⟨fun h i hi => by rw [← e i hi]; exact h i hi, fun h i hi => by rw [e i hi]; exact h i hi⟩
theorem within_move (q : Pt) (p r : List Pt) : withinB (moveP q p) (moveP q r) = withinB p r := by
  unfold withinB
  show (p.map (mv q)).all (hasB (moveP q r)) = _
  rw [List.all_map]
  congr 1
  funext x
  exact has_move q r x
def moveC (q : Pt) (c : CaseS) : CaseS := ⟨c.sn, c.cl, c.st.map (moveP q)⟩
theorem left_move (q : Pt) (cs : List CaseS) (p : List Pt) : leftB (cs.map (moveC q)) (moveP q p) = leftB cs p := by
  unfold leftB
  rw [List.any_map]
  congr 1
  funext c
  show (c.st.map (moveP q)).any _ = _
  rw [List.any_map]
  congr 1
  funext x
  show (!withinB (moveP q x) (moveP q p)) = _
  rw [within_move]
theorem kind_move (q : Pt) (cs : List CaseS) (p : List Pt) : kindB (cs.map (moveC q)) (moveP q p) = kindB cs p := by
  unfold kindB
  rw [left_move]
  by_cases h : cs = []
  · subst h; rfl
  · rw [if_neg h, if_neg (by simpa using h)]
theorem gc_move (q : Pt) {cs : List CaseS} {i : Nat} (h : i < cs.length) : gc (cs.map (moveC q)) i = moveC q (gc cs i) := by simp [gc, h]
theorem cases_move (q : Pt) {cs : List CaseS} (h : casesB cs = true) (hv : ∀ i, i < cs.length → ((gc cs i).st.map (moveP q)).all validB = true) : casesB (cs.map (moveC q)) = true := by
  simp only [casesB, Bool.and_eq_true, decide_eq_true_eq, all_iff, List.length_map] at h ⊢
  refine ⟨h.1, fun i hi => ?_⟩
  have hi' := h.2 i hi
  simp only [caseV, Bool.and_eq_true] at hi' ⊢
  refine ⟨?_, ?_⟩
  · rw [gc_move q hi]
    have h1 := hi'.1
    simp only [case1, regionB, Bool.and_eq_true, decide_eq_true_eq] at h1 ⊢
    refine ⟨⟨⟨?_, ?_, hv i hi⟩, h1.1.2⟩, h1.2⟩
    · intro e
      exact h1.1.1.1 (by simpa [moveC] using e)
    · show ((gc cs i).st.map (moveP q)).length ≤ 32
      rw [List.length_map]; exact h1.1.1.2.1
  · have h2 := hi'.2
    simp only [Bool.or_eq_true, beq_iff_eq, decide_eq_true_eq] at h2 ⊢
    rcases h2 with h2 | h2
    · exact .inl h2
    · refine .inr ?_
      rw [gc_move q hi, gc_move q (show i - 1 < cs.length by omega)]
      exact h2
theorem raise_split {cs : List CaseS} {q : List Pt} {a : Int} (h : raiseB cs q = (a, 0)) : casesB cs = true ∧ validB q = true ∧ a = kindB cs q := by
  unfold raiseB at h
  split at h
  · rename_i hb
    simp only [Bool.and_eq_true] at hb
    cases h
    exact ⟨hb.1, hb.2, rfl⟩
  · cases h
theorem DL.le {α : Type} {D : Mem → α → List Value → Prop} (hD : ∀ M M' x r, M.le M' → D M x r → D M' x r) {M M' : Mem} (hM : M.le M') : ∀ {l : List α} {rows : List (List Value)}, DL D M l rows → DL D M' l rows
  | [], [], _ => trivial
  | _ :: _, _ :: _, h => ⟨hD _ _ _ _ hM h.1, DL.le hD hM h.2⟩
  | [], _ :: _, h => h.elim
  | _ :: _, [], h => h.elim
theorem DL.snoc {α : Type} {D : Mem → α → List Value → Prop} {M : Mem} {x : α} {r : List Value} (hx : D M x r) : ∀ {l : List α} {rows : List (List Value)}, DL D M l rows → DL D M (l ++ [x]) (rows ++ [r])
  | [], [], _ => ⟨hx, trivial⟩
  | _ :: _, _ :: _, h => ⟨h.1, DL.snoc hx h.2⟩
  | [], _ :: _, h => h.elim
  | _ :: _, [], h => h.elim
theorem CaseD.le (M M' : Mem) (x : CaseS) (r : List Value) (hM : M.le M') : CaseD M x r → CaseD M' x r := fun ⟨a, b, s, h1, h2, h3, h4⟩ => ⟨a, b, s, h1, h2.le hM, h3.le hM, h4.le hM⟩
theorem PolyD.le (M M' : Mem) (x : List Pt) (r : List Value) (hM : M.le M') : PolyD M x r → PolyD M' x r := fun ⟨v, h1, h2, h3⟩ => ⟨v, h1, h2.le hM, h3⟩
theorem take_mapC {α β : Type} (d : α) (f : α → β) (l : List α) {i : Nat} (h : i < l.length) : (l.take (i + 1)).map f = (l.take i).map f ++ [f (l.getD i d)] := by
  rw [List.take_add_one, List.map_append]; simp [h]
theorem PW.le {M M' : Mem} (hM : M.le M') : ∀ {a : List Value} {b : List (List Pt)}, PW M a b → PW M' a b
  | [], [], _ => trivial
  | _ :: _, _ :: _, h => ⟨⟨h.1.1.le hM, h.1.2⟩, PW.le hM h.2⟩
  | [], _ :: _, h => h.elim
  | _ :: _, [], h => h.elim
theorem PW.dl {M : Mem} : ∀ {a : List Value} {b : List (List Pt)}, PW M a b → DL PolyD M b (a.map fun w => [w])
  | [], [], _ => trivial
  | _ :: _, _ :: _, h => ⟨⟨_, rfl, h.1.1, h.1.2⟩, PW.dl h.2⟩
  | [], _ :: _, h => h.elim
  | _ :: _, [], h => h.elim
theorem flat_one : ∀ ws : List Value, (ws.map fun w => [w]).flatten = ws
  | [] => rfl
  | w :: ws => by simp only [List.map_cons, List.flatten_cons, flat_one ws]; rfl
theorem RegV.of_pw {M : Mem} {v : Value} {ws : List Value} {r : List (List Pt)} (h : SlAt M 1 v ws.length ws) (hw : PW M ws r) : RegV M v r := by
  refine Arr.of (ws.map fun w => [w]) (fun r hr => by obtain ⟨w, _, rfl⟩ := List.mem_map.1 hr; rfl) ?_ hw.dl
  rw [flat_one, ← hw.get.1]; exact h
theorem move_i64 {q : Pt} {ps : List Pt} (h : validB (moveP q ps) = true) : i64P (moveP q ps) := fun i hi => ⟨isC_i64 (allC_of h i hi).1, isC_i64 (allC_of h i hi).2⟩
theorem all_take {α β : Type} (d : α) (f : α → β) (g : β → Bool) (l : List α) {i : Nat} (h : i < l.length) (h1 : ((l.take i).map f).all g = true) (h2 : g (f (l.getD i d)) = true) : ((l.take (i + 1)).map f).all g = true := by
  rw [take_mapC d f l h, List.all_append, h1]; simpa using h2
end Go.Proofs.Ytaobaeiohjgdcaa
