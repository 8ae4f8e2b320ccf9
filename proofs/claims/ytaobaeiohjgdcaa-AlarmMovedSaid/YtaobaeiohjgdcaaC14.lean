/- Contracts: the polygons of cases, one after the other. -/
import Derived.Test.YtaobaeiohjgdcaaC13
namespace Go.Proofs.Ytaobaeiohjgdcaa
open Go Go.V Go.RowKit
/-- Values that say polygons. -/
def PW (M : Mem) : List Value → List (List Pt) → Prop
  | [], [] => True
  | w :: ws, p :: ps => (Pts M w p ∧ i64P p) ∧ PW M ws ps
  | _, _ => False
theorem PW.append {M : Mem} : ∀ {a : List Value} {b : List (List Pt)} {c d}, PW M a b → PW M c d → PW M (a ++ c) (b ++ d)
  | [], [], _, _, _, h => h
  | _ :: _, _ :: _, _, _, h, k => ⟨h.1, PW.append h.2 k⟩
  | [], _ :: _, _, _, h, _ => h.elim
  | _ :: _, [], _, _, h, _ => h.elim
theorem PW.get {M : Mem} : ∀ {a : List Value} {b : List (List Pt)}, PW M a b → a.length = b.length ∧ ∀ k w, a[k]? = some w → Pts M w (gr b k) ∧ i64P (gr b k)
  | [], [], _ => ⟨rfl, fun k w h => by simp at h⟩
  | x :: a, y :: b, h => by
    obtain ⟨h1, h2⟩ := PW.get h.2
    refine ⟨by simp [h1], fun k w hk => ?_⟩
    match k, hk with
    | 0, hk => simp at hk; subst hk; exact h.1
    | k + 1, hk => simp at hk; simpa [gr] using h2 k w hk
  | [], _ :: _, h => h.elim
  | _ :: _, [], h => h.elim
theorem PW.of {M : Mem} (d : Value) : ∀ {a : List Value} {b : List (List Pt)}, a.length = b.length → (∀ k, k < b.length → Pts M (a.getD k d) (gr b k) ∧ i64P (gr b k)) → PW M a b
  | [], [], _, _ => trivial
  | x :: a, y :: b, h, hk => ⟨by simpa [gr] using hk 0 (by simp), PW.of d (by simpa using h) fun k h' => by simpa [gr] using hk (k + 1) (by simpa using h')⟩
  | [], _ :: _, h, _ => by simp at h
  | _ :: _, [], h, _ => by simp at h
theorem PW.flat {M : Mem} (f : Nat → List Value) (g : Nat → List (List Pt)) : ∀ l : List Nat, (∀ i ∈ l, PW M (f i) (g i)) → PW M (l.flatMap f) (l.flatMap g)
  | [], _ => trivial
  | i :: l, h => by
    rw [List.flatMap_cons, List.flatMap_cons]
    exact PW.append (h i (List.mem_cons_self)) (PW.flat f g l fun j hj => h j (List.mem_cons_of_mem _ hj))
theorem flat_range {α β : Type} (d : α) (g : α → List β) (l : List α) : l.flatMap g = (List.range l.length).flatMap fun i => g (l.getD i d) := by
  have : l = (List.range l.length).map fun i => l.getD i d := by
    apply List.ext_getElem
    · simp
    · intro i h1 h2
      simp at h2
      simp [h2]
  conv => lhs; rw [this]
  rw [List.flatMap_map]
/-- A region whose polygons' values are named. -/
def RegW (M : Mem) (s : Value) (st : List (List Pt)) (ws : List Value) : Prop :=
  ws.length = st.length ∧ ∃ ad c, s = .slice ad st.length c ∧ st.length ≤ 9223372036854775807 ∧ ∀ M', M.le M' → ∀ j, j < st.length → ∃ ad', ad = some ad' ∧ M'.cell (ad'.add (j * 1)) = some (ws.getD j (.bool false)) ∧ Pts M' (ws.getD j (.bool false)) (gr st j) ∧ i64P (gr st j)
theorem RegV.w {M : Mem} {s : Value} {st : List (List Pt)} (h : RegV M s st) : ∃ ws, RegW M s st ws := by
  obtain ⟨ad, c, h1, h2, h3⟩ := h.get
  have h4 : ∀ i, ∃ w, i < st.length → ∃ ad', ad = some ad' ∧ Pts M w (gr st i) ∧ i64P (gr st i) ∧ M.cell (ad'.add (i * 1)) = some w := fun i => by
    by_cases hi : i < st.length
    · obtain ⟨ad', w, h⟩ := h3 M (Mem.le_refl _) i hi
      exact ⟨w, fun _ => ⟨ad', h⟩⟩
    · exact ⟨.bool false, fun h => absurd h hi⟩
  obtain ⟨f, hf⟩ := Classical.axiomOfChoice h4
  refine ⟨(List.range st.length).map f, by simp, ad, c, h1, h2, fun M' hM j hj => ?_⟩
  obtain ⟨ad', h5, h6, h7, h8⟩ := hf j hj
  have e : ((List.range st.length).map f).getD j (.bool false) = f j := by simp [hj]
  rw [e]
  exact ⟨ad', h5, Mem.cell_le hM h8, h6.le hM, h7⟩
theorem range_drop {n i : Nat} (h : i < n) : (List.range n).drop i = i :: (List.range n).drop (i + 1) := by
  rw [List.drop_eq_getElem_cons (by simpa using h)]; simp

theorem polygons_iter (M : Mem) (B : Nat) (v : Value) (cs : List CaseS) (hB : M B = some (.cells #[v] 22 (0, 0))) (hv : CasV M v cs) :
    ∃ ws, PW M ws (cs.flatMap (·.st)) ∧ Iter Try.prog 108 #[.pointer (some ⟨B, 0, none⟩)] M (ws.map fun w => [w]) := by
  obtain ⟨ad, c, rfl, hm, hrd⟩ := hv.get
  have h4 : ∀ i, ∃ q : Value × Value × Value × List Value, i < cs.length → ∃ ad', ad = some ad' ∧ RegW M q.2.2.1 (gc cs i).st q.2.2.2 ∧ ((∃ x y z, q.1 = .slice x y z) ∧ ∃ x y z, q.2.1 = .slice x y z) ∧ ∀ j y, [q.1, q.2.1, q.2.2.1][j]? = some y → M.cell ((ad'.add (i * 3)).add j) = some y := fun i => by
    by_cases hi : i < cs.length
    · obtain ⟨ad', a, b, s, h1, h2, h3, h4, h5⟩ := hrd M (Mem.le_refl _) i hi
      obtain ⟨ws, hw⟩ := h4.w
      exact ⟨(a, b, s, ws), fun _ => ⟨ad', h1, hw, ⟨by obtain ⟨x, z, h, _⟩ := h2.get; exact ⟨x, _, z, h⟩, by obtain ⟨x, z, h, _⟩ := h3.get; exact ⟨x, _, z, h⟩⟩, h5⟩⟩
    · exact ⟨(.bool false, .bool false, .bool false, []), fun h => absurd h hi⟩
  obtain ⟨f, hf⟩ := Classical.axiomOfChoice h4
  let g := fun i => (f i).2.2.2
  refine ⟨(List.range cs.length).flatMap g, ?_, ?_⟩
  · rw [flat_range (⟨[], [], []⟩ : CaseS)]
    refine PW.flat _ _ _ fun i hi => ?_
    obtain ⟨_, _, ⟨h1, _, _, _, _, h2⟩, _⟩ := hf i (by simpa using hi)
    refine PW.of (.bool false) h1 fun k hk => ?_
    obtain ⟨_, _, _, h3⟩ := h2 M (Mem.le_refl _) k hk
    exact h3
  refine Iter.of_vc cxOK Try.func108 rfl rfl rfl rfl fun l => ?_
  repeat (first | refine VIf.tt ?_ | refine VIf.ff ?_)
  refine VRead.mk _ (box1 hB) ?_
  repeat (first | refine VIf.tt ?_ | refine VIf.ff ?_)
  refine VCode.loopG cxOK (fun m => m = fun _ => none) rfl Nat
    (fun i => ⟨[(0, .v (.func (.yield l) #[] #[])), (7, .v (.slice ad cs.length c)), (8, .v (.int .i64 cs.length)), (9, .v (.int .i64 i))], [], 0, M, 26, ⟨fun _ => none, some (l, (((List.range cs.length).drop i).flatMap g).map fun w => [w]), fun _ => none⟩⟩)
    (fun i => i ≤ cs.length) (fun i => cs.length - i) 0 (Nat.zero_le _) ?_ ?_
  · exact (Wk.mk' id (by repeat' constructor) (by repeat' constructor) (injOK_id _) rfl rfl rfl)
  rintro i hi m rfl
  repeat (first | refine VIf.tt ?_ | refine VIf.ff ?_)
  refine VIf.mk (fun hlt => ?_) (fun hge => ?_)
  · have hlt := lt_of_dec hlt
    obtain ⟨ad', rfl, hrw, ⟨⟨x1, x2, x3, o1⟩, ⟨y1, y2, y3, o2⟩⟩, hc1⟩ := hf i hlt
    have hd := range_drop hlt
    have hgi : g i = (f i).2.2.2 := rfl
    generalize f i = q at hrw o1 o2 hc1 hgi
    obtain ⟨a, b, s, ws⟩ := q
    simp only at hrw o1 o2 hc1 hgi
    subst o1 o2
    obtain ⟨hwl, sd, sc, rfl, hsm, hsr⟩ := hrw
    repeat (first | refine VIf.tt ?_ | refine VIf.ff ?_)
    refine VIdx.mk ad' i rfl rfl hlt ?_
    repeat (first | refine VIf.tt ?_ | refine VIf.ff ?_)
    refine VReads.mk [.slice x1 x2 x3, .slice y1 y2 y3, .slice sd (gc cs i).st.length sc] rfl hc1 ?_
    have hrest : ((List.range cs.length).drop i).flatMap g = ws ++ ((List.range cs.length).drop (i + 1)).flatMap g := by rw [hd, List.flatMap_cons, hgi]
    repeat (first | refine VIf.tt ?_ | refine VIf.ff ?_)
    refine VCode.loopG cxOK (fun m => m = fun _ => none) rfl Nat
      (fun j => ⟨[(0, .v (.func (.yield l) #[] #[])), (7, .v (.slice (some ad') cs.length c)), (8, .v (.int .i64 cs.length)), (9, .v (.int .i64 i)), (14, .v (.slice sd (gc cs i).st.length sc)), (15, .v (.int .i64 (gc cs i).st.length)), (16, .v (.int .i64 j))], [], 0, M, 26, ⟨fun _ => none, some (l, (ws.drop j ++ ((List.range cs.length).drop (i + 1)).flatMap g).map fun w => [w]), fun _ => none⟩⟩)
      (fun j => j ≤ (gc cs i).st.length) (fun j => (gc cs i).st.length - j) 0 (Nat.zero_le _) ?_ ?_
    · refine Wk.mk' id (by repeat' constructor) (by repeat' constructor) (injOK_id _) rfl rfl ?_
      show some (l, _) = some (l, _)
      rw [hrest]; rfl
    rintro j hj m rfl
    repeat (first | refine VIf.tt ?_ | refine VIf.ff ?_)
    refine VIf.mk (fun hlj => ?_) (fun hgj => ?_)
    · have hlj := lt_of_dec hlj
      obtain ⟨sd', rfl, hc2, hp, hp64⟩ := hsr M (Mem.le_refl _) j hlj
      repeat (first | refine VIf.tt ?_ | refine VIf.ff ?_)
      refine VIdx.mk sd' j rfl rfl hlj ?_
      repeat (first | refine VIf.tt ?_ | refine VIf.ff ?_)
      refine VRead.mk _ hc2 ?_
      repeat (first | refine VIf.tt ?_ | refine VIf.ff ?_)
      refine VYield.mk ((ws.drop (j + 1) ++ ((List.range cs.length).drop (i + 1)).flatMap g).map fun w => [w]) ?_ ?_ ?_
      · simp only [Gh.mk.injEq, and_true, true_and, Option.some.injEq, Prod.mk.injEq]
        have hdj : ws.drop j = ws.getD j (.bool false) :: ws.drop (j + 1) := by
          rw [List.drop_eq_getElem_cons (i := j) (by omega)]; simp [show j < ws.length by omega]
        rw [hdj]; rfl
      · refine VIf.ff ?_
        repeat (first | refine VIf.tt ?_ | refine VIf.ff ?_)
        refine VArith.ok (by first | omega | (simp only; omega)) (by first | omega | (simp only; omega)) ?_
        exact ⟨rfl, j + 1, hlj, (by first | omega | (simp only; omega)), (Wk.mk' id (by repeat' constructor) (by repeat' constructor) (injOK_id _) rfl rfl rfl)⟩
      · refine VIf.tt ?_
        exact VEnd.stop rfl
    · have : j = (gc cs i).st.length := by have := ge_of_dec hgj; omega
      subst this
      repeat (first | refine VIf.tt ?_ | refine VIf.ff ?_)
      refine VArith.ok (by first | omega | (simp only; omega)) (by first | omega | (simp only; omega)) ?_
      refine ⟨rfl, i + 1, hlt, (by first | omega | (simp only; omega)), Wk.mk' id (by repeat' constructor) (by repeat' constructor) (injOK_id _) rfl rfl ?_⟩
      show some (l, _) = some (l, _)
      rw [← hwl, List.drop_length]; rfl
  · have : i = cs.length := by have := ge_of_dec hge; omega
    subst this
    exact VEnd.all (by rw [List.drop_eq_nil_of_le (by simp)]; rfl)
end Go.Proofs.Ytaobaeiohjgdcaa
