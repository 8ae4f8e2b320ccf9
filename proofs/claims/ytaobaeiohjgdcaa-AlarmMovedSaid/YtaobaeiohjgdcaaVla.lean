/- The verification-condition framework, part La: a region that draws its order: one order for all. Program-free. -/
import Derived.Test.YtaobaeiohjgdcaaVl
namespace Go.V
open Go Go.RowKit
variable {P : Program}

def bindsOn (o : Oper) : List Nat := o.after.toList.filterMap fun e => if Region.binds .any e then some e.on else none
/-- Whom an operation waits for, through others too: as bits. -/
def tabStep (tab : List Nat) (o : Oper) : Nat := (bindsOn o).foldl (fun m k => m ||| (1 <<< k) ||| tab.getD k 0) 0
def tabOf (ops : List Oper) : List Nat := ops.foldl (fun tab o => tab ++ [tabStep tab o]) []
/-- The table is right: row i is made of the rows ahead of it. -/
def tabOK (ops : List Oper) (tab : List Nat) : Bool :=
  (List.range ops.length).all fun i => match ops[i]? with
    | none => true
    | some o => (bindsOn o).all (fun k => Nat.blt k i) && Nat.beq (tab.getD i 0) ((bindsOn o).foldl (fun m k => m ||| (1 <<< k) ||| tab.getD k 0) 0)
def anc (tab : List Nat) (i p : Nat) : Bool := (tab.getD i 0).testBit p
theorem fold_bit (tab : List Nat) (p : Nat) : ∀ (l : List Nat) (m : Nat), (l.foldl (fun m k => m ||| (1 <<< k) ||| tab.getD k 0) m).testBit p = true → m.testBit p = true ∨ ∃ k ∈ l, k = p ∨ (tab.getD k 0).testBit p = true
  | [], m, h => .inl h
  | k :: l, m, h => by
    rcases fold_bit tab p l _ h with h1 | ⟨k', hk', h1⟩
    · rw [Nat.testBit_or, Nat.testBit_or] at h1
      simp only [Bool.or_eq_true] at h1
      rcases h1 with (h1 | h1) | h1
      · exact .inl h1
      · refine .inr ⟨k, List.mem_cons_self, .inl ?_⟩
        simp only [Nat.shiftLeft_eq, Nat.one_mul, Nat.testBit_two_pow] at h1
        simpa using h1
      · exact .inr ⟨k, List.mem_cons_self, .inr h1⟩
    · exact .inr ⟨k', List.mem_cons_of_mem _ hk', h1⟩
theorem anc_spec {ops : List Oper} {tab : List Nat} (h : tabOK ops tab = true) {i p : Nat} {o : Oper} (ho : ops[i]? = some o) (ha : anc tab i p = true) : ∃ k ∈ bindsOn o, k < i ∧ (k = p ∨ anc tab k p = true) := by
  have hi : i < ops.length := (List.getElem?_eq_some_iff.1 ho).1
  simp only [tabOK, List.all_eq_true, List.mem_range] at h
  have h1 := h i hi
  rw [ho] at h1
  simp only [Bool.and_eq_true, List.all_eq_true] at h1
  obtain ⟨h2, h3⟩ := h1
  have h3 := Nat.eq_of_beq_eq_true h3
  unfold anc at ha
  rw [h3] at ha
  rcases fold_bit tab p _ _ ha with h4 | ⟨k, hk, h4⟩
  · simp at h4
  · exact ⟨k, hk, Nat.le_of_ble_eq_true (h2 k hk), h4⟩

/-- An operation that the law serves. -/
def plainOp (o : Oper) : Bool := match o.op with | .defer _ => false | .select _ _ => false | _ => true
def dstNe (o o' : Oper) : Bool := match o.dst, o'.dst with | some d, some d' => !Nat.beq d d' | _, _ => true
def dstIn (l : List Nat) (o : Oper) : Bool := match o.dst with | some d => l.any (Nat.beq d) | none => false
/-- Of two operations the first comes ahead in the law's order: the second waits for it, or they are apart. m: 0: yields a value; 1: adds to memory; else: may turn memory. -/
def pairOK (ops : Array Oper) (tab : List Nat) (p q : Nat × Nat) : Bool :=
  match ops[p.1]?, ops[q.1]? with
  | some o, some o' => dstNe o o' && (anc tab q.1 p.1 || (Nat.beq p.2 0 && Nat.ble q.2 1 && !dstIn (o'.looksAt ops) o && !dstIn (o.looksAt ops) o'))
  | _, _ => false
def pairsOK (ops : Array Oper) (tab : List Nat) : List (Nat × Nat) → Bool
  | [] => true
  | p :: r => r.all (fun q => pairOK ops tab p q) && pairsOK ops tab r
/-- Each operation's own are ahead of it. -/
def topOK (ops : Array Oper) : List Nat → List (Nat × Nat) → Bool
  | _, [] => true
  | pre, (i, _) :: r => (match ops[i]? with | some o => plainOp o && (bindsOn o).all (fun k => pre.any (Nat.beq k)) | none => false) && !pre.any (Nat.beq i) && topOK ops (i :: pre) r
def drawOK (ops : Array Oper) (ord : List (Nat × Nat)) (tab : List Nat) : Bool :=
  tabOK ops.toList tab && pairsOK ops tab ord && topOK ops [] ord && (List.range ops.size).all fun i => ord.any fun p => Nat.beq i p.1

/-- What an operation that changes nothing comes to. -/
def Yv (P : Program) (ops : Array Oper) (o : Oper) (b : Act) (v : Value) (W : World) : Prop :=
  (Region.wanted o (yielded ops b.tmps) = true ∧ (execOp b.eval o).run P W = .ok (.value v) W) ∨ (Region.wanted o (yielded ops b.tmps) = false ∧ v = undef)
/-- The operations in the law's order. -/
def eag (F : Fence) (n : Nat) (P : Program) (ops : Array Oper) (Q : Exit → Act → World → Prop) : List (Nat × Nat) → Act → World → Prop
  | [], a, w => Q .normal a w
  | (i, m) :: rest, a, w => ∃ o, ops[i]? = some o ∧ match m with
    | 0 => ∃ v, (∀ W, Below w.heap.size w W → Yv P ops o a v W) ∧ (∀ W f, Below w.heap.size w W → o.about P W a.eval = some f → F.fn f) ∧ eag F n P ops Q rest (a.put o.dst v) w
    | 1 => wpOpIn F n P ops Q i (fun a' w' => Below w.heap.size w w' ∧ eag F n P ops Q rest a' w') a w
    | _ => wpOpIn F n P ops Q i (eag F n P ops Q rest) a w

/-- Two activations look the same to an operation. -/
def Sees (ops : Array Oper) (o : Oper) (a b : Act) : Prop := ∀ d ∈ o.looksAt ops, a.tmps[d]? = b.tmps[d]?
theorem Sees.eval {ops : Array Oper} {o : Oper} {a b : Act} (h : Sees ops o a b) : ∀ x ∈ o.op.operands, a.eval x = b.eval x := by
  intro x hx
  cases x with
  | tmp t =>
    have : t ∈ o.looksAt ops := List.mem_append_left _ (List.mem_filterMap.2 ⟨.tmp t, by simpa using hx, rfl⟩)
    simp only [Act.eval, Array.getD_eq_getD_getElem?, h t this]
  | _ => rfl
theorem Sees.wanted {ops : Array Oper} {o : Oper} {a b : Act} (h : Sees ops o a b) : Region.wanted o (yielded ops a.tmps) = Region.wanted o (yielded ops b.tmps) := by
  unfold Region.wanted
  cases hg : o.guard with
  | none => rfl
  | some g =>
    obtain ⟨j, want⟩ := g
    simp only
    have : yielded ops a.tmps j = yielded ops b.tmps j := by
      unfold yielded
      cases hd : (ops[j]?).bind (·.dst) with
      | none => rfl
      | some d =>
        have hm : d ∈ o.looksAt ops := List.mem_append_right _ (by rw [hg]; simp [hd])
        simp only [Option.bind_some, h d hm]
    rw [this]
theorem Sees.exec {ops : Array Oper} {o : Oper} {a b : Act} (h : Sees ops o a b) (hp : plainOp o = true) : execOp a.eval o = execOp b.eval o :=
  execOp_congr o (fun cs bb he => by unfold plainOp at hp; rw [he] at hp; cases hp) h.eval
theorem Sees.about {ops : Array Oper} {o : Oper} {a b : Act} (h : Sees ops o a b) (W : World) : o.about P W a.eval = o.about P W b.eval := about_congr o W h.eval
theorem plain_defer {o : Oper} (hp : plainOp o = true) : ∀ c, o.op ≠ .defer c := fun c he => by unfold plainOp at hp; rw [he] at hp; cases hp

/-- An operation, moved to an activation that looks the same to it. -/
theorem op_move {F : Fence} {n : Nat} {ops : Array Oper} {o : Oper} {a b : Act} {w : World} {K K' : Act → World → Prop} {Q : Exit → Act → World → Prop} {i : Nat} (ho : ops[i]? = some o) (hp : plainOp o = true) (hs : Sees ops o a b) (hd : a.defers = b.defers) (hQ : ∀ c a w, ¬ Q (.panic c) a w)
    (h : wpOpIn F n P ops Q i K b w) (hK : ∀ v w' ds, K ({ b with defers := ds }.put o.dst v) w' → K' ({ a with defers := ds }.put o.dst v) w') : wpOpIn F n P ops Q i K' a w := by
  have hK0 : ∀ v w', K (b.put o.dst v) w' → K' (a.put o.dst v) w' := fun v w' hk => by
    have := hK v w' b.defers hk
    rw [← hd] at this
    exact this
  unfold wpOpIn at h ⊢
  simp only [ho] at h ⊢
  rw [hs.wanted]
  split
  · rename_i hw
    rw [if_pos hw] at h
    unfold Oper.wpIn at h ⊢
    rw [hs.about]
    refine ⟨h.1, ?_⟩
    have h2 := h.2
    rw [Oper.semAt_plain _ _ _ (plain_defer hp)] at h2 ⊢
    rw [hs.exec hp]
    generalize hres : (execOp b.eval o).run P w = res at h2
    unfold Oper.uponIn at h2 ⊢
    split at h2
    · exact hK0 _ _ h2
    · exact hK0 _ _ h2
    · rw [hd]; exact hK _ _ _ h2
    · refine ⟨h2.1, h2.2.mono ?_⟩
      intro e W' he
      cases e with
      | returned v => exact hK0 _ _ he
      | panicked => exact absurd he (hQ _ _ _)
      | outgrown => exact he
    · refine ⟨h2.1, h2.2.mono ?_⟩
      intro v W' he
      exact hK0 _ _ he
    · refine ⟨h2.1, h2.2.mono ?_⟩
      intro e W' he
      cases e with
      | returned v => exact hK0 _ _ he
      | panicked => exact absurd he (hQ _ _ _)
      | outgrown => exact he
    · exact absurd h2 (hQ _ _ _)
    · exact h2.elim
  · rename_i hw
    rw [if_neg hw] at h
    rw [hs.about]
    exact ⟨h.1, hK0 _ _ h.2⟩

theorem dstIn_spec {l : List Nat} {o : Oper} (h : dstIn l o = false) {d : Nat} (hd : o.dst = some d) : d ∉ l := by
  intro hm
  simp only [dstIn, hd] at h
  have : l.any (Nat.beq d) = true := List.any_eq_true.2 ⟨d, hm, Nat.beq_refl d⟩
  rw [this] at h; cases h
theorem pair_spec {ops : Array Oper} {tab : List Nat} {p q : Nat × Nat} {o o' : Oper} (ho : ops[p.1]? = some o) (ho' : ops[q.1]? = some o') (h : pairOK ops tab p q = true) :
    (∀ d, o.dst = some d → o'.dst ≠ some d) ∧ (anc tab q.1 p.1 = false → p.2 = 0 ∧ q.2 ≤ 1 ∧ (∀ d, o.dst = some d → d ∉ o'.looksAt ops) ∧ ∀ d, o'.dst = some d → d ∉ o.looksAt ops) := by
  simp only [pairOK, ho, ho', Bool.and_eq_true, Bool.or_eq_true] at h
  obtain ⟨h1, h2⟩ := h
  refine ⟨fun d hd hd' => ?_, fun ha => ?_⟩
  · simp only [dstNe, hd, hd', Nat.beq_refl] at h1
    cases h1
  · rcases h2 with h2 | ⟨⟨⟨h3, h4⟩, h5⟩, h6⟩
    · rw [ha] at h2; cases h2
    · refine ⟨Nat.eq_of_beq_eq_true h3, Nat.le_of_ble_eq_true h4, fun d hd => dstIn_spec (by simpa using h5) hd, fun d hd => dstIn_spec (by simpa using h6) hd⟩
theorem pairs_spec {ops : Array Oper} {tab : List Nat} : ∀ {pre rest : List (Nat × Nat)}, pairsOK ops tab (pre ++ rest) = true → ∀ p ∈ pre, ∀ q ∈ rest, pairOK ops tab p q = true
  | [], _, _, p, hp, _, _ => by cases hp
  | x :: pre, rest, h, p, hp, q, hq => by
    simp only [List.cons_append, pairsOK, Bool.and_eq_true, List.all_eq_true] at h
    rcases List.mem_cons.1 hp with rfl | hp
    · exact h.1 q (List.mem_append_right _ hq)
    · exact pairs_spec h.2 p hp q hq
theorem top_spec {ops : Array Oper} {us : List Nat} {Ls : Nat → Prop} : ∀ {ord : List (Nat × Nat)} {pre : List Nat}, topOK ops pre ord = true → (∀ k ∈ pre, Ls k) → (∀ q ∈ ord, q.1 ∈ us ∨ Ls q.1) → (∃ q ∈ ord, q.1 ∈ us) → ∃ i ∈ us, ∃ o, ops[i]? = some o ∧ ∀ k ∈ bindsOn o, Ls k
  | [], _, _, _, _, ⟨q, hq, _⟩ => by cases hq
  | (i, m) :: r, pre, h, hpre, hall, ⟨q, hq, hu⟩ => by
    simp only [topOK, Bool.and_eq_true] at h
    obtain ⟨⟨h1, _⟩, h3⟩ := h
    split at h1
    · rename_i o ho
      simp only [Bool.and_eq_true, List.all_eq_true, List.any_eq_true] at h1
      by_cases hi : i ∈ us
      · refine ⟨i, hi, o, ho, fun k hk => ?_⟩
        obtain ⟨k', hk', hkk⟩ := h1.2 k hk
        have := Nat.eq_of_beq_eq_true hkk
        subst this
        exact hpre _ hk'
      · refine top_spec h3 (fun k hk => ?_) (fun q' hq' => hall q' (List.mem_cons_of_mem _ hq')) ?_
        · rcases List.mem_cons.1 hk with rfl | hk
          · exact (hall (k, m) List.mem_cons_self).resolve_left hi
          · exact hpre k hk
        · rcases List.mem_cons.1 hq with rfl | hq
          · exact absurd hu hi
          · exact ⟨q, hq, hu⟩
    · cases h1
theorem top_plain {ops : Array Oper} : ∀ {ord : List (Nat × Nat)} {pre : List Nat}, topOK ops pre ord = true → ∀ q ∈ ord, ∃ o, ops[q.1]? = some o ∧ plainOp o = true
  | [], _, _, q, hq => by cases hq
  | (i, m) :: r, pre, h, q, hq => by
    simp only [topOK, Bool.and_eq_true] at h
    obtain ⟨⟨h1, _⟩, h3⟩ := h
    rcases List.mem_cons.1 hq with rfl | hq
    · split at h1
      · rename_i o ho
        simp only [Bool.and_eq_true] at h1
        exact ⟨o, ho, h1.1⟩
      · cases h1
    · exact top_plain h3 q hq
theorem anc_done {ops : Array Oper} {tab : List Nat} (hok : tabOK ops.toList tab = true) {Ls : Nat → Prop} (hcl : ∀ i o, ops[i]? = some o → Ls i → ∀ k ∈ bindsOn o, Ls k) : ∀ (i p : Nat) (o : Oper), ops[i]? = some o → (∀ k ∈ bindsOn o, Ls k) → anc tab i p = true → (∀ k, Ls k → k < ops.size) → Ls p := by
  intro i
  induction i using Nat.strongRecOn with
  | _ i ih =>
    intro p o ho hk ha hlt
    obtain ⟨k, hkm, hki, hc⟩ := anc_spec hok (by simpa using ho) ha
    have hLk := hk k hkm
    rcases hc with rfl | hc
    · exact hLk
    · have hks := hlt k hLk
      have hok' : ops[k]? = some ops[k] := Array.getElem?_eq_getElem hks
      exact ih k hki p _ hok' (hcl k _ hok' hLk) hc hlt

/-- An operation that is taken ahead. -/
structure PE where
  i : Nat
  o : Oper
  v : Value
  b : Act
  w0 : World
/-- What is known of one that is taken ahead; l: those that were taken before. -/
structure PEOK (F : Fence) (P : Program) (ops : Array Oper) (tab : List Nat) (a la : Act) (w : World) (e : PE) (l : List PE) : Prop where
  ho : ops[e.i]? = some e.o
  yv : ∀ W, Below e.w0.heap.size e.w0 W → Yv P ops e.o e.b e.v W
  ab : ∀ W f, Below e.w0.heap.size e.w0 W → e.o.about P W e.b.eval = some f → F.fn f
  bel : Below e.w0.heap.size e.w0 w
  val : ∀ d, e.o.dst = some d → la.tmps[d]? = if d < la.tmps.size then some e.v else none
  see : ∀ d ∈ e.o.looksAt ops, (∃ p ∈ l, p.o.dst = some d ∧ e.b.tmps[d]? = la.tmps[d]?) ∨ ((∀ p ∈ l, p.o.dst ≠ some d) ∧ e.b.tmps[d]? = a.tmps[d]?)
  pair : ∀ p ∈ l, pairOK ops tab (p.i, 0) (e.i, 0) = true
def PInv (F : Fence) (P : Program) (ops : Array Oper) (tab : List Nat) (a la : Act) (w : World) : List PE → Prop
  | [] => True
  | e :: l => PEOK F P ops tab a la w e l ∧ PInv F P ops tab a la w l
section
variable {F : Fence} {ops : Array Oper} {tab : List Nat} {a la : Act} {w : World}
theorem PInv.ho {l : List PE} (h : PInv F P ops tab a la w l) : ∀ p ∈ l, ops[p.i]? = some p.o := by
  induction l with
  | nil => intro p hp; cases hp
  | cons e l ih =>
    intro p hp
    rcases List.mem_cons.1 hp with rfl | hp
    · exact h.1.ho
    · exact ih h.2 p hp
theorem PInv.val {l : List PE} (h : PInv F P ops tab a la w l) : ∀ p ∈ l, ∀ d, p.o.dst = some d → la.tmps[d]? = if d < la.tmps.size then some p.v else none := by
  induction l with
  | nil => intro p hp; cases hp
  | cons e l ih =>
    intro p hp
    rcases List.mem_cons.1 hp with rfl | hp
    · exact h.1.val
    · exact ih h.2 p hp
theorem PInv.step {a' la' : Act} {w' : World} (hsz : la'.tmps.size = la.tmps.size) {l : List PE} (h : PInv F P ops tab a la w l) (h1 : ∀ p ∈ l, ∀ d, p.o.dst = some d → la'.tmps[d]? = la.tmps[d]?) (h2 : ∀ p ∈ l, ∀ d ∈ p.o.looksAt ops, a'.tmps[d]? = a.tmps[d]?)
    (hb : Below w.heap.size w w') : PInv F P ops tab a' la' w' l := by
  induction l with
  | nil => trivial
  | cons e l ih =>
    obtain ⟨h, hl⟩ := h
    refine ⟨⟨h.ho, h.yv, h.ab, h.bel.trans (hb.mono h.bel.size), fun d hd => ?_, fun d hd => ?_, h.pair⟩, ih hl (fun p hp => h1 p (List.mem_cons_of_mem _ hp)) (fun p hp => h2 p (List.mem_cons_of_mem _ hp))⟩
    · rw [h1 e List.mem_cons_self d hd, hsz]; exact h.val d hd
    · rcases h.see d hd with ⟨p, hp, hpd, hpe⟩ | ⟨h3, h4⟩
      · exact .inl ⟨p, hp, hpd, by rw [h1 p (List.mem_cons_of_mem _ hp) d hpd]; exact hpe⟩
      · exact .inr ⟨h3, by rw [h2 e List.mem_cons_self d hd]; exact h4⟩
theorem put_get (a : Act) (d : Nat) (v : Value) (e : Nat) : (a.put (some d) v).tmps[e]? = if d = e then (if d < a.tmps.size then some v else none) else a.tmps[e]? := by
  simp only [Act.put]
  by_cases h : d = e
  · subst h
    rw [if_pos rfl]
    simp only [Array.getElem?_setIfInBounds, if_true]
  · rw [if_neg h, Array.getElem?_setIfInBounds_ne h]
theorem PInv.dsts {l : List PE} (h : PInv F P ops tab a la w l) {d : Nat} : ∀ x ∈ l, ∀ y ∈ l, x.i ≠ y.i → x.o.dst = some d → y.o.dst ≠ some d := by
  induction l with
  | nil => intro x hx; cases hx
  | cons z l ih =>
    intro x hx y hy hxy hxd hyd
    rcases List.mem_cons.1 hx with rfl | hx'
    · rcases List.mem_cons.1 hy with rfl | hy'
      · exact hxy rfl
      · exact (pair_spec (p := (y.i, 0)) (q := (x.i, 0)) (h.2.ho y hy') h.1.ho (h.1.pair y hy')).1 d hyd hxd
    · rcases List.mem_cons.1 hy with rfl | hy'
      · exact (pair_spec (p := (x.i, 0)) (q := (y.i, 0)) (h.2.ho x hx') h.1.ho (h.1.pair x hx')).1 d hxd hyd
      · exact ih h.2 x hx' y hy' hxy hxd hyd
/-- One that was taken ahead is carried out. -/
theorem PInv.exec {j : PE} (hjo : ops[j.i]? = some j.o) (hsz : a.tmps.size = la.tmps.size) (hjv : ∀ d, j.o.dst = some d → la.tmps[d]? = if d < la.tmps.size then some j.v else none) {l : List PE} (hP : PInv F P ops tab a la w l) (hna : ∀ p ∈ l, p.i ≠ j.i → anc tab j.i p.i = false) (hnd : (l.map PE.i).Nodup)
    (hj : j ∈ l ∨ ∀ e ∈ l, e.i ≠ j.i ∧ pairOK ops tab (e.i, 0) (j.i, 0) = true) : PInv F P ops tab (a.put j.o.dst j.v) la w (l.filter fun p => !Nat.beq p.i j.i) := by
  induction l with
  | nil => trivial
  | cons e l ih =>
    obtain ⟨h, hl⟩ := hP
    have hnd' := List.nodup_cons.1 hnd
    have hna' := fun p (hp : p ∈ l) => hna p (List.mem_cons_of_mem _ hp)
    by_cases hej : e.i = j.i
    · -- it is e itself
      have hbe : Nat.beq e.i j.i = true := by rw [hej]; exact Nat.beq_refl _
      simp only [List.filter_cons, hbe, Bool.not_true, Bool.false_eq_true, if_false]
      refine ih hl hna' hnd'.2 (.inr fun p hp => ⟨fun hpe => hnd'.1 ?_, ?_⟩)
      · rw [hej, ← hpe]; exact List.mem_map.2 ⟨p, hp, rfl⟩
      · have := h.pair p hp
        rw [hej] at this; exact this
    · have hbe : Nat.beq e.i j.i = false := by
        cases hb : Nat.beq e.i j.i with
        | false => rfl
        | true => exact absurd (Nat.eq_of_beq_eq_true hb) hej
      simp only [List.filter_cons, hbe, Bool.not_false, if_true]
      have hj' : j ∈ l ∨ ∀ e ∈ l, e.i ≠ j.i ∧ pairOK ops tab (e.i, 0) (j.i, 0) = true := by
        rcases hj with hj | hj
        · rcases List.mem_cons.1 hj with rfl | hj
          · exact absurd rfl hej
          · exact .inl hj
        · exact .inr fun p hp => hj p (List.mem_cons_of_mem _ hp)
      refine ⟨⟨h.ho, h.yv, h.ab, h.bel, h.val, fun d hd => ?_, fun p hp => h.pair p (List.mem_filter.1 hp).1⟩, ih hl hna' hnd'.2 hj'⟩
      have hmem : ∀ p ∈ l, p.i ≠ j.i → p ∈ l.filter fun p => !Nat.beq p.i j.i := fun p hp hne => List.mem_filter.2 ⟨hp, by
        cases hb : Nat.beq p.i j.i with
        | false => rfl
        | true => exact absurd (Nat.eq_of_beq_eq_true hb) hne⟩
      -- j's slot, if e looks at it
      have hold : ∀ d, (∀ dj, j.o.dst = some dj → dj ≠ d) → (a.put j.o.dst j.v).tmps[d]? = a.tmps[d]? := fun d hdj => by
        cases hjd : j.o.dst with
        | none => rfl
        | some dj => rw [put_get, if_neg (hdj dj hjd)]
      rcases h.see d hd with ⟨p, hp, hpd, hpe⟩ | ⟨h3, h4⟩
      · by_cases hpj : p.i = j.i
        · -- the one that is carried out
          have hpo : p.o = j.o := by
            have := PInv.ho hl p hp
            rw [hpj, hjo] at this
            exact (Option.some.inj this).symm
          refine .inr ⟨fun q hq hqd => ?_, ?_⟩
          · obtain ⟨hq1, hq2⟩ := List.mem_filter.1 hq
            have hqj : q.i ≠ j.i := fun e' => by rw [e', Nat.beq_refl] at hq2; cases hq2
            exact PInv.dsts hl p hp q hq1 (fun e' => hqj (by rw [← e', hpj])) hpd hqd
          · rw [hpe, hjv d (by rw [← hpo]; exact hpd)]
            rw [show j.o.dst = some d by rw [← hpo]; exact hpd, put_get, if_pos rfl, hsz]
        · exact .inl ⟨p, hmem p hp hpj, hpd, hpe⟩
      · refine .inr ⟨fun p hp => h3 p (List.mem_filter.1 hp).1, ?_⟩
        rw [hold d ?_]
        · exact h4
        · intro dj hdj hdd
          subst hdd
          rcases hj' with hjl | hall
          · exact h3 j hjl hdj
          · rcases hj with hj | hj
            · rcases List.mem_cons.1 hj with rfl | hj
              · exact hej rfl
              · exact h3 j hj hdj
            · have hp := pair_spec (p := (e.i, 0)) (q := (j.i, 0)) h.ho hjo (hj e List.mem_cons_self).2
              exact (hp.2 (hna e List.mem_cons_self hej)).2.2.2 dj hdj hd
end
end Go.V
