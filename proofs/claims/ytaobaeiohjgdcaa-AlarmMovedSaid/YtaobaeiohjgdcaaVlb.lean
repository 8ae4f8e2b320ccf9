/- The verification-condition framework, part Lb: a region that draws its order: the law. Program-free. -/
import Derived.Test.YtaobaeiohjgdcaaVla
namespace Go.V
open Go Go.RowKit
variable {P : Program}

theorem ready_iff {ops : Array Oper} {listed : Array Bool} {i : Nat} : i ∈ Region.ready .any ops listed ↔ i < ops.size ∧ listed.getD i true = false ∧ ∃ o, ops[i]? = some o ∧ ∀ k ∈ bindsOn o, listed.getD k false = true := by
  unfold Region.ready
  simp only [List.mem_filter, List.mem_range, Bool.and_eq_true, Bool.not_eq_true']
  constructor
  · rintro ⟨h1, h2, h3⟩
    refine ⟨h1, h2, ops[i], Array.getElem?_eq_getElem h1, fun k hk => ?_⟩
    rw [Array.getElem?_eq_getElem h1] at h3
    simp only [Option.map_some, Option.getD_some, Array.all_eq_true', Bool.or_eq_true, Bool.not_eq_true'] at h3
    simp only [bindsOn, List.mem_filterMap] at hk
    obtain ⟨e, he, hke⟩ := hk
    split at hke
    · rename_i hb
      cases hke
      rcases h3 e (by simpa using he) with h4 | h4
      · rw [hb] at h4; cases h4
      · exact h4
    · cases hke
  · rintro ⟨h1, h2, o, ho, h3⟩
    refine ⟨h1, h2, ?_⟩
    rw [ho]
    simp only [Option.map_some, Option.getD_some, Array.all_eq_true', Bool.or_eq_true, Bool.not_eq_true']
    intro e he
    by_cases hb : Region.binds .any e = true
    · exact .inr (h3 e.on (List.mem_filterMap.2 ⟨e, by simpa using he, by rw [if_pos hb]⟩))
    · exact .inl (by simpa using hb)

/-- The state of a region under way. -/
structure Way (F : Fence) (n : Nat) (P : Program) (ops : Array Oper) (Q : Exit → Act → World → Prop) (ord : List (Nat × Nat)) (tab : List Nat) (us : List Nat) (listed : Array Bool) (a la : Act) (w : World) (pend : List PE) (pre rest : List (Nat × Nat)) : Prop where
  und : us.Nodup
  size : listed.size = ops.size
  uiff : ∀ i, i < ops.size → (listed.getD i true = false ↔ i ∈ us)
  ult : ∀ i ∈ us, i < ops.size
  ord : ord = pre ++ rest
  cover : ∀ i ∈ us, (∃ m, (i, m) ∈ rest) ∨ ∃ p ∈ pend, p.i = i
  runl : ∀ q ∈ rest, q.1 ∈ us
  punl : ∀ p ∈ pend, p.i ∈ us ∧ (p.i, 0) ∈ pre
  pnd : (pend.map PE.i).Nodup
  closed : ∀ i o, ops[i]? = some o → listed.getD i false = true → ∀ k ∈ bindsOn o, listed.getD k false = true
  defers : a.defers = la.defers
  tsize : a.tmps.size = la.tmps.size
  agree : ∀ d, (∀ p ∈ pend, p.o.dst ≠ some d) → a.tmps[d]? = la.tmps[d]?
  inv : PInv F P ops tab a la w pend
  rest : eag F n P ops Q rest la w

theorem getD_set {listed : Array Bool} {i k : Nat} {dflt : Bool} (hi : i < listed.size) : (listed.setIfInBounds i true).getD k dflt = if i = k then true else listed.getD k dflt := by
  simp only [Array.getD_eq_getD_getElem?, Array.getElem?_setIfInBounds]
  by_cases h : i = k
  · subst h; simp [hi]
  · simp [h]

theorem drawOK_spec {ops : Array Oper} {ord : List (Nat × Nat)} {tab : List Nat} (h : drawOK ops ord tab = true) : tabOK ops.toList tab = true ∧ pairsOK ops tab ord = true ∧ topOK ops [] ord = true ∧ ∀ i, i < ops.size → ∃ q ∈ ord, q.1 = i := by
  simp only [drawOK, Bool.and_eq_true, List.all_eq_true, List.mem_range, List.any_eq_true] at h
  obtain ⟨⟨⟨h1, h2⟩, h3⟩, h4⟩ := h
  refine ⟨h1, h2, h3, fun i hi => ?_⟩
  obtain ⟨q, hq, hb⟩ := h4 i hi
  exact ⟨q, hq, (Nat.eq_of_beq_eq_true hb).symm⟩

theorem top_nodup {ops : Array Oper} {rest : List (Nat × Nat)} : ∀ {l : List (Nat × Nat)} {pre : List Nat}, topOK ops pre (l ++ rest) = true → (∀ q ∈ rest, ∀ k ∈ pre, q.1 ≠ k) ∧ ∀ p ∈ l, ∀ q ∈ rest, q.1 ≠ p.1 := by
  have key : ∀ {l : List (Nat × Nat)} {pre : List Nat}, topOK ops pre l = true → ∀ q ∈ l, ∀ k ∈ pre, q.1 ≠ k := by
    intro l
    induction l with
    | nil => intro pre _ q hq; cases hq
    | cons x l ih =>
      obtain ⟨i, m⟩ := x
      intro pre h q hq k hk he
      simp only [topOK, Bool.and_eq_true, Bool.not_eq_true'] at h
      obtain ⟨⟨_, h2⟩, h3⟩ := h
      rcases List.mem_cons.1 hq with rfl | hq
      · have : pre.any (Nat.beq i) = true := List.any_eq_true.2 ⟨k, hk, by rw [← he]; exact Nat.beq_refl _⟩
        rw [this] at h2; cases h2
      · exact ih h3 q hq k (List.mem_cons_of_mem _ hk) he
  intro l
  induction l with
  | nil => intro pre h; exact ⟨fun q hq => key h q hq, fun p hp => by cases hp⟩
  | cons x l ih =>
    obtain ⟨i, m⟩ := x
    intro pre h
    refine ⟨fun q hq => key h q (List.mem_append_right _ hq), ?_⟩
    simp only [List.cons_append, topOK, Bool.and_eq_true] at h
    have h3 := ih h.2
    intro p hp q hq
    rcases List.mem_cons.1 hp with rfl | hp
    · exact h3.1 q hq i List.mem_cons_self
    · exact h3.2 p hp q hq
theorem PInv.get {F : Fence} {ops : Array Oper} {tab : List Nat} {a la : Act} {w : World} {l : List PE} (h : PInv F P ops tab a la w l) : ∀ p ∈ l, ∃ l', PEOK F P ops tab a la w p l' ∧ ∀ q ∈ l', q ∈ l := by
  induction l with
  | nil => intro p hp; cases hp
  | cons e l ih =>
    intro p hp
    rcases List.mem_cons.1 hp with rfl | hp
    · exact ⟨l, h.1, fun q hq => List.mem_cons_of_mem _ hq⟩
    · obtain ⟨l', h1, h2⟩ := ih h.2 p hp
      exact ⟨l', h1, fun q hq => List.mem_cons_of_mem _ (h2 q hq)⟩
theorem put_defers (a : Act) (d : Option Tmp) (v : Value) : (a.put d v).defers = a.defers := by cases d <;> rfl
theorem put_size (a : Act) (d : Option Tmp) (v : Value) : (a.put d v).tmps.size = a.tmps.size := by cases d <;> simp [Act.put]
theorem put_other (a : Act) {d : Option Tmp} (v : Value) {e : Nat} (h : d ≠ some e) : (a.put d v).tmps[e]? = a.tmps[e]? := by
  cases d with
  | none => rfl
  | some d => rw [put_get, if_neg (fun x => h (by rw [x]))]
theorem getD_tf {listed : Array Bool} {i : Nat} (hi : i < listed.size) : listed.getD i true = listed.getD i false := by
  simp [Array.getD, hi]
theorem getD_lt {listed : Array Bool} {i : Nat} (h : listed.getD i false = true) : i < listed.size := by
  rcases Nat.lt_or_ge i listed.size with h1 | h1
  · exact h1
  · simp [Array.getD, Nat.not_lt.2 h1] at h

theorem way_any {F : Fence} {n : Nat} {ops : Array Oper} {Q : Exit → Act → World → Prop} {ord : List (Nat × Nat)} {tab : List Nat} (hok : drawOK ops ord tab = true) (hQ : ∀ c a w, ¬ Q (.panic c) a w) :
    ∀ (fuel : Nat) {us : List Nat} {listed : Array Bool} {a la : Act} {w : World} {pend : List PE} {pre rest : List (Nat × Nat)}, us.length = fuel → Way F n P ops Q ord tab us listed a la w pend pre rest → wpAnyIn F n P .any ops Q fuel listed a w := by
  obtain ⟨htab, hpairs, htop, hcov⟩ := drawOK_spec hok
  -- the end
  have fin : ∀ {listed : Array Bool} {a la : Act} {w : World} {pend : List PE} {pre rest : List (Nat × Nat)}, Way F n P ops Q ord tab [] listed a la w pend pre rest → Q .normal a w := by
    intro listed a la w pend pre rest h
    have hp : pend = [] := by
      cases pend with
      | nil => rfl
      | cons p l => have := (h.punl p List.mem_cons_self).1; cases this
    have hr : rest = [] := by
      cases rest with
      | nil => rfl
      | cons q l => have := h.runl q List.mem_cons_self; cases this
    subst hp; subst hr
    have hal : a = la := by
      have h1 := h.defers
      have h2 : a.tmps = la.tmps := Array.ext_getElem? (fun d => h.agree d (fun p hp => by cases hp))
      cases a; cases la
      simp only at h1 h2
      subst h1; subst h2; rfl
    rw [hal]; exact h.rest
  -- something can come up
  have some_ready : ∀ {us : List Nat} {listed : Array Bool} {a la : Act} {w : World} {pend : List PE} {pre rest : List (Nat × Nat)}, Way F n P ops Q ord tab us listed a la w pend pre rest → Region.ready .any ops listed = [] → us = [] := by
    intro us listed a la w pend pre rest h hr
    cases hus : us with
    | nil => rfl
    | cons i0 us' =>
      exfalso
      have hi0 : i0 ∈ us := by rw [hus]; exact List.mem_cons_self
      obtain ⟨q, hq, hqi⟩ := hcov i0 (h.ult i0 hi0)
      obtain ⟨i, hi, o, ho, hk⟩ := top_spec (us := us) (Ls := fun k => listed.getD k false = true) htop (fun k hk => by cases hk) (fun q hq => by
        obtain ⟨o, ho, _⟩ := top_plain htop q hq
        have hlt := (Array.getElem?_eq_some_iff.1 ho).1
        by_cases hm : q.1 ∈ us
        · exact .inl hm
        · refine .inr ?_
          have hf := mt (h.uiff q.1 hlt).1 hm
          rw [getD_tf (by rw [h.size]; exact hlt)] at hf
          simpa using hf) ⟨q, hq, by rw [hqi]; exact hi0⟩
      have : i ∈ Region.ready .any ops listed := ready_iff.2 ⟨h.ult i hi, (h.uiff i (h.ult i hi)).2 hi, o, ho, hk⟩
      rw [hr] at this; cases this
  intro fuel
  induction fuel with
  | zero =>
    intro us listed a la w pend pre rest hlen h
    have hus : us = [] := List.length_eq_zero_iff.1 hlen
    subst hus
    refine ⟨?_, fin h⟩
    cases hr : Region.ready .any ops listed with
    | nil => rfl
    | cons i l =>
      have hi : i ∈ Region.ready .any ops listed := by rw [hr]; exact List.mem_cons_self
      obtain ⟨h1, h2, _⟩ := ready_iff.1 hi
      have := (h.uiff i h1).1 h2
      cases this
  | succ fuel ih =>
    intro us listed a la w pend pre rest hlen h
    refine ⟨fun hr => ?_, fun i hi => ?_⟩
    · have := some_ready h hr
      subst this
      exact fin h
    · -- one comes up
      obtain ⟨hilt, hil, oi, hoi, hib⟩ := ready_iff.1 hi
      have hius : i ∈ us := (h.uiff i hilt).1 hil
      have hlen' : (us.erase i).length = fuel := by rw [List.length_erase_of_mem hius, hlen]; rfl
      -- a later one that waits for an unlisted one is not ready
      have noanc : ∀ k, k ∈ us → anc tab i k = false := by
        intro k hk
        cases ha : anc tab i k with
        | false => rfl
        | true =>
          exfalso
          have := anc_done htab (Ls := fun k => listed.getD k false = true) h.closed i k oi hoi hib ha (fun k hk => by rw [← h.size]; exact getD_lt hk)
          have h2 := (h.uiff k (h.ult k hk)).2 hk
          rw [getD_tf (by rw [h.size]; exact h.ult k hk)] at h2
          rw [h2] at this; cases this
      -- what holds of the lists when i is listed
      have hsz' : (listed.setIfInBounds i true).size = ops.size := by simp [h.size]
      have huiff' : ∀ k, k < ops.size → ((listed.setIfInBounds i true).getD k true = false ↔ k ∈ us.erase i) := by
        intro k hk
        rw [getD_set (by rw [h.size]; exact hilt), h.und.mem_erase_iff]
        by_cases hik : i = k
        · subst hik; simp
        · rw [if_neg hik, h.uiff k hk]
          exact ⟨fun h1 => ⟨fun e => hik e.symm, h1⟩, fun h1 => h1.2⟩
      have hclosed' : ∀ j o, ops[j]? = some o → (listed.setIfInBounds i true).getD j false = true → ∀ k ∈ bindsOn o, (listed.setIfInBounds i true).getD k false = true := by
        intro j o hj hl k hk
        rw [getD_set (by rw [h.size]; exact hilt)] at hl ⊢
        split
        · rfl
        · split at hl
          · rename_i e; subst e
            rw [hoi] at hj; cases hj
            exact hib k hk
          · exact h.closed j o hj hl k hk
      have hpl : plainOp oi = true := by
        obtain ⟨q, hq, hqi⟩ := hcov i hilt
        obtain ⟨o, ho, hp⟩ := top_plain htop q hq
        rw [hqi, hoi] at ho; cases ho
        exact hp
      clear hi hil
      have hund' := h.und.erase i
      have hult' : ∀ k ∈ us.erase i, k < ops.size := fun k hk => h.ult k (List.mem_of_mem_erase hk)
      have hmem' : ∀ k ∈ us, k ≠ i → k ∈ us.erase i := fun k hk hne => (h.und.mem_erase_iff).2 ⟨hne, hk⟩
      have hne' : ∀ k ∈ us.erase i, k ≠ i := fun k hk => ((h.und.mem_erase_iff).1 hk).1
      -- one that was taken ahead
      have doP : ∀ {la : Act} {pend : List PE} {pre rest : List (Nat × Nat)}, Way F n P ops Q ord tab us listed a la w pend pre rest → (∃ p ∈ pend, p.i = i) → wpOpIn F n P ops Q i (wpAnyIn F n P .any ops Q fuel (listed.setIfInBounds i true)) a w := by
        rintro la pend pre rest h ⟨p, hp, hpi⟩
        obtain ⟨l', hpe, hl'⟩ := h.inv.get p hp
        have hpo : p.o = oi := by have := hpe.ho; rw [hpi, hoi] at this; exact (Option.some.inj this).symm
        have hsee : Sees ops oi a p.b := by
          intro d hd
          rw [← hpo] at hd
          rcases hpe.see d hd with ⟨q, hq, hqd, _⟩ | ⟨_, h4⟩
          · have hqp := hl' q hq
            have := pair_spec (p := (q.i, 0)) (q := (p.i, 0)) (h.inv.ho q hqp) hpe.ho (hpe.pair q hq)
            exact absurd hd ((this.2 (by rw [hpi]; exact noanc q.i (h.punl q hqp).1)).2.2.1 d hqd)
          · exact h4.symm
        have hval := h.inv.val p hp
        have next : wpAnyIn F n P .any ops Q fuel (listed.setIfInBounds i true) (a.put oi.dst p.v) w := by
          refine ih (us := us.erase i) (la := la) (pend := pend.filter fun q => !Nat.beq q.i i) (pre := pre) (rest := rest) hlen' ⟨hund', hsz', huiff', hult', h.ord, ?_, ?_, ?_, ?_, hclosed', by rw [put_defers]; exact h.defers, by rw [put_size]; exact h.tsize, ?_, ?_, h.rest⟩
          · intro k hk
            rcases h.cover k (List.mem_of_mem_erase hk) with h1 | ⟨q, hq, hqk⟩
            · exact .inl h1
            · refine .inr ⟨q, List.mem_filter.2 ⟨hq, ?_⟩, hqk⟩
              cases hb : Nat.beq q.i i with
              | false => rfl
              | true => exact absurd ((Nat.eq_of_beq_eq_true hb).symm.trans hqk).symm (hne' k hk)
          · intro q hq
            refine hmem' q.1 (h.runl q hq) fun he => ?_
            have h1 := (top_nodup (l := pre) (by rw [← h.ord]; exact htop)).2 (p.i, 0) (h.punl p hp).2 q hq
            exact h1 (by rw [he, ← hpi])
          · intro q hq
            obtain ⟨hq1, hq2⟩ := List.mem_filter.1 hq
            exact ⟨hmem' q.i (h.punl q hq1).1 (fun he => by rw [he, Nat.beq_refl] at hq2; cases hq2), (h.punl q hq1).2⟩
          · exact List.Nodup.sublist (List.Sublist.map _ List.filter_sublist) h.pnd
          · intro d hd
            by_cases hdd : oi.dst = some d
            · rw [hdd, put_get, if_pos rfl, hval d (by rw [hpo]; exact hdd), h.tsize]
            · rw [put_other _ _ hdd]
              refine h.agree d fun q hq hqd => ?_
              by_cases hqi : q.i = i
              · have := h.inv.ho q hq
                rw [hqi, hoi] at this
                cases this
                exact hdd hqd
              · refine hd q (List.mem_filter.2 ⟨hq, ?_⟩) hqd
                cases hb : Nat.beq q.i i with
                | false => rfl
                | true => exact absurd (Nat.eq_of_beq_eq_true hb) hqi
          · have := PInv.exec (j := p) (tab := tab) hpe.ho h.tsize hval h.inv (fun q hq _ => by rw [hpi]; exact noanc q.i (h.punl q hq).1) h.pnd (.inl hp)
            rw [hpo, hpi] at this
            exact this
        have hyv := hpe.yv w hpe.bel
        have hab := fun f => hpe.ab w f hpe.bel
        rw [hpo] at hyv hab
        unfold wpOpIn
        simp only [hoi]
        rw [hsee.wanted]
        rcases hyv with ⟨hw, hrun⟩ | ⟨hw, hv⟩
        · rw [if_pos hw]
          unfold Oper.wpIn
          rw [hsee.about]
          refine ⟨hab, ?_⟩
          rw [Oper.semAt_plain _ _ _ (plain_defer hpl), hsee.exec hpl, hrun]
          exact next
        · rw [if_neg (by rw [hw]; exact Bool.false_ne_true)]
          rw [hsee.about]
          exact ⟨hab, by rw [← hv]; exact next⟩
      have main : ∀ (rest : List (Nat × Nat)) {la : Act} {pend : List PE} {pre : List (Nat × Nat)}, Way F n P ops Q ord tab us listed a la w pend pre rest → wpOpIn F n P ops Q i (wpAnyIn F n P .any ops Q fuel (listed.setIfInBounds i true)) a w := by
        intro rest
        induction rest with
        | nil =>
          intro la pend pre h
          rcases h.cover i hius with ⟨m, hm⟩ | hp
          · cases hm
          · exact doP h hp
        | cons q rest' ihr =>
          intro la pend pre h
          by_cases hp : ∃ p ∈ pend, p.i = i
          · exact doP h hp
          obtain ⟨k, m⟩ := q
          have hkus : k ∈ us := h.runl (k, m) List.mem_cons_self
          have hnod := top_nodup (l := pre) (rest := (k, m) :: rest') (by rw [← h.ord]; exact htop)
          have hnod' := top_nodup (l := pre ++ [(k, m)]) (rest := rest') (by rw [List.append_assoc]; simp only [List.singleton_append]; rw [← h.ord]; exact htop)
          have hpairs' := fun (p : PE) (hp : p ∈ pend) => pairs_spec (pre := pre) (rest := (k, m) :: rest') (by rw [← h.ord]; exact hpairs) (p.i, 0) (h.punl p hp).2 (k, m) List.mem_cons_self
          have hord' : ord = (pre ++ [(k, m)]) ++ rest' := by rw [h.ord]; simp
          have hpk : ∀ p ∈ pend, p.i ≠ k := fun p hp he => hnod.2 (p.i, 0) (h.punl p hp).2 (k, m) List.mem_cons_self he.symm
          obtain ⟨ok, hok', hmode⟩ := h.rest
          have effect : ∀ K : Act → World → Prop, k = i → wpOpIn F n P ops Q i K la w → (∀ a' w', K a' w' → (m ≤ 1 → Below w.heap.size w w') ∧ eag F n P ops Q rest' a' w') → wpOpIn F n P ops Q i (wpAnyIn F n P .any ops Q fuel (listed.setIfInBounds i true)) a w := by
            intro K hki hop hK
            subst hki
            rw [hoi] at hok'
            cases hok'
            have hap : ∀ p ∈ pend, m ≤ 1 ∧ (∀ d, p.o.dst = some d → d ∉ oi.looksAt ops) ∧ (∀ d, oi.dst = some d → d ∉ p.o.looksAt ops) ∧ ∀ d, p.o.dst = some d → oi.dst ≠ some d := by
              intro p hp
              have h1 := pair_spec (p := (p.i, 0)) (q := (k, m)) (h.inv.ho p hp) hoi (hpairs' p hp)
              have h2 := h1.2 (noanc p.i (h.punl p hp).1)
              exact ⟨h2.2.1, h2.2.2.1, h2.2.2.2, h1.1⟩
            have hsee : Sees ops oi a la := fun d hd => h.agree d fun p hp hpd => (hap p hp).2.1 d hpd hd
            refine op_move hoi hpl hsee h.defers hQ hop ?_
            intro v w' ds hk
            obtain ⟨hb, he⟩ := hK _ _ hk
            refine ih (us := us.erase k) (la := { la with defers := ds }.put oi.dst v) (pend := pend) (pre := pre ++ [(k, m)]) (rest := rest') hlen' ⟨hund', hsz', huiff', hult', hord', ?_, ?_, ?_, h.pnd, hclosed', by rw [put_defers, put_defers], by rw [put_size, put_size]; exact h.tsize, ?_, ?_, he⟩
            · intro j hj
              rcases h.cover j (List.mem_of_mem_erase hj) with ⟨m', hm'⟩ | h1
              · rcases List.mem_cons.1 hm' with hm' | hm'
                · cases hm'; exact absurd rfl (hne' _ hj)
                · exact .inl ⟨m', hm'⟩
              · exact .inr h1
            · intro q hq
              exact hmem' q.1 (h.runl q (List.mem_cons_of_mem _ hq)) (hnod'.2 (k, m) (by simp) q hq)
            · intro p hp
              exact ⟨hmem' p.i (h.punl p hp).1 (hpk p hp), List.mem_append_left _ (h.punl p hp).2⟩
            · intro d hd
              by_cases hdd : oi.dst = some d
              · rw [hdd, put_get, put_get, if_pos rfl, if_pos rfl]
                show (if d < a.tmps.size then some v else none) = if d < la.tmps.size then some v else none
                rw [h.tsize]
              · rw [put_other _ _ hdd, put_other _ _ hdd]
                exact h.agree d hd
            · cases hpe : pend with
              | nil => trivial
              | cons p0 l0 =>
                rw [← hpe]
                have hm1 : m ≤ 1 := (hap p0 (by rw [hpe]; exact List.mem_cons_self)).1
                refine PInv.step (by rw [put_size]) h.inv (fun p hp d hd => ?_) (fun p hp d hd => ?_) (hb hm1)
                · rw [put_other _ _ ((hap p hp).2.2.2 d hd)]
                · rw [put_other _ _ (fun hx => (hap p hp).2.2.1 d hx hd)]
          have notlater : m ≠ 0 → k = i := by
            intro hm0
            by_cases hki : k = i
            · exact hki
            · exfalso
              rcases h.cover i hius with ⟨m', hm'⟩ | h1
              · rcases List.mem_cons.1 hm' with hm' | hm'
                · cases hm'; exact hki rfl
                · have h1 := pairs_spec (pre := pre ++ [(k, m)]) (rest := rest') (by rw [← hord']; exact hpairs) (k, m) (by simp) (i, m') hm'
                  have h2 := (pair_spec (p := (k, m)) (q := (i, m')) hok' hoi h1).2 (noanc k hkus)
                  exact hm0 h2.1
              · exact hp h1
          match m, hmode, effect, notlater, h, hnod, hnod', hpairs', hord' with
          | 0, hmode, _, _, h, hnod, hnod', hpairs', hord' =>
            obtain ⟨v, hv, hab, he⟩ := hmode
            have hdst : ∀ p ∈ pend, ∀ d, p.o.dst = some d → ok.dst ≠ some d := fun p hp => (pair_spec (p := (p.i, 0)) (q := (k, 0)) (h.inv.ho p hp) hok' (hpairs' p hp)).1
            refine ihr (la := la.put ok.dst v) (pend := ⟨k, ok, v, la, w⟩ :: pend) (pre := pre ++ [(k, 0)]) ⟨h.und, h.size, h.uiff, h.ult, hord', ?_, fun q hq => h.runl q (List.mem_cons_of_mem _ hq), ?_, ?_, h.closed, by rw [put_defers]; exact h.defers, by rw [put_size]; exact h.tsize, ?_, ⟨⟨hok', hv, hab, Below.refl _ _, ?_, ?_, fun p hp => hpairs' p hp⟩, ?_⟩, he⟩
            · intro j hj
              rcases h.cover j hj with ⟨m', hm'⟩ | ⟨p, hp, hpj⟩
              · rcases List.mem_cons.1 hm' with hm' | hm'
                · cases hm'; exact .inr ⟨_, List.mem_cons_self, rfl⟩
                · exact .inl ⟨m', hm'⟩
              · exact .inr ⟨p, List.mem_cons_of_mem _ hp, hpj⟩
            · intro p hp
              rcases List.mem_cons.1 hp with rfl | hp
              · exact ⟨hkus, by simp⟩
              · exact ⟨(h.punl p hp).1, List.mem_append_left _ (h.punl p hp).2⟩
            · refine List.nodup_cons.2 ⟨fun hm => ?_, h.pnd⟩
              obtain ⟨p, hp, hpi⟩ := List.mem_map.1 hm
              exact hpk p hp hpi
            · intro d hd
              rw [put_other _ _ (hd _ List.mem_cons_self)]
              exact h.agree d fun p hp => hd p (List.mem_cons_of_mem _ hp)
            · intro d hd
              simp only at hd
              rw [hd, put_get, if_pos rfl]
              have := put_size la (some d) v
              rw [this]
            · intro d hd
              by_cases hx : ∃ p ∈ pend, p.o.dst = some d
              · obtain ⟨p, hp, hpd⟩ := hx
                exact .inl ⟨p, hp, hpd, by rw [put_other _ _ (hdst p hp d hpd)]⟩
              · exact .inr ⟨fun p hp hpd => hx ⟨p, hp, hpd⟩, (h.agree d fun p hp hpd => hx ⟨p, hp, hpd⟩).symm⟩
            · exact PInv.step (by rw [put_size]) h.inv (fun p hp d hd => by rw [put_other _ _ (hdst p hp d hd)]) (fun p hp d hd => rfl) (Below.refl _ _)
          | 1, hmode, effect, notlater, h, _, _, _, _ =>
            have hki := notlater (by simp)
            exact effect (fun a' w' => Below w.heap.size w w' ∧ eag F n P ops Q rest' a' w') hki (by rw [← hki]; exact hmode) (fun a' w' hk => ⟨fun _ => hk.1, hk.2⟩)
          | m + 2, hmode, effect, notlater, h, _, _, _, _ =>
            have hki := notlater (by simp)
            exact effect (eag F n P ops Q rest') hki (by rw [← hki]; exact hmode) (fun a' w' hk => ⟨fun hm => by omega, hk⟩)
      exact main rest h

/-- **A region that draws its order: one order for all.** -/
theorem wpIn_region_eag {F : Fence} {n : Nat} {ops : Array Oper} {Q : Exit → Act → World → Prop} {ord : List (Nat × Nat)} {tab : List Nat} {id : Nat} {a : Act} {w : World} (hm : P.follows .mixedOrders = true) (hok : drawOK ops ord tab = true) (hQ : ∀ c a w, ¬ Q (.panic c) a w)
    (h : eag F n P ops Q ord a { w with drawn := w.drawn + 1 }) : (Code.region id ops true).wpIn F n P Q a w := by
  refine wpIn_region_any hm ?_
  obtain ⟨_, _, htop, hcov⟩ := drawOK_spec hok
  refine way_any hok hQ ops.size (us := List.range ops.size) (la := a) (pend := []) (pre := []) (rest := ord) (by simp) ⟨List.nodup_range, by simp, ?_, (fun i hi => List.mem_range.1 hi), rfl, ?_, ?_, (fun p hp => (by cases hp)), List.nodup_nil, ?_, rfl, rfl, fun _ _ => rfl, trivial, h⟩
  · intro i hi
    simp [Array.getD, hi]
  · intro i hi
    obtain ⟨q, hq, hqi⟩ := hcov i (List.mem_range.1 hi)
    exact .inl ⟨q.2, by rw [← hqi]; exact hq⟩
  · intro q hq
    obtain ⟨o, ho, _⟩ := top_plain htop q hq
    exact List.mem_range.2 (Array.getElem?_eq_some_iff.1 ho).1
  · intro i o ho hl
    simp [Array.getD] at hl
end Go.V
