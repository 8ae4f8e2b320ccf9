import Derived.Test.YtlihojecopfgfaaHa7
import Derived.Shelf.Spec.SlicesGrow
set_option linter.unusedVariables false
set_option linter.unusedSimpArgs false
/- The verification-condition framework, part T: a region that draws its order, more than one of whose operations make memory, in any order. -/
namespace Go.V
open Go Go.RowKit
variable {P : Program}

/-- It has not been taken, and whom it waits for has been. -/
def rdyB (ops : List Oper) (D : List Nat) (i : Nat) : Bool :=
  !D.any (Nat.beq i) && match ops[i]? with | some o => (bindsOn o).all (fun k => D.any (Nat.beq k)) | none => false
def nextV (ops : List Oper) (vs D : List Nat) : Option Nat := vs.find? (rdyB ops D)
def cands (ops : List Oper) (D : List Nat) : List Nat := (List.range ops.length).filter (rdyB ops D)
/-- Two operations of which neither waits for the other are apart. -/
def pairS (ops : Array Oper) (tab : List Nat) (i j : Nat) : Bool :=
  match ops[i]?, ops[j]? with
  | some o, some o' => dstNe o o' && (anc tab j i || anc tab i j || (!dstIn (o'.looksAt ops) o && !dstIn (o.looksAt ops) o'))
  | _, _ => false
def statOK (ops : Array Oper) (vs tab : List Nat) : Bool :=
  tabOK ops.toList tab && (ops.toList.all plainOp) && (vs.all fun i => (List.range ops.size).all fun j => Nat.beq i j || pairS ops tab i j)
theorem any_beq {D : List Nat} {i : Nat} : D.any (Nat.beq i) = true ↔ i ∈ D := by
  rw [List.any_eq_true]
  constructor
  · rintro ⟨x, hx, h⟩
    rw [Nat.eq_of_beq_eq_true h]; exact hx
  · exact fun h => ⟨i, h, Nat.beq_refl i⟩
theorem rdyB_iff {ops : Array Oper} {D : List Nat} {i : Nat} : rdyB ops.toList D i = true ↔ i ∉ D ∧ ∃ o, ops[i]? = some o ∧ ∀ k ∈ bindsOn o, k ∈ D := by
  unfold rdyB
  rw [Bool.and_eq_true, Bool.not_eq_true', ← Bool.not_eq_true, any_beq]
  constructor
  · rintro ⟨h1, h2⟩
    refine ⟨h1, ?_⟩
    split at h2
    · rename_i o ho
      refine ⟨o, by simpa using ho, fun k hk => any_beq.1 (List.all_eq_true.1 h2 k hk)⟩
    · cases h2
  · rintro ⟨h1, o, ho, hk⟩
    refine ⟨h1, ?_⟩
    have ho' : ops.toList[i]? = some o := by simpa using ho
    rw [ho']
    exact List.all_eq_true.2 fun k hk' => any_beq.2 (hk k hk')
/-- The operations, what yields a value as soon as it can; of the others any that can. -/
def eagT (R : WR) (F : Fence) (n : Nat) (P : Program) (ops : Array Oper) (vs : List Nat) (Q : Exit → Act → World → Prop) : Nat → List Nat → Act → World → Prop
  | 0, _, a, w => Q .normal a w
  | f + 1, D, a, w => match nextV ops.toList vs D with
    | some i => ∃ o, ops[i]? = some o ∧ ∃ v, (∀ W, R.r w W → Yv P ops o a v W) ∧ (∀ W g, R.r w W → o.about P W a.eval = some g → F.fn g) ∧ eagT R F n P ops vs Q f (i :: D) (a.put o.dst v) w
    | none => ∀ i ∈ cands ops.toList D, wpOpIn F n P ops Q i (fun a' w' => R.r w w' ∧ eagT R F n P ops vs Q f (i :: D) a' w') a w
theorem statOK_spec {ops : Array Oper} {vs tab : List Nat} (h : statOK ops vs tab = true) : tabOK ops.toList tab = true ∧ (∀ (i : Nat) (o : Oper), ops[i]? = some o → plainOp o = true) ∧ ∀ i ∈ vs, ∀ j, j < ops.size → i ≠ j → pairS ops tab i j = true := by
  simp only [statOK, Bool.and_eq_true, List.all_eq_true, List.mem_range, Bool.or_eq_true] at h
  obtain ⟨⟨h1, h2⟩, h3⟩ := h
  refine ⟨h1, fun i o ho => h2 o ?_, fun i hi j hj hne => ?_⟩
  · exact List.mem_of_getElem? (by simpa using ho : ops.toList[i]? = some o)
  · rcases h3 i hi j hj with h | h
    · exact absurd (Nat.eq_of_beq_eq_true h) hne
    · exact h
theorem pairS_pair {ops : Array Oper} {tab : List Nat} {i j : Nat} (h : pairS ops tab i j = true) (hn : anc tab i j = false) : pairOK ops tab (i, 0) (j, 0) = true := by
  unfold pairS at h
  unfold pairOK
  split at h
  · rename_i o o' h1 h2
    simp only [h1, h2]
    rw [hn, Bool.or_false] at h
    simpa using h
  · cases h
theorem all_lt_len : ∀ (n : Nat) (D : List Nat), (∀ i, i < n → i ∈ D) → n ≤ D.length
  | 0, _, _ => Nat.zero_le _
  | n + 1, D, h => by
    have hn := h n (Nat.lt_succ_self n)
    have ih := all_lt_len n (D.erase n) fun i hi => (List.mem_erase_of_ne (by omega)).2 (h i (by omega))
    rw [List.length_erase_of_mem hn] at ih
    have := List.length_pos_of_mem hn
    omega
theorem nodup_le_len : ∀ (n : Nat) (E : List Nat), (∀ x ∈ E, x < n) → E.Nodup → E.length ≤ n
  | 0, E, hE, _ => by
    cases E with
    | nil => exact Nat.le_refl _
    | cons x E => have := hE x List.mem_cons_self; omega
  | n + 1, E, hE, hn => by
    by_cases hm : n ∈ E
    · have := nodup_le_len n (E.erase n) (fun x hx => by
        have h1 := hE x (List.mem_of_mem_erase hx)
        have h2 := (hn.mem_erase_iff.1 hx).1
        omega) (hn.erase n)
      rw [List.length_erase_of_mem hm] at this
      omega
    · have := nodup_le_len n E (fun x hx => by
        have h1 := hE x hx
        have : x ≠ n := fun e => hm (e ▸ hx)
        omega) hn
      omega
theorem bindsOn_lt {ops : Array Oper} {tab : List Nat} (h : tabOK ops.toList tab = true) {i : Nat} {o : Oper} (ho : ops[i]? = some o) {k : Nat} (hk : k ∈ bindsOn o) : k < i := by
  have ho' : ops.toList[i]? = some o := by simpa using ho
  have hi : i < ops.toList.length := (List.getElem?_eq_some_iff.1 ho').1
  simp only [tabOK, List.all_eq_true, List.mem_range] at h
  have h1 := h i hi
  rw [ho'] at h1
  simp only [Bool.and_eq_true, List.all_eq_true] at h1
  exact Nat.le_of_ble_eq_true (h1.1 k hk)
/-- The state of such a region under way. -/
structure WayT (R : WR) (F : Fence) (n : Nat) (P : Program) (ops : Array Oper) (vs : List Nat) (Q : Exit → Act → World → Prop) (tab : List Nat) (us : List Nat) (listed : Array Bool) (a la : Act) (w : World) (pend : List PE) (D : List Nat) (f : Nat) : Prop where
  und : us.Nodup
  size : listed.size = ops.size
  uiff : ∀ i, i < ops.size → (listed.getD i true = false ↔ i ∈ us)
  ult : ∀ i ∈ us, i < ops.size
  dnd : D.Nodup
  len : D.length + f = ops.size
  dA : ∀ i, i < ops.size → i ∉ us → i ∈ D
  dP : ∀ i ∈ D, i ∈ us → ∃ p ∈ pend, p.i = i
  dlt : ∀ i ∈ D, i < ops.size
  punl : ∀ p ∈ pend, p.i ∈ us ∧ p.i ∈ D ∧ p.i ∈ vs
  pnd : (pend.map PE.i).Nodup
  closedD : ∀ i o, ops[i]? = some o → i ∈ D → ∀ k ∈ bindsOn o, k ∈ D
  closed : ∀ i o, ops[i]? = some o → listed.getD i false = true → ∀ k ∈ bindsOn o, listed.getD k false = true
  defers : a.defers = la.defers
  tsize : a.tmps.size = la.tmps.size
  agree : ∀ d, (∀ p ∈ pend, p.o.dst ≠ some d) → a.tmps[d]? = la.tmps[d]?
  inv : PInv R F P ops tab a la w pend
  rest : eagT R F n P ops vs Q f D la w
theorem way_anyT {R : WR} {F : Fence} {n : Nat} {ops : Array Oper} {Q : Exit → Act → World → Prop} {vs tab : List Nat} (hok : statOK ops vs tab = true) (hQ : ∀ c a w, ¬ Q (.panic c) a w) :
    ∀ (fuel : Nat) {us : List Nat} {listed : Array Bool} {a la : Act} {w : World} {pend : List PE} {D : List Nat} {f : Nat}, us.length = fuel → WayT R F n P ops vs Q tab us listed a la w pend D f → wpAnyIn F n P .any ops Q fuel listed a w := by
  obtain ⟨htab, hplain, hstat⟩ := statOK_spec hok
  have fin : ∀ {listed : Array Bool} {a la : Act} {w : World} {pend : List PE} {D : List Nat} {f : Nat}, WayT R F n P ops vs Q tab [] listed a la w pend D f → Q .normal a w := by
    intro listed a la w pend D f h
    have hp : pend = [] := by
      cases pend with
      | nil => rfl
      | cons p l => have := (h.punl p List.mem_cons_self).1; cases this
    subst hp
    have hf : f = 0 := by
      have := all_lt_len ops.size D fun i hi => h.dA i hi (fun hx => by cases hx)
      have := h.len
      omega
    subst hf
    have hal : a = la := by
      have h1 := h.defers
      have h2 : a.tmps = la.tmps := Array.ext_getElem? (fun d => h.agree d (fun p hp => by cases hp))
      cases a; cases la
      simp only at h1 h2
      subst h1; subst h2; rfl
    rw [hal]; exact h.rest
  -- something can come up: the least of those that are left
  have some_ready : ∀ {us : List Nat} {listed : Array Bool} {a la : Act} {w : World} {pend : List PE} {D : List Nat} {f : Nat}, WayT R F n P ops vs Q tab us listed a la w pend D f → Region.ready .any ops listed = [] → us = [] := by
    intro us listed a la w pend D f h hr
    cases hus : us with
    | nil => rfl
    | cons i0 us' =>
      exfalso
      obtain ⟨i, hi, hmin⟩ : ∃ i, i ∈ us ∧ ∀ k, k < i → k ∉ us := by
        obtain ⟨m, hm1, hm2⟩ := least_of (p := fun i => i ∈ us) i0 (by rw [hus]; exact List.mem_cons_self)
        exact ⟨m, hm1, fun k hk hku => by have := hm2 k hku; omega⟩
      have hlt := h.ult i hi
      have ho : ops[i]? = some ops[i] := Array.getElem?_eq_getElem hlt
      have : i ∈ Region.ready .any ops listed := ready_iff.2 ⟨hlt, (h.uiff i hlt).2 hi, _, ho, fun k hk => by
        have hki : k < i := bindsOn_lt htab ho hk
        have hnk := mt (h.uiff k (by omega)).1 (hmin k hki)
        rw [getD_tf (by rw [h.size]; omega)] at hnk
        simpa using hnk⟩
      rw [hr] at this; cases this
  intro fuel
  induction fuel with
  | zero =>
    intro us listed a la w pend D f hlen h
    have hus : us = [] := List.length_eq_zero_iff.1 hlen
    subst hus
    refine ⟨?_, fin h⟩
    cases hr : Region.ready .any ops listed with
    | nil => rfl
    | cons i l =>
      have hi : i ∈ Region.ready .any ops listed := by rw [hr]; exact List.mem_cons_self
      obtain ⟨h1, h2, _⟩ := ready_iff.1 hi
      have := (h.uiff i h1).1 h2
      cases this
  | succ fuel ih =>
    intro us listed a la w pend D f hlen h
    refine ⟨fun hr => ?_, fun i hi => ?_⟩
    · have := some_ready h hr
      subst this
      exact fin h
    · obtain ⟨hilt, hil, oi, hoi, hib⟩ := ready_iff.1 hi
      have hius : i ∈ us := (h.uiff i hilt).1 hil
      have hlen' : (us.erase i).length = fuel := by rw [List.length_erase_of_mem hius, hlen]; rfl
      have noanc : ∀ k, k ∈ us → anc tab i k = false := by
        intro k hk
        cases ha : anc tab i k with
        | false => rfl
        | true =>
          exfalso
          have := anc_done htab (Ls := fun k => listed.getD k false = true) h.closed i k oi hoi hib ha (fun k hk => by rw [← h.size]; exact getD_lt hk)
          have h2 := (h.uiff k (h.ult k hk)).2 hk
          rw [getD_tf (by rw [h.size]; exact h.ult k hk)] at h2
          rw [h2] at this; cases this
      have hsz' : (listed.setIfInBounds i true).size = ops.size := by simp [h.size]
      have huiff' : ∀ k, k < ops.size → ((listed.setIfInBounds i true).getD k true = false ↔ k ∈ us.erase i) := by
        intro k hk
        rw [getD_set (by rw [h.size]; exact hilt), h.und.mem_erase_iff]
        by_cases hik : i = k
        · subst hik; simp
        · rw [if_neg hik, h.uiff k hk]
          exact ⟨fun h1 => ⟨fun e => hik e.symm, h1⟩, fun h1 => h1.2⟩
      have hclosed' : ∀ j o, ops[j]? = some o → (listed.setIfInBounds i true).getD j false = true → ∀ k ∈ bindsOn o, (listed.setIfInBounds i true).getD k false = true := by
        intro j o hj hl k hk
        rw [getD_set (by rw [h.size]; exact hilt)] at hl ⊢
        split
        · rfl
        · split at hl
          · rename_i e; subst e
            rw [hoi] at hj; cases hj
            exact hib k hk
          · exact h.closed j o hj hl k hk
      have hpl : plainOp oi = true := hplain i oi hoi
      have hibus : ∀ k ∈ bindsOn oi, k < ops.size ∧ k ∉ us := fun k hk => by
        have h1 := hib k hk
        have hks : k < ops.size := by rw [← h.size]; exact getD_lt h1
        refine ⟨hks, fun hku => ?_⟩
        have h2 := (h.uiff k hks).2 hku
        rw [getD_tf (by rw [h.size]; exact hks)] at h2
        rw [h2] at h1; cases h1
      clear hi hil
      have hund' := h.und.erase i
      have hult' : ∀ k ∈ us.erase i, k < ops.size := fun k hk => h.ult k (List.mem_of_mem_erase hk)
      have hmem' : ∀ k ∈ us, k ≠ i → k ∈ us.erase i := fun k hk hne => (h.und.mem_erase_iff).2 ⟨hne, hk⟩
      have hne' : ∀ k ∈ us.erase i, k ≠ i := fun k hk => ((h.und.mem_erase_iff).1 hk).1
      -- one that was taken ahead
      have doP : ∀ {la : Act} {pend : List PE} {D : List Nat} {f : Nat}, WayT R F n P ops vs Q tab us listed a la w pend D f → (∃ p ∈ pend, p.i = i) → wpOpIn F n P ops Q i (wpAnyIn F n P .any ops Q fuel (listed.setIfInBounds i true)) a w := by
        rintro la pend D f h ⟨p, hp, hpi⟩
        obtain ⟨l', hpe, hl'⟩ := h.inv.get p hp
        have hpo : p.o = oi := by have := hpe.ho; rw [hpi, hoi] at this; exact (Option.some.inj this).symm
        have hsee : Sees ops oi a p.b := by
          intro d hd
          rw [← hpo] at hd
          rcases hpe.see d hd with ⟨q, hq, hqd, _⟩ | ⟨_, h4⟩
          · have hqp := hl' q hq
            have := pair_spec (p := (q.i, 0)) (q := (p.i, 0)) (h.inv.ho q hqp) hpe.ho (hpe.pair q hq)
            exact absurd hd ((this.2 (by rw [hpi]; exact noanc q.i (h.punl q hqp).1)).2.2.1 d hqd)
          · exact h4.symm
        have hval := h.inv.val p hp
        have next : wpAnyIn F n P .any ops Q fuel (listed.setIfInBounds i true) (a.put oi.dst p.v) w := by
          refine ih (us := us.erase i) (la := la) (pend := pend.filter fun q => !Nat.beq q.i i) (D := D) (f := f) hlen' ⟨hund', hsz', huiff', hult', h.dnd, h.len, ?_, ?_, h.dlt, ?_, ?_, h.closedD, hclosed', by rw [put_defers]; exact h.defers, by rw [put_size]; exact h.tsize, ?_, ?_, h.rest⟩
          · intro k hk hku
            by_cases e : k = i
            · subst e; rw [← hpi]; exact (h.punl p hp).2.1
            · exact h.dA k hk fun hx => hku (hmem' k hx e)
          · intro k hkD hku
            obtain ⟨q, hq, hqk⟩ := h.dP k hkD (List.mem_of_mem_erase hku)
            refine ⟨q, List.mem_filter.2 ⟨hq, ?_⟩, hqk⟩
            cases hb : Nat.beq q.i i with
            | false => rfl
            | true => exact absurd ((Nat.eq_of_beq_eq_true hb).symm.trans hqk).symm (hne' k hku)
          · intro q hq
            obtain ⟨hq1, hq2⟩ := List.mem_filter.1 hq
            exact ⟨hmem' q.i (h.punl q hq1).1 (fun he => by rw [he, Nat.beq_refl] at hq2; cases hq2), (h.punl q hq1).2⟩
          · exact List.Nodup.sublist (List.Sublist.map _ List.filter_sublist) h.pnd
          · intro d hd
            by_cases hdd : oi.dst = some d
            · rw [hdd, put_get, if_pos rfl, hval d (by rw [hpo]; exact hdd), h.tsize]
            · rw [put_other _ _ hdd]
              refine h.agree d fun q hq hqd => ?_
              by_cases hqi : q.i = i
              · have := h.inv.ho q hq
                rw [hqi, hoi] at this
                cases this
                exact hdd hqd
              · refine hd q (List.mem_filter.2 ⟨hq, ?_⟩) hqd
                cases hb : Nat.beq q.i i with
                | false => rfl
                | true => exact absurd (Nat.eq_of_beq_eq_true hb) hqi
          · have := PInv.exec (j := p) (tab := tab) hpe.ho h.tsize hval h.inv (fun q hq _ => by rw [hpi]; exact noanc q.i (h.punl q hq).1) h.pnd (.inl hp)
            rw [hpo, hpi] at this
            exact this
        have hyv := hpe.yv w hpe.bel
        have hab := fun f => hpe.ab w f hpe.bel
        rw [hpo] at hyv hab
        unfold wpOpIn
        simp only [hoi]
        rw [hsee.wanted]
        rcases hyv with ⟨hw, hrun⟩ | ⟨hw, hv⟩
        · rw [if_pos hw]
          unfold Oper.wpIn
          rw [hsee.about]
          refine ⟨hab, ?_⟩
          rw [Oper.semAt_plain _ _ _ (plain_defer hpl), hsee.exec hpl, hrun]
          exact next
        · rw [if_neg (by rw [hw]; exact Bool.false_ne_true)]
          rw [hsee.about]
          exact ⟨hab, by rw [← hv]; exact next⟩
      have main : ∀ (f : Nat) {la : Act} {pend : List PE} {D : List Nat}, WayT R F n P ops vs Q tab us listed a la w pend D f → wpOpIn F n P ops Q i (wpAnyIn F n P .any ops Q fuel (listed.setIfInBounds i true)) a w := by
        intro f
        induction f with
        | zero =>
          intro la pend D h
          have hD : i ∈ D := by
            refine Classical.byContradiction fun hno => ?_
            have h1 := nodup_le_len ops.size (i :: D) (fun x hx => by
              rcases List.mem_cons.1 hx with rfl | hx
              · exact hilt
              · exact h.dlt x hx) (List.nodup_cons.2 ⟨hno, h.dnd⟩)
            have h2 := h.len
            rw [List.length_cons] at h1
            omega
          exact doP h (h.dP i hD hius)
        | succ f ihf =>
          intro la pend D h
          by_cases hp : ∃ p ∈ pend, p.i = i
          · exact doP h hp
          have hiD : i ∉ D := fun hD => hp (h.dP i hD hius)
          have hr := h.rest
          unfold eagT at hr
          have notD : ∀ {p : PE}, p ∈ pend → ∀ {j : Nat} {o : Oper}, j ∉ D → anc tab p.i j = false := by
            intro p hp j o hj
            cases ha : anc tab p.i j with
            | false => rfl
            | true =>
              exfalso
              have hpD := (h.punl p hp).2.1
              have hpo := h.inv.ho p hp
              exact hj (anc_done htab (Ls := fun k => k ∈ D) (fun i o ho hi k hk => h.closedD i o ho hi k hk) p.i j p.o hpo (h.closedD p.i p.o hpo hpD) ha (fun k hk => h.dlt k hk))
          split at hr
          · rename_i k hk
            have hkr : rdyB ops.toList D k = true := List.find?_some hk
            have hkv : k ∈ vs := List.mem_of_find?_eq_some hk
            obtain ⟨hkD, ok, hok0, hkb⟩ := rdyB_iff.1 hkr
            obtain ⟨ok1, hok', v, hv, hab, he⟩ := hr
            have eok : ok = ok1 := by rw [hok0] at hok'; exact Option.some.inj hok'
            subst eok
            have hkus : k ∈ us := Classical.byContradiction fun hno => hkD (h.dA k (Array.getElem?_eq_some_iff.1 hok0).1 hno)
            have hpk : ∀ p ∈ pend, p.i ≠ k := fun p hp he => hkD (he ▸ (h.punl p hp).2.1)
            have hpair : ∀ p ∈ pend, pairOK ops tab (p.i, 0) (k, 0) = true := fun p hp =>
              pairS_pair (hstat p.i (h.punl p hp).2.2 k (Array.getElem?_eq_some_iff.1 hok0).1 (hpk p hp)) (notD hp (o := ok) hkD)
            have hdst : ∀ p ∈ pend, ∀ d, p.o.dst = some d → ok.dst ≠ some d := fun p hp => (pair_spec (p := (p.i, 0)) (q := (k, 0)) (h.inv.ho p hp) hok0 (hpair p hp)).1
            refine ihf (la := la.put ok.dst v) (pend := ⟨k, ok, v, la, w⟩ :: pend) (D := k :: D) ⟨h.und, h.size, h.uiff, h.ult, List.nodup_cons.2 ⟨hkD, h.dnd⟩, by rw [List.length_cons]; have := h.len; omega, fun j hj hju => List.mem_cons_of_mem _ (h.dA j hj hju), ?_, ?_, ?_, ?_, ?_, h.closed, by rw [put_defers]; exact h.defers, by rw [put_size]; exact h.tsize, ?_, ⟨⟨hok0, hv, hab, R.refl _, ?_, ?_, hpair⟩, ?_⟩, he⟩
            · intro j hj hju
              rcases List.mem_cons.1 hj with rfl | hj
              · exact ⟨_, List.mem_cons_self, rfl⟩
              · obtain ⟨p, hp, hpj⟩ := h.dP j hj hju
                exact ⟨p, List.mem_cons_of_mem _ hp, hpj⟩
            · intro j hj
              rcases List.mem_cons.1 hj with rfl | hj
              · exact (Array.getElem?_eq_some_iff.1 hok0).1
              · exact h.dlt j hj
            · intro p hp
              rcases List.mem_cons.1 hp with rfl | hp
              · exact ⟨hkus, List.mem_cons_self, hkv⟩
              · exact ⟨(h.punl p hp).1, List.mem_cons_of_mem _ (h.punl p hp).2.1, (h.punl p hp).2.2⟩
            · refine List.nodup_cons.2 ⟨fun hm => ?_, h.pnd⟩
              obtain ⟨p, hp, hpi⟩ := List.mem_map.1 hm
              exact hpk p hp hpi
            · intro j o ho hj q hq
              rcases List.mem_cons.1 hj with rfl | hj
              · rw [hok0] at ho; cases ho
                exact List.mem_cons_of_mem _ (hkb q hq)
              · exact List.mem_cons_of_mem _ (h.closedD j o ho hj q hq)
            · intro d hd
              rw [put_other _ _ (hd _ List.mem_cons_self)]
              exact h.agree d fun p hp => hd p (List.mem_cons_of_mem _ hp)
            · intro d hd
              simp only at hd
              rw [hd, put_get, if_pos rfl]
              have := put_size la (some d) v
              rw [this]
            · intro d hd
              by_cases hx : ∃ p ∈ pend, p.o.dst = some d
              · obtain ⟨p, hp, hpd⟩ := hx
                exact .inl ⟨p, hp, hpd, by rw [put_other _ _ (hdst p hp d hpd)]⟩
              · exact .inr ⟨fun p hp hpd => hx ⟨p, hp, hpd⟩, (h.agree d fun p hp hpd => hx ⟨p, hp, hpd⟩).symm⟩
            · exact PInv.step (by rw [put_size]) h.inv (fun p hp d hd => by rw [put_other _ _ (hdst p hp d hd)]) (fun p hp d hd => rfl) (R.refl _)
          · -- an effect: the one that comes up is among those that can
            have hcand : i ∈ cands ops.toList D := by
              unfold cands
              refine List.mem_filter.2 ⟨List.mem_range.2 (by simpa using hilt), rdyB_iff.2 ⟨hiD, oi, hoi, fun k hk => ?_⟩⟩
              obtain ⟨h1, h2⟩ := hibus k hk
              exact h.dA k h1 h2
            have hop := hr i hcand
            have hap : ∀ p ∈ pend, (∀ d, p.o.dst = some d → d ∉ oi.looksAt ops) ∧ (∀ d, oi.dst = some d → d ∉ p.o.looksAt ops) ∧ ∀ d, p.o.dst = some d → oi.dst ≠ some d := by
              intro p hp'
              have hne : p.i ≠ i := fun e => hp ⟨p, hp', e⟩
              have h1 := pair_spec (p := (p.i, 0)) (q := (i, 0)) (h.inv.ho p hp') hoi (pairS_pair (hstat p.i (h.punl p hp').2.2 i hilt hne) (notD hp' (o := oi) hiD))
              have h2 := h1.2 (noanc p.i (h.punl p hp').1)
              exact ⟨h2.2.2.1, h2.2.2.2, h1.1⟩
            have hsee : Sees ops oi a la := fun d hd => h.agree d fun p hp hpd => (hap p hp).1 d hpd hd
            refine op_move hoi hpl hsee h.defers hQ hop ?_
            intro v w' ds hk
            obtain ⟨hb, he⟩ := hk
            refine ih (us := us.erase i) (la := { la with defers := ds }.put oi.dst v) (pend := pend) (D := i :: D) (f := f) hlen' ⟨hund', hsz', huiff', hult', List.nodup_cons.2 ⟨hiD, h.dnd⟩, by rw [List.length_cons]; have := h.len; omega, ?_, ?_, ?_, ?_, h.pnd, ?_, hclosed', by rw [put_defers, put_defers], by rw [put_size, put_size]; exact h.tsize, ?_, ?_, he⟩
            · intro k hk hku
              by_cases e : k = i
              · subst e; exact List.mem_cons_self
              · exact List.mem_cons_of_mem _ (h.dA k hk fun hx => hku (hmem' k hx e))
            · intro k hkD hku
              rcases List.mem_cons.1 hkD with rfl | hkD
              · exact absurd rfl (hne' _ hku)
              · exact h.dP k hkD (List.mem_of_mem_erase hku)
            · intro j hj
              rcases List.mem_cons.1 hj with rfl | hj
              · exact hilt
              · exact h.dlt j hj
            · intro p hp'
              exact ⟨hmem' p.i (h.punl p hp').1 (fun e => hp ⟨p, hp', e⟩), List.mem_cons_of_mem _ (h.punl p hp').2.1, (h.punl p hp').2.2⟩
            · intro j o ho hj q hq
              rcases List.mem_cons.1 hj with rfl | hj
              · rw [hoi] at ho; cases ho
                obtain ⟨h1, h2⟩ := hibus q hq
                exact List.mem_cons_of_mem _ (h.dA q h1 h2)
              · exact List.mem_cons_of_mem _ (h.closedD j o ho hj q hq)
            · intro d hd
              by_cases hdd : oi.dst = some d
              · rw [hdd, put_get, put_get, if_pos rfl, if_pos rfl]
                show (if d < a.tmps.size then some v else none) = if d < la.tmps.size then some v else none
                rw [h.tsize]
              · rw [put_other _ _ hdd, put_other _ _ hdd]
                exact h.agree d hd
            · refine PInv.step (by rw [put_size]) h.inv (fun p hp d hd => ?_) (fun p hp d hd => ?_) hb
              · rw [put_other _ _ ((hap p hp).2.2 d hd)]
              · rw [put_other _ _ (fun hx => (hap p hp).2.1 d hx hd)]
      exact main f h

/-- **A region that draws its order: whatever makes memory in any order.** -/
theorem wpIn_region_eagT {R : WR} {F : Fence} {n : Nat} {ops : Array Oper} {Q : Exit → Act → World → Prop} {vs tab : List Nat} {id : Nat} {a : Act} {w : World} (hm : P.follows .mixedOrders = true) (hok : statOK ops vs tab = true) (hQ : ∀ c a w, ¬ Q (.panic c) a w)
    (h : eagT R F n P ops vs Q ops.size [] a { w with drawn := w.drawn + 1 }) : (Code.region id ops true).wpIn F n P Q a w := by
  refine wpIn_region_any hm ?_
  refine way_anyT hok hQ ops.size (us := List.range ops.size) (la := a) (pend := []) (D := []) (f := ops.size) (by simp) ⟨List.nodup_range, by simp, ?_, (fun i hi => List.mem_range.1 hi), List.nodup_nil, by simp, (fun i hi hn => absurd (List.mem_range.2 hi) hn), (fun i hi => (by cases hi)), (fun i hi => (by cases hi)), (fun p hp => (by cases hp)), List.nodup_nil, (fun i o ho hi => (by cases hi)), ?_, rfl, rfl, fun _ _ => rfl, trivial, h⟩
  · intro i hi
    simp [Array.getD, hi]
  · intro i o ho hl
    simp [Array.getD] at hl

/-! ### Its verification condition -/
/-- Two things to show. -/
inductive VBoth (A B : Prop) : Prop
  | mk (h : A) (k : B)
def allC : List Nat → (Nat → Prop) → Prop
  | [], _ => VStuck 220
  | i :: r, p => match r with
    | [] => p i
    | _ => VBoth (p i) (allC r p)
theorem allC_mem : ∀ {l : List Nat} {p : Nat → Prop}, allC l p → ∀ i ∈ l, p i
  | [], _, h, _, _ => by cases h
  | [j], p, h, i, hi => by simp at hi; subst hi; exact h
  | j :: k :: r, p, h, i, hi => by
    cases h with
    | mk h1 h2 =>
      rcases List.mem_cons.1 hi with rfl | hi
      · exact h1
      · exact allC_mem (l := k :: r) h2 i hi
def vcT (C : VX) (P : Program) (ops : List Oper) (vs es : List Nat) (M0 : Mem) : Nat → List Nat → St → (St → Prop) → Prop
  | 0, _, st, k => k st
  | f + 1, D, st, k => match nextV ops vs D with
    | some i => match ops[i]? with
      | some o => guardV ops st o (fun st => barV C M0 st o fun s => st.putv o.dst s fun st' => vcT C P ops vs es M0 f (i :: D) st' k) (fun st => st.putv o.dst (.v (.tuple #[])) fun st' => vcT C P ops vs es M0 f (i :: D) st' k)
      | none => VStuck 221
    | none => allC (es.filter (rdyB ops D)) fun i => match ops[i]? with
      | some o => guardV ops st o (fun st => step C P st o fun st' => st'.withM fun M' => VFact (M0.le M') (vcT C P ops vs es M0 f (i :: D) st' k)) (fun st => st.putv o.dst (.v (.tuple #[])) fun st' => vcT C P ops vs es M0 f (i :: D) st' k)
      | none => VStuck 222
theorem vcT_sound {C : VX} (hC : VXOK P C) {r : Option Nat} {n : Nat} {κ : Yt → Bs → Prop} {fx : Nat → Prop} {tm : Array Value} {ops : Array Oper} {vs es : List Nat} (hes : ∀ i, i < ops.toList.length → i ∉ vs → i ∈ es) {k : St → Prop} {G : Gh} {Q : Exit → Act → World → Prop} (hQ : ∀ a W, KK κ G k a W → Keep fx tm a → Q .normal a W) (hw : ∀ o ∈ ops.toList, ∀ d, o.dst = some d → ¬ fx d) {B : Bs} {M0 : Mem} (hlow : ∀ b, b < B.n₀ → M0 b = B.M₀ b) :
    ∀ (f : Nat) {D : List Nat} {ρ : Env} {st : St} {a : Act} {W : World}, vcT C P ops.toList vs es M0 f D st k → κ st.G.Y B → Sat B.n₀ B.w B.M₀ ρ st a W → G.lq st.G → Keep fx tm a → M0.le st.M → eagT (WR.keep (KeepW B M0)) (Fw r) n P ops vs Q f D a W := by
  intro f
  induction f with
  | zero => intro D ρ st a W hk hκ h hG hkp _; exact hQ a W ⟨B, ρ, st, hκ, h, hG, hk⟩ hkp
  | succ f ih =>
    intro D ρ st a W hk hκ h hG hkp hle
    have putM : ∀ (st : St) (d : Option Tmp) (s : SV), (st.put d s).M = st.M := fun st d s => by cases d <;> rfl
    have kw : ∀ {ρ' : Env} {st' : St} {a' : Act} {W' : World}, Sat B.n₀ B.w B.M₀ ρ' st' a' W' → M0.le st'.M → KeepW B M0 W' := fun h hl => ⟨h.h.below, h.h.size, fun b o hb => h.h.mem b o (hl b o hb)⟩
    have skip : ∀ {i : Nat} {o : Oper}, (∀ d, o.dst = some d → ¬ fx d) → ∀ {st1 : St}, Sat B.n₀ B.w B.M₀ ρ st1 a W → st1.G = st.G → M0.le st1.M → (st1.putv o.dst (.v (.tuple #[])) fun st' => vcT C P ops.toList vs es M0 f (i :: D) st' k) → eagT (WR.keep (KeepW B M0)) (Fw r) n P ops vs Q f (i :: D) (a.put o.dst undef) W := by
      intro i o hwo st1 h1 hG1 hM1 hB
      obtain ⟨j1, j2⟩ := putv_elim hB h1 (by trivial)
      exact ih j2 (by rw [put_G, hG1]; exact hκ) j1 (by rw [put_G, hG1]; exact hG) (hkp.put hwo _) (by rw [putM]; exact hM1)
    unfold vcT at hk
    unfold eagT
    split at hk
    · rename_i i hn
      split at hk
      · rename_i o ho
        have ho' : ops[i]? = some o := by simpa using ho
        have hwo := hw o (List.mem_of_getElem? ho)
        refine ⟨o, ho', ?_⟩
        obtain ⟨st1, h1, hG1, hM1, hcase⟩ := guard_soundM h hk
        have hM1' : M0.le st1.M := by rw [hM1]; exact hle
        rcases hcase with ⟨hw', hA⟩ | ⟨hw', hB⟩
        · obtain ⟨sl, ow, nx, M1, nt, G1⟩ := st1
          have hbH : ∀ W', KeepW B M0 W' → SatH B.n₀ B.w B.M₀ ρ ⟨sl, [], nx, M0, nt, ⟨fun _ => none, none, fun _ => none⟩⟩ W' := fun W' hk =>
            ⟨hk.1, hk.2.1, hk.2.2, fun id e he => (by cases he), fun i j ei ej hi => (by cases hi), fun i e b hi => (by cases hi), fun b o hb => (by cases hb), hlow, fun b o hb => (by cases hb)⟩
          have hbs : Sat B.n₀ B.w B.M₀ ρ ⟨sl, [], nx, M0, nt, ⟨fun _ => none, none, fun _ => none⟩⟩ { a with defers := [] } W := ⟨hbH W (kw h1 hM1'), h1.nt, h1.sl, trivial⟩
          obtain ⟨_, s, q1, q2, q3⟩ := val_sound hC hA hbs
          obtain ⟨j1, j2⟩ := putv_elim q3 h1 q1
          exact ⟨s.den ρ, fun W' hb => .inl ⟨hw', q2 W' (hbH W' (hb (kw h1 hM1')))⟩, fun _ _ _ _ => trivial, ih j2 (by rw [put_G, hG1]; exact hκ) j1 (by rw [put_G, hG1]; exact hG) (hkp.put hwo _) (by rw [putM]; exact hM1')⟩
        · exact ⟨undef, fun W' hb => .inr ⟨hw', rfl⟩, fun _ _ _ _ => trivial, skip hwo h1 hG1 hM1' hB⟩
      · cases hk
    · rename_i hn
      intro i hi
      have hi' : i ∈ es.filter (rdyB ops.toList D) := by
        obtain ⟨h1, h2⟩ := List.mem_filter.1 hi
        refine List.mem_filter.2 ⟨hes i (List.mem_range.1 h1) fun hv => ?_, h2⟩
        exact absurd h2 (List.find?_eq_none.1 hn i hv)
      have hk := allC_mem hk i hi'
      split at hk
      · rename_i o ho
        have ho' : ops[i]? = some o := by simpa using ho
        have hwo := hw o (List.mem_of_getElem? ho)
        obtain ⟨st1, h1, hG1, hM1, hcase⟩ := guard_soundM h hk
        have hM1' : M0.le st1.M := by rw [hM1]; exact hle
        unfold wpOpIn
        simp only [ho']
        rcases hcase with ⟨hw', hA⟩ | ⟨hw', hB⟩
        · rw [if_pos hw']
          refine Oper.wpIn_mono ?_ (op_keep (step_sound hC hA h1) hwo hkp)
          rintro a' W' ⟨⟨ρ', st', g1, g2, g3⟩, hkp'⟩
          cases withM_iff g3 with
          | mk hle' hk' => exact ⟨fun _ => kw g1 hle', ih hk' (by rw [g2.2, hG1]; exact hκ) g1 (hG.trans (by rw [← hG1]; exact g2.1)) hkp' hle'⟩
        · rw [if_neg (by rw [hw']; exact Bool.false_ne_true)]
          exact ⟨fun _ _ => trivial, fun h => h, skip hwo h1 hG1 hM1' hB⟩
      · cases hk
/-- Which operations yield a value. -/
def valsOf (ops : List Oper) : List Nat := (List.range ops.length).filter fun i => match ops[i]? with | some o => isVal ops o | none => false
/-- A region, its operations in any order; the ways come together in one state. -/
theorem VCode.draws {C : VX} (hC : VXOK P C) {id : Nat} {ops : Array Oper} {st : St} {Q : Ex → St → Prop} (ds : List Nat) (hok : statOK ops (valsOf ops.toList) (tabOf ops.toList) = true) (S : Type) (inv : S → St) (pf : S → Prop)
    (walk : frzSl st ds fun st1 => st1.withM fun M0 => vcT C P ops.toList (valsOf ops.toList) (List.range ops.toList.length) M0 ops.toList.length [] st1 fun st' => ∃ s, pf s ∧ Wk st' (inv s))
    (rest : st.withYf fun _ f => ∀ s m, pf s → (inv s).flatG m f (Q .normal)) : VCode P (.region id ops true) st Q := by
  refine ⟨fun r n κ B ρ a W fx tm hY hr hκ h hwr hkp => ?_⟩
  obtain ⟨st1, h1, hG1, hk⟩ := frzSl_sound h walk
  replace hk := withM_iff hk
  refine wpIn_region_eagT (R := WR.keep (KeepW B st1.M)) (vs := valsOf ops.toList) (tab := tabOf ops.toList) hC.mixed hok ?_ ?_
  · rintro c a' w' ⟨⟨ex, he, _⟩, _⟩; cases he
  · rw [show ops.toList.length = ops.size from Array.length_toList] at hk
    refine vcT_sound hC (fun i hi _ => List.mem_range.2 hi) (G := st1.G) (k := fun st' => ∃ s, pf s ∧ Wk st' (inv s)) (fun a W hK hkp => ⟨⟨.normal, rfl, ?_⟩, hkp⟩) hwr h1.h.mlow _ hk (by rw [hG1]; exact hκ) (h1.grow (W' := { W with drawn := W.drawn + 1 }) (Below.drew (Below.refl _ W)) (M' := st1.M) h1.h.mem (fun _ _ => rfl)) (Gh.lq_refl _) hkp (Mem.le_refl _)
    obtain ⟨B', ρ', st', hκ', g1, g2, s, hp, hwk⟩ := hK
    obtain ⟨ρ1, hs1⟩ := hwk.imp st'.G _ _ _ ρ' a W g1
    have hq := flatG_iff (withYf_iff rest s st'.G.m hp)
    have hf : st'.G.f = st.G.f := by rw [g2.2, hG1]
    refine ⟨B', ρ1, _, ?_, ?_, ?_, hq⟩
    · rw [← hwk.y]; exact hκ'
    · rw [← hwk.y, ← hf]; exact hs1
    · exact ⟨by rw [← hG1]; exact g2.1, rfl⟩
/-- What every operation is: it yields a value, or is listed among the others. -/
def coverB (n : Nat) (vs es : List Nat) : Bool := (List.range n).all fun i => vs.any (Nat.beq i) || es.any (Nat.beq i)
theorem coverB_spec {n : Nat} {vs es : List Nat} (h : coverB n vs es = true) : ∀ i, i < n → i ∉ vs → i ∈ es := fun i hi hv => by
  have := List.all_eq_true.1 h i (List.mem_range.2 hi)
  rcases Bool.or_eq_true .. ▸ this with h1 | h1
  · exact absurd (any_beq.1 h1) hv
  · exact any_beq.1 h1
/-- The same, the operations that yield a value, and the others, written out. -/
theorem VCode.drawsL {C : VX} (hC : VXOK P C) {id : Nat} {ops : Array Oper} {st : St} {Q : Ex → St → Prop} (ds vs es : List Nat) (hok : (statOK ops vs (tabOf ops.toList) && coverB ops.toList.length vs es) = true) (S : Type) (inv : S → St) (pf : S → Prop)
    (walk : frzSl st ds fun st1 => st1.withM fun M0 => vcT C P ops.toList vs es M0 ops.toList.length [] st1 fun st' => ∃ s, pf s ∧ Wk st' (inv s))
    (rest : st.withYf fun _ f => ∀ s m, pf s → (inv s).flatG m f (Q .normal)) : VCode P (.region id ops true) st Q := by
  obtain ⟨hok, hcov⟩ := Bool.and_eq_true .. ▸ hok
  refine ⟨fun r n κ B ρ a W fx tm hY hr hκ h hwr hkp => ?_⟩
  obtain ⟨st1, h1, hG1, hk⟩ := frzSl_sound h walk
  replace hk := withM_iff hk
  refine wpIn_region_eagT (R := WR.keep (KeepW B st1.M)) (vs := vs) (tab := tabOf ops.toList) hC.mixed hok ?_ ?_
  · rintro c a' w' ⟨⟨ex, he, _⟩, _⟩; cases he
  · rw [show ops.toList.length = ops.size from Array.length_toList] at hk
    refine vcT_sound hC (coverB_spec hcov) (G := st1.G) (k := fun st' => ∃ s, pf s ∧ Wk st' (inv s)) (fun a W hK hkp => ⟨⟨.normal, rfl, ?_⟩, hkp⟩) hwr h1.h.mlow _ hk (by rw [hG1]; exact hκ) (h1.grow (W' := { W with drawn := W.drawn + 1 }) (Below.drew (Below.refl _ W)) (M' := st1.M) h1.h.mem (fun _ _ => rfl)) (Gh.lq_refl _) hkp (Mem.le_refl _)
    obtain ⟨B', ρ', st', hκ', g1, g2, s, hp, hwk⟩ := hK
    obtain ⟨ρ1, hs1⟩ := hwk.imp st'.G _ _ _ ρ' a W g1
    have hq := flatG_iff (withYf_iff rest s st'.G.m hp)
    have hf : st'.G.f = st.G.f := by rw [g2.2, hG1]
    refine ⟨B', ρ1, _, ?_, ?_, ?_, hq⟩
    · rw [← hwk.y]; exact hκ'
    · rw [← hwk.y, ← hf]; exact hs1
    · exact ⟨by rw [← hG1]; exact g2.1, rfl⟩
/-- A region, its operations in any order; the ways come together in one state; with what is known of the pins. -/
theorem VCode.drawsG {C : VX} (hC : VXOK P C) {id : Nat} {ops : Array Oper} {st : St} {Q : Ex → St → Prop} (ds : List Nat) (hok : statOK ops (valsOf ops.toList) (tabOf ops.toList) = true) (PG : Mem → Prop) (S : Type) (inv : S → St) (pf : S → Prop)
    (walk : frzSl st ds fun st1 => st1.withM fun M0 => vcT C P ops.toList (valsOf ops.toList) (List.range ops.toList.length) M0 ops.toList.length [] st1 fun st' => PG st'.G.m ∧ ∃ s, pf s ∧ Wk st' (inv s))
    (rest : st.withYf fun _ f => ∀ s m, PG m → pf s → (inv s).flatG m f (Q .normal)) : VCode P (.region id ops true) st Q := by
  refine ⟨fun r n κ B ρ a W fx tm hY hr hκ h hwr hkp => ?_⟩
  obtain ⟨st1, h1, hG1, hk⟩ := frzSl_sound h walk
  replace hk := withM_iff hk
  refine wpIn_region_eagT (R := WR.keep (KeepW B st1.M)) (vs := valsOf ops.toList) (tab := tabOf ops.toList) hC.mixed hok ?_ ?_
  · rintro c a' w' ⟨⟨ex, he, _⟩, _⟩; cases he
  · rw [show ops.toList.length = ops.size from Array.length_toList] at hk
    refine vcT_sound hC (fun i hi _ => List.mem_range.2 hi) (G := st1.G) (k := fun st' => PG st'.G.m ∧ ∃ s, pf s ∧ Wk st' (inv s)) (fun a W hK hkp => ⟨⟨.normal, rfl, ?_⟩, hkp⟩) hwr h1.h.mlow _ hk (by rw [hG1]; exact hκ) (h1.grow (W' := { W with drawn := W.drawn + 1 }) (Below.drew (Below.refl _ W)) (M' := st1.M) h1.h.mem (fun _ _ => rfl)) (Gh.lq_refl _) hkp (Mem.le_refl _)
    obtain ⟨B', ρ', st', hκ', g1, g2, hPG, s, hp, hwk⟩ := hK
    obtain ⟨ρ1, hs1⟩ := hwk.imp st'.G _ _ _ ρ' a W g1
    have hq := flatG_iff (withYf_iff rest s st'.G.m hPG hp)
    have hf : st'.G.f = st.G.f := by rw [g2.2, hG1]
    refine ⟨B', ρ1, _, ?_, ?_, ?_, hq⟩
    · rw [← hwk.y]; exact hκ'
    · rw [← hwk.y, ← hf]; exact hs1
    · exact ⟨by rw [← hG1]; exact g2.1, rfl⟩
/-- What a join asks of the ways through a code. -/
def joinQ (S : Type) (inv : S → St) (pf : S → Prop) (Q : Ex → St → Prop) : Ex → St → Prop := fun e st' => match e with
  | .normal => ∃ s, pf s ∧ Wk st' (inv s)
  | .ret => Q .ret st'
  | .exit i => Q (.exit i) st'
/-- A code whose ways come together in one state. -/
theorem VCode.join {C : VX} (hC : VXOK P C) {c : Code} {st : St} {Q : Ex → St → Prop} (S : Type) (inv : S → St) (pf : S → Prop)
    (walk : vc C P c st (joinQ S inv pf Q)) (rest : st.withYf fun _ f => ∀ s m, pf s → (inv s).flatG m f (Q .normal)) : VCode P c st Q := by
  refine ⟨fun r n κ B ρ a W fx tm hY hr hκ h hwr hkp => ?_⟩
  refine wpIn_mono (vc_sound hC hY c walk hr hκ h hwr hkp) ?_
  rintro e a' W' ⟨⟨ex, he, B', ρ', st', hκ', g1, g2, g3⟩, hkp'⟩
  refine ⟨⟨ex, he, ?_⟩, hkp'⟩
  cases ex with
  | normal =>
    obtain ⟨s, hp, hwk⟩ := g3
    obtain ⟨ρ1, hs1⟩ := hwk.imp st'.G _ _ _ ρ' a' W' g1
    have hq := flatG_iff (withYf_iff rest s st'.G.m hp)
    have hf : st'.G.f = st.G.f := g2.2
    refine ⟨B', ρ1, _, ?_, ?_, ?_, hq⟩
    · rw [← hwk.y]; exact hκ'
    · rw [← hwk.y, ← hf]; exact hs1
    · exact ⟨g2.1, rfl⟩
  | ret => exact ⟨B', ρ', st', hκ', g1, g2, g3⟩
  | exit i => exact ⟨B', ρ', st', hκ', g1, g2, g3⟩
/-- A state that says less, ahead of a code. -/
theorem VCode.ease {c : Code} {st : St} {Q : Ex → St → Prop} (st' : St) (hw : Wk st st') (rest : st.withYf fun _ f => ∀ m, st'.flatG m f fun st2 => VCode P c st2 Q) : VCode P c st Q := by
  refine ⟨fun r n κ B ρ a W fx tm hY hr hκ h hwr hkp => ?_⟩
  obtain ⟨ρ1, hs1⟩ := hw.imp st.G _ _ _ ρ a W h
  have hq := flatG_iff (withYf_iff rest st.G.m)
  have hG : (⟨st.G.m, st'.G.Y, st.G.f⟩ : Gh) = st.G := by rw [← hw.y]
  rw [hG] at hq
  exact hq.run r n κ B ρ1 a W fx tm hY hr hκ hs1 hwr hkp
/-- What slots hold is frozen ahead of a code: own variables that are only read from here on. -/
theorem VCode.frz {c : Code} {st : St} {Q : Ex → St → Prop} (ds : List Nat) (walk : frzSl st ds fun st1 => VCode P c st1 Q) : VCode P c st Q := by
  refine ⟨fun r n κ B ρ a W fx tm hY hr hκ h hwr hkp => ?_⟩
  obtain ⟨st1, h1, hG1, hk⟩ := frzSl_sound h walk
  have := hk.run r n κ B ρ a W fx tm hY (by rw [hG1]; exact hr) (by rw [hG1]; exact hκ) h1 hwr hkp
  rw [hG1] at this
  exact this
end Go.V

/- Contracts of package ray: leaves, rays, what lies between two. -/
namespace Go.Proofs.Ytlihojecopfgfaa
open Go Go.V Go.RowKit
def vecB (v : Pt) : Bool := decide (-1000000 ≤ v.1 ∧ v.1 ≤ 1000000 ∧ -1000000 ≤ v.2 ∧ v.2 ≤ 1000000) && !(v.1 == 0 && v.2 == 0)
def isV (v : Pt) : Prop := -1000000 ≤ v.1 ∧ v.1 ≤ 1000000 ∧ -1000000 ≤ v.2 ∧ v.2 ≤ 1000000
theorem vec_V {v : Pt} (h : vecB v = true) : isV v := by
  simp only [vecB, Bool.and_eq_true, decide_eq_true_eq] at h
  exact h.1
theorem rotN_V {v : Pt} (h : isV v) : ∀ n, isV (rotN n v)
  | 0 => h
  | n + 1 => by
    have := rotN_V h n
    unfold isV at *
    simp only [rotN, rotL]
    omega
def tblT : Bool := (List.range 16).all fun k => decide (-1000 ≤ (gp tblR k).1 ∧ (gp tblR k).1 ≤ 1000 ∧ -1000 ≤ (gp tblR k).2 ∧ (gp tblR k).2 ≤ 1000)
theorem tblT_ok : tblT = true := by decide +kernel
def isR (v : Pt) : Prop := -1000 ≤ v.1 ∧ v.1 ≤ 1000 ∧ -1000 ≤ v.2 ∧ v.2 ≤ 1000
theorem rotN_R {v : Pt} (h : isR v) : ∀ n, isR (rotN n v)
  | 0 => h
  | n + 1 => by
    have := rotN_R h n
    unfold isR at *
    simp only [rotN, rotL]
    omega
theorem tbl_R {k : Nat} (h : k < 16) : isR (gp tblR k) := by
  have := tblT_ok
  simp only [tblT, List.all_eq_true, List.mem_range, decide_eq_true_eq] at this
  exact this k h
theorem ray_R (k : Nat) : isR (rayP k) := rotN_R (tbl_R (Nat.mod_lt _ (by decide))) _
theorem R_V {v : Pt} (h : isR v) : isV v := by unfold isR at h; unfold isV; omega
end Go.Proofs.Ytlihojecopfgfaa

/- Contracts of tide: valid editions, searching flows, what holds. -/
namespace Go.Proofs.Ytlihojecopfgfaa
open Go Go.V Go.RowKit
def flC (f : FlowS) : List Value := [.int .i64 f.x, .int .i64 f.y, .int .i64 f.s, .int .i64 f.ul, .int .i64 f.uh, .int .i64 f.vl, .int .i64 f.vh, .int .i64 f.hl, .int .i64 f.hh]
def FlowD (_ : Mem) (f : FlowS) (r : List Value) : Prop := r = flC f
def FlsV (M : Mem) (v : Value) (l : List FlowS) : Prop := Arr FlowD M 9 v l
theorem FlsV.le {M M' : Mem} {v : Value} {l : List FlowS} (h : FlsV M v l) (hM : M.le M') : FlsV M' v l := Arr.le (fun _ _ _ _ _ h => h) h hM
theorem FlsV.get {M : Mem} {v : Value} {l : List FlowS} (h : FlsV M v l) : ∃ ad c, v = .slice ad l.length c ∧ l.length ≤ 9223372036854775807 ∧ ∀ M', M.le M' → ∀ i, i < l.length → ∃ ad', ad = some ad' ∧ ∀ j v, (flC (gf l i))[j]? = some v → M'.cell ((ad'.add (i * 9)).add j) = some v := by
  obtain ⟨ad, c, h1, h2, h3⟩ := Arr.get h
  refine ⟨ad, c, h1, h2, fun M' hM i hi => ?_⟩
  obtain ⟨ad', r, h4, _, rfl, h6⟩ := h3 i _ (getD_get zeroF hi)
  exact ⟨ad', h4, fun j y hy => h6 M' hM j y hy⟩
def tdV (t : TideS) (v : Value) : Value := .agg #[.int .i64 t.ver, .int .i64 t.fr, .int .i64 t.sl, .int .i64 t.rest.x, .int .i64 t.rest.y, .int .i64 t.rest.s, .int .i64 t.rest.ul, .int .i64 t.rest.uh, .int .i64 t.rest.vl, .int .i64 t.rest.vh, .int .i64 t.rest.hl, .int .i64 t.rest.hh, v]
theorem noT {b : Bool} (h : b = true → False) : [Value.bool false] = [.bool b] := by
  cases b with
  | true => exact (h rfl).elim
  | false => rfl
end Go.Proofs.Ytlihojecopfgfaa

/- Contracts of tide: the search for a flow, what holds in a block and a slot. -/
namespace Go.Proofs.Ytlihojecopfgfaa
open Go Go.V Go.RowKit
def Srt (l : List FlowS) : Prop := ∀ j i, i < j → j < l.length → cmpF (gf l i) (gf l j) < 0
theorem srt_lo {l : List FlowS} (hs : Srt l) {k : FlowS} {h : Nat} (hh : h < l.length) (hc : cmpF (gf l h) k < 0) : ∀ i, i ≤ h → cmpF (gf l i) k < 0 := fun i hi => by
  by_cases e : i = h
  · rw [e]; exact hc
  · have := hs h i (by omega) hh
    rw [cmpF_lt] at this hc ⊢
    omega
theorem srt_hi {l : List FlowS} (hs : Srt l) {k : FlowS} {h : Nat} (hc : ¬ cmpF (gf l h) k < 0) : ∀ i, h ≤ i → i < l.length → ¬ cmpF (gf l i) k < 0 := fun i hi hn => by
  by_cases e : i = h
  · rw [e]; exact hc
  · have := hs i h (by omega) hn
    rw [cmpF_lt] at this hc ⊢
    omega
theorem half_eq (a : Int) : Int.fdiv a (2 ^ min (Int.toNat 1) (IntKind.bits .u64)) = a / 2 := by
  show Int.fdiv a 2 = a / 2
  exact Int.fdiv_eq_ediv_of_nonneg a (by omega)
end Go.Proofs.Ytlihojecopfgfaa

/- Contracts of tide: what holds in a block and a slot; at a place and a time; blocks of a rectangle. -/
namespace Go.Proofs.Ytlihojecopfgfaa
open Go Go.V Go.RowKit
theorem isCb_bd {n : Int} (h : isCb n = true) : -500000 ≤ n ∧ n ≤ 500000 := by simpa [isCb] using h
def rng (a b : Int) : List Int := (List.range (b - a + 1).toNat).map fun (k : Nat) => a + (k : Int)
theorem rng_mem {a b x : Int} : x ∈ rng a b ↔ a ≤ x ∧ x ≤ b := by
  unfold rng
  simp only [List.mem_map, List.mem_range]
  constructor
  · rintro ⟨k, hk, rfl⟩; omega
  · intro h; exact ⟨(x - a).toNat, by omega, by omega⟩
theorem rng_cons {a b : Int} (h : a ≤ b) : rng a b = a :: rng (a + 1) b := by
  unfold rng
  have e : (b - a + 1).toNat = (b - (a + 1) + 1).toNat + 1 := by omega
  rw [e, List.range_succ_eq_map, List.map_cons, List.map_map]
  refine congr (congrArg List.cons (by simp)) (List.map_congr_left fun k _ => ?_)
  simp only [Function.comp]; omega
theorem rng_nil {a b : Int} (h : b < a) : rng a b = [] := by
  unfold rng
  have e : (b - a + 1).toNat = 0 := by omega
  rw [e]; rfl
def rowL (t : TideS) (x1 x2 y s : Int) : List FlowS := (rng x1 x2).map fun x => ofB t x y s
def blkL (t : TideS) (x1 x2 y1 y2 s : Int) : List FlowS := (rng y1 y2).flatMap fun y => rowL t x1 x2 y s
theorem row_cons {t : TideS} {x1 x2 y s : Int} (h : x1 ≤ x2) : rowL t x1 x2 y s = ofB t x1 y s :: rowL t (x1 + 1) x2 y s := by unfold rowL; rw [rng_cons h]; rfl
theorem row_nil {t : TideS} {x1 x2 y s : Int} (h : x2 < x1) : rowL t x1 x2 y s = [] := by unfold rowL; rw [rng_nil h]; rfl
theorem blk_cons {t : TideS} {x1 x2 y1 y2 s : Int} (h : y1 ≤ y2) : blkL t x1 x2 y1 y2 s = rowL t x1 x2 y1 s ++ blkL t x1 x2 (y1 + 1) y2 s := by unfold blkL; rw [rng_cons h]; rfl
theorem blk_nil {t : TideS} {x1 x2 y1 y2 s : Int} (h : y2 < y1) : blkL t x1 x2 y1 y2 s = [] := by unfold blkL; rw [rng_nil h]; rfl
theorem blk_mem {t : TideS} {x1 x2 y1 y2 s : Int} {g : FlowS} : g ∈ blkL t x1 x2 y1 y2 s ↔ inB t x1 x2 y1 y2 s s g := by
  unfold blkL rowL inB
  simp only [List.mem_flatMap, List.mem_map, rng_mem]
  constructor
  · rintro ⟨y, hy, x, hx, rfl⟩
    exact ⟨x, y, s, hx.1, hx.2, hy.1, hy.2, Int.le_refl _, Int.le_refl _, rfl⟩
  · rintro ⟨x, y, s', a1, a2, a3, a4, a5, a6, rfl⟩
    obtain rfl : s' = s := by omega
    exact ⟨y, ⟨a3, a4⟩, x, ⟨a1, a2⟩, rfl⟩
end Go.Proofs.Ytlihojecopfgfaa

/- Contracts of tide: the blocks of a rectangle. -/
namespace Go.Proofs.Ytlihojecopfgfaa
open Go Go.V Go.RowKit
def tdC (t : TideS) (v : Value) : Array Value := #[.int .i64 t.ver, .int .i64 t.fr, .int .i64 t.sl, .int .i64 t.rest.x, .int .i64 t.rest.y, .int .i64 t.rest.s, .int .i64 t.rest.ul, .int .i64 t.rest.uh, .int .i64 t.rest.vl, .int .i64 t.rest.vh, .int .i64 t.rest.hl, .int .i64 t.rest.hh, v]
end Go.Proofs.Ytlihojecopfgfaa

/- Contracts of span.Join and tide.join. -/
namespace Go.Proofs.Ytlihojecopfgfaa
open Go Go.V Go.RowKit
def spOK (p : Pt) : Prop := p.1 ≤ p.2 ∧ -1000000000000 ≤ p.1 ∧ p.2 ≤ 1000000000000
def mnL (xs : List Int) (k : Nat) : Int := (xs.take k).foldl min (xs.getD 0 0)
def mxL (xs : List Int) (k : Nat) : Int := (xs.take k).foldl max (xs.getD 0 0)
theorem mn_step {xs : List Int} {k : Nat} (h : k < xs.length) : mnL xs (k + 1) = min (mnL xs k) (xs.getD k 0) := by
  unfold mnL
  rw [List.take_add_one, List.foldl_append]
  simp [h]
theorem mx_step {xs : List Int} {k : Nat} (h : k < xs.length) : mxL xs (k + 1) = max (mxL xs k) (xs.getD k 0) := by
  unfold mxL
  rw [List.take_add_one, List.foldl_append]
  simp [h]
theorem mn_one {xs : List Int} (h : 0 < xs.length) : mnL xs 1 = xs.getD 0 0 := by
  rw [mn_step h]; simp [mnL]
theorem mx_one {xs : List Int} (h : 0 < xs.length) : mxL xs 1 = xs.getD 0 0 := by
  rw [mx_step h]; simp [mxL]
end Go.Proofs.Ytlihojecopfgfaa

/- Contracts of tide: bounds of all that is ranged over. -/
namespace Go.Proofs.Ytlihojecopfgfaa
open Go Go.V Go.RowKit
end Go.Proofs.Ytlihojecopfgfaa

/- Contracts of tide: Bound. -/
namespace Go.Proofs.Ytlihojecopfgfaa
open Go Go.V Go.RowKit
def joinL : List FlowS → FlowS
  | [] => zeroF
  | f :: l => l.foldl joinF f
theorem fold_isJ : ∀ (l : List FlowS) (S : FlowS → Prop) (f : FlowS), IsJ S f → (∀ g ∈ l, g.x = 0 ∧ g.y = 0 ∧ g.s = 0) → IsJ (fun x => S x ∨ x ∈ l) (l.foldl joinF f)
  | [], S, f, h, _ => h.congr fun x => by simp
  | g :: l, S, f, h, hp => by
    obtain ⟨p1, p2, p3⟩ := hp g List.mem_cons_self
    exact (fold_isJ l _ _ (h.join (IsJ.one p1 p2 p3)) fun g hg => hp g (List.mem_cons_of_mem _ hg)).congr fun x => by simp [or_assoc]
theorem joinL_isJ {l : List FlowS} (hne : l ≠ []) (hp : ∀ g ∈ l, g.x = 0 ∧ g.y = 0 ∧ g.s = 0) : IsJ (· ∈ l) (joinL l) := by
  cases l with
  | nil => exact absurd rfl hne
  | cons f l =>
    obtain ⟨p1, p2, p3⟩ := hp f List.mem_cons_self
    exact (fold_isJ l _ _ (IsJ.one p1 p2 p3) fun g hg => hp g (List.mem_cons_of_mem _ hg)).congr fun x => by simp
theorem blk_ne {t : TideS} {x1 x2 y1 y2 s : Int} (hx : x1 ≤ x2) (hy : y1 ≤ y2) : blkL t x1 x2 y1 y2 s ≠ [] := by
  rw [blk_cons hy, row_cons hx]; simp
theorem blk_all {t : TideS} (ht : tideB t = true) {x1 x2 y1 y2 s : Int} : ∀ g ∈ blkL t x1 x2 y1 y2 s, bndB g = true ∧ g.x = 0 ∧ g.y = 0 ∧ g.s = 0 := fun g hg => by
  obtain ⟨x, y, s', _, _, _, _, _, _, rfl⟩ := blk_mem.1 hg
  exact ⟨of_bnd ht _ _ _, rfl, rfl, rfl⟩
def bndF (t : TideS) (x1 y1 x2 y2 c1 c2 : Int) : List FlowS := (rng c1 c2).map fun s => joinL (blkL t x1 x2 y1 y2 s)
theorem bndF_cons {t : TideS} {x1 y1 x2 y2 c1 c2 : Int} (h : c1 ≤ c2) : bndF t x1 y1 x2 y2 c1 c2 = joinL (blkL t x1 x2 y1 y2 c1) :: bndF t x1 y1 x2 y2 (c1 + 1) c2 := by unfold bndF; rw [rng_cons h]; rfl
theorem bndF_nil {t : TideS} {x1 y1 x2 y2 c1 c2 : Int} (h : c2 < c1) : bndF t x1 y1 x2 y2 c1 c2 = [] := by unfold bndF; rw [rng_nil h]; rfl
theorem clip_bd {t : TideS} (ht : tideB t = true) (q : Int) : -1 ≤ clipS t q ∧ clipS t q ≤ 1000 := by
  have := (tide_get ht).1
  unfold clipS; omega
theorem clip_mono {t : TideS} {p q : Int} (h : p ≤ q) : clipS t p ≤ clipS t q := by unfold clipS; omega
end Go.Proofs.Ytlihojecopfgfaa

/- Contracts of tide: Bound. -/
namespace Go.Proofs.Ytlihojecopfgfaa
open Go Go.V Go.RowKit
structure GoodT (t : TideS) (x1 y1 x2 y2 n1 n2 : Int) : Prop where
  ht : tideB t = true
  p1 : placeB (x1, y1) = true
  p2 : placeB (x2, y2) = true
  hx : x1 ≤ x2
  hy : y1 ≤ y2
  h1 : 0 ≤ n1
  h2 : n1 ≤ n2
  h3 : n2 ≤ 1000000000
theorem lo_nest {α β : Type} {l : β → Prop} {S : β → α → Prop} {c : α → Int} {g : β → Int} {a : Int} (h : (∀ x, l x → a ≤ g x) ∧ ∃ x, l x ∧ g x = a) (k : ∀ x, l x → (∀ y, S x y → g x ≤ c y) ∧ ∃ y, S x y ∧ c y = g x) : (∀ y, (∃ x, l x ∧ S x y) → a ≤ c y) ∧ ∃ y, (∃ x, l x ∧ S x y) ∧ c y = a := by
  refine ⟨fun y ⟨x, hx, hy⟩ => ?_, ?_⟩
  · have := h.1 x hx; have := (k x hx).1 y hy; omega
  · obtain ⟨x, hx, e⟩ := h.2
    obtain ⟨y, hy, e'⟩ := (k x hx).2
    exact ⟨y, ⟨x, hx, hy⟩, by omega⟩
theorem hi_nest {α β : Type} {l : β → Prop} {S : β → α → Prop} {c : α → Int} {g : β → Int} {a : Int} (h : (∀ x, l x → g x ≤ a) ∧ ∃ x, l x ∧ g x = a) (k : ∀ x, l x → (∀ y, S x y → c y ≤ g x) ∧ ∃ y, S x y ∧ c y = g x) : (∀ y, (∃ x, l x ∧ S x y) → c y ≤ a) ∧ ∃ y, (∃ x, l x ∧ S x y) ∧ c y = a := by
  refine ⟨fun y ⟨x, hx, hy⟩ => ?_, ?_⟩
  · have := h.1 x hx; have := (k x hx).1 y hy; omega
  · obtain ⟨x, hx, e⟩ := h.2
    obtain ⟨y, hy, e'⟩ := (k x hx).2
    exact ⟨y, ⟨x, hx, hy⟩, by omega⟩
theorem ex_map {β : Type} {l : β → Prop} {g : β → FlowS} {c : FlowS → Int} {a : Int} (h : ∃ f, (∃ x, l x ∧ g x = f) ∧ c f = a) : ∃ x, l x ∧ c (g x) = a := by
  obtain ⟨f, ⟨x, hx, rfl⟩, e⟩ := h
  exact ⟨x, hx, e⟩
theorem isJ_nest {β : Type} {l : β → Prop} {S : β → FlowS → Prop} {g : β → FlowS} {f : FlowS} (h : IsJ (fun y => ∃ x, l x ∧ g x = y) f) (k : ∀ x, l x → IsJ (S x) (g x)) : IsJ (fun y => ∃ x, l x ∧ S x y) f :=
  ⟨h.x, h.y, h.s, lo_nest (g := fun x => (g x).ul) ⟨fun x hx => h.ul.1 _ ⟨x, hx, rfl⟩, ex_map h.ul.2⟩ fun x hx => (k x hx).ul,
   hi_nest (g := fun x => (g x).uh) ⟨fun x hx => h.uh.1 _ ⟨x, hx, rfl⟩, ex_map h.uh.2⟩ fun x hx => (k x hx).uh,
   lo_nest (g := fun x => (g x).vl) ⟨fun x hx => h.vl.1 _ ⟨x, hx, rfl⟩, ex_map h.vl.2⟩ fun x hx => (k x hx).vl,
   hi_nest (g := fun x => (g x).vh) ⟨fun x hx => h.vh.1 _ ⟨x, hx, rfl⟩, ex_map h.vh.2⟩ fun x hx => (k x hx).vh,
   lo_nest (g := fun x => (g x).hl) ⟨fun x hx => h.hl.1 _ ⟨x, hx, rfl⟩, ex_map h.hl.2⟩ fun x hx => (k x hx).hl,
   hi_nest (g := fun x => (g x).hh) ⟨fun x hx => h.hh.1 _ ⟨x, hx, rfl⟩, ex_map h.hh.2⟩ fun x hx => (k x hx).hh⟩
theorem bnd_isJ {t : TideS} (ht : tideB t = true) {x1 x2 y1 y2 q1 q2 : Int} (hx : x1 ≤ x2) (hy : y1 ≤ y2) (hq : q1 ≤ q2) {f : FlowS} (h : IsJ (· ∈ bndF t x1 y1 x2 y2 (clipS t q1) (clipS t q2)) f) : IsJ (inB t x1 x2 y1 y2 q1 q2) f := by
  have h1 : IsJ (fun y => ∃ s, (s ∈ rng (clipS t q1) (clipS t q2)) ∧ joinL (blkL t x1 x2 y1 y2 s) = y) f := h.congr fun y => by unfold bndF; simp
  have h2 := isJ_nest (S := fun s y => y ∈ blkL t x1 x2 y1 y2 s) h1 fun s _ => joinL_isJ (blk_ne hx hy) fun g hg => (blk_all ht g hg).2
  refine h2.congr fun y => ?_
  rw [← inB_clip ht hq]
  constructor
  · rintro ⟨x, y', s, a1, a2, a3, a4, a5, a6, rfl⟩
    exact ⟨s, rng_mem.2 ⟨a5, a6⟩, blk_mem.2 ⟨x, y', s, a1, a2, a3, a4, Int.le_refl _, Int.le_refl _, rfl⟩⟩
  · rintro ⟨s, hs, hm⟩
    obtain ⟨x, y', s', a1, a2, a3, a4, a5, a6, rfl⟩ := blk_mem.1 hm
    have := rng_mem.1 hs
    exact ⟨x, y', s', a1, a2, a3, a4, by omega, by omega, rfl⟩
theorem bndF_all {t : TideS} (ht : tideB t = true) {x1 x2 y1 y2 c1 c2 : Int} (hx : x1 ≤ x2) (hy : y1 ≤ y2) : ∀ g ∈ bndF t x1 y1 x2 y2 c1 c2, bndB g = true ∧ g.x = 0 ∧ g.y = 0 ∧ g.s = 0 := fun g hg => by
  obtain ⟨s, _, rfl⟩ := List.mem_map.1 hg
  have h := joinL_isJ (blk_ne hx hy (t := t) (s := s)) fun g hg => (blk_all ht g hg).2
  exact ⟨h.bnd fun g hg => (blk_all ht g hg).1, h.x, h.y, h.s⟩
end Go.Proofs.Ytlihojecopfgfaa

/- Contracts of the tide's reference: what is usable. -/
namespace Go.Proofs.Ytlihojecopfgfaa
open Go Go.V Go.RowKit
def inFB (a b : FlowS) : Bool := decide (b.ul ≤ a.ul ∧ a.uh ≤ b.uh) && decide (b.vl ≤ a.vl ∧ a.vh ≤ b.vh) && decide (b.hl ≤ a.hl ∧ a.hh ≤ b.hh)
theorem inFB_of {a b : FlowS} (h : inF a b) : inFB a b = true := by
  unfold inF at h
  simp only [inFB, Bool.and_eq_true, decide_eq_true_eq]; omega
end Go.Proofs.Ytlihojecopfgfaa

/- Contracts of the tide's reference: bounds, rectangle, few, valid; what the laws look at. -/
namespace Go.Proofs.Ytlihojecopfgfaa
open Go Go.V Go.RowKit
def rectB (x1 y1 x2 y2 : Int) : Bool := placeB (x1, y1) && placeB (x2, y2) && decide (x1 ≤ x2) && decide (y1 ≤ y2)
end Go.Proofs.Ytlihojecopfgfaa

/- Contracts of the tide's reference: few, valid, usable. -/
namespace Go.Proofs.Ytlihojecopfgfaa
open Go Go.V Go.RowKit
theorem place13_bd {x y : Int} (h : placeB (x, y) = true) : -500000 ≤ x ∧ x ≤ 500000 ∧ -500000 ≤ y ∧ y ≤ 500000 := by
  simp only [placeB, Bool.and_eq_true] at h
  have h1 := isCb_bd h.1
  have h2 := isCb_bd h.2
  exact ⟨h1.1, h1.2, h2.1, h2.2⟩
theorem rect_get {x1 y1 x2 y2 : Int} (h : rectB x1 y1 x2 y2 = true) : placeB (x1, y1) = true ∧ placeB (x2, y2) = true ∧ x1 ≤ x2 ∧ y1 ≤ y2 := by
  simp only [rectB, Bool.and_eq_true, decide_eq_true_eq] at h
  exact ⟨h.1.1.1, h.1.1.2, h.1.2, h.2⟩
end Go.Proofs.Ytlihojecopfgfaa

/- Contracts of the tide's reference: valid editions. -/
namespace Go.Proofs.Ytlihojecopfgfaa
open Go Go.V Go.RowKit
end Go.Proofs.Ytlihojecopfgfaa

/- Contracts of the tide's laws: usable. -/
namespace Go.Proofs.Ytlihojecopfgfaa
open Go Go.V Go.RowKit
end Go.Proofs.Ytlihojecopfgfaa

/- Contracts of the tide's laws: a place inside. -/
namespace Go.Proofs.Ytlihojecopfgfaa
open Go Go.V Go.RowKit
end Go.Proofs.Ytlihojecopfgfaa

/- Contracts of the tide's reference: down, slots, blocks, joins. -/
namespace Go.Proofs.Ytlihojecopfgfaa
open Go Go.V Go.RowKit
theorem rdAt {M : Mem} {B : Nat} {cs : Array Value} {t : TypeId} (h : M B = some (.cells cs t (0, 0))) : ∀ (j : Nat) u, cs.toList[j]? = some u → M.cell ((⟨B, 0, none⟩ : Addr).add j) = some u := fun j _ hu => cellAt h j (by simpa using hu)
theorem place_in {x1 y1 x2 y2 x y : Int} (h1 : placeB (x1, y1) = true) (h2 : placeB (x2, y2) = true) (a1 : x1 ≤ x) (a2 : x ≤ x2) (a3 : y1 ≤ y) (a4 : y ≤ y2) : placeB (x, y) = true := by
  have b1 := place13_bd h1
  have b2 := place13_bd h2
  simp only [placeB, isCb, Bool.and_eq_true, decide_eq_true_eq]
  omega
end Go.Proofs.Ytlihojecopfgfaa

/- Contracts: quotients rounded up; the places around a ray. -/
namespace Go.Proofs.Ytlihojecopfgfaa
open Go Go.V Go.RowKit
theorem ceil_eq (a b : Int) (hb : 0 < b) : -(-a / b) = if a % b = 0 then a / b else a / b + 1 := by
  have h1 := Int.emod_add_mul_ediv a b
  have h2 := Int.emod_nonneg a (b := b) (by omega)
  have h3 := Int.emod_lt_of_pos a hb
  split
  · rename_i h
    have := (Int.ediv_emod_unique hb (a := -a) (r := 0) (q := -(a / b))).2 ⟨by rw [Int.mul_neg]; omega, by omega, hb⟩
    rw [this.1]; omega
  · rename_i h
    have := (Int.ediv_emod_unique hb (a := -a) (r := b - a % b) (q := -(a / b) - 1)).2 ⟨by rw [Int.mul_sub, Int.mul_neg]; omega, by omega, by omega⟩
    rw [this.1]; omega
def flo (c n d : Int) : Int := c * n / d
def cei (c n d : Int) : Int := -(-(c * n) / d)
/-- The places around a ray, times n, divided by d. -/
def rndP (t : Pt) (n d : Int) : List Pt := [(flo t.1 n d, flo t.2 n d), (flo t.1 n d, cei t.2 n d), (cei t.1 n d, flo t.2 n d), (cei t.1 n d, cei t.2 n d)]
def twoI (a b : Int) (i : Nat) : Int := if i = 0 then a else b
/-- Those that were made after some rounds. -/
def rndL (t : Pt) (n d : Int) (i j : Nat) : List Pt := (rndP t n d).take (2 * i + j)
theorem rndL_step (t : Pt) (n d : Int) {i j : Nat} (hi : i < 2) (hj : j < 2) : rndL t n d i (j + 1) = rndL t n d i j ++ [(twoI (flo t.1 n d) (cei t.1 n d) i, twoI (flo t.2 n d) (cei t.2 n d) j)] := by
  match i, hi, j, hj with
  | 0, _, 0, _ => rfl
  | 0, _, 1, _ => rfl
  | 1, _, 0, _ => rfl
  | 1, _, 1, _ => rfl
theorem rndL_row (t : Pt) (n d : Int) {i : Nat} : rndL t n d i 2 = rndL t n d (i + 1) 0 := by unfold rndL; congr 1
theorem rndL_len (t : Pt) (n d : Int) (i j : Nat) : (rndL t n d i j).length ≤ 4 := by unfold rndL; rw [List.length_take]; exact Nat.min_le_right _ _
theorem two_read {M : Mem} {ad : Option Addr} {c : Nat} {x y : Int} (h : Ints M (.slice ad 2 c) [x, y]) : ∃ a, ad = some a ∧ ∀ M', M.le M' → ∀ i, i < 2 → M'.cell (a.add (i * 1)) = some (.int .i64 (twoI x y i)) := by
  obtain ⟨ad', c', e, _, _, _, _, hcell⟩ := h
  cases e
  obtain ⟨a, ha, hr⟩ := hcell (show 0 < 2 by decide)
  refine ⟨a, ha, fun M' hM i hi => Mem.cell_le hM ?_⟩
  match i, hi with
  | 0, _ => exact hr 0 _ rfl
  | 1, _ => exact hr 1 _ rfl
end Go.Proofs.Ytlihojecopfgfaa

/- The verification-condition framework, part U: contracts of functions that hand back a growing slice. -/
namespace Go.V
open Go Go.RowKit
variable {P : Program}
/-- A contract: what is handed back is a new slice, the caller's own. -/
def FnRow (P : Program) (f : Nat) (args : List Value) (M : Mem) (E sz : Nat) (R : Nat → List Value → Mem → Prop) : Prop :=
  Enters P f ∧ ∀ W, M.ok W → Calls P f args.toArray W fun e W' => ∃ v n xs M', e = .returned v ∧ W'.ownsRow W.heap.size E sz v n xs ∧ (∀ x ∈ xs, x.oneCell' = true) ∧ (∀ b, ob v = some b → M' b = none) ∧
    Below W.heap.size W W' ∧ M.le M' ∧ M'.ok W' ∧ (∀ b, b < W.heap.size → M' b = M b) ∧ R n xs M'
/-- What a function hands back: a slice of its own. -/
def finRow (C : VX) (fn : Func) (E sz : Nat) (R : Nat → List Value → Mem → Prop) (e : Ex) (st : St) : Prop :=
  match e with
  | .exit _ => VStuck 180
  | _ => match resSV C st fn.results.toList with
    | some [.row id] => match st.own id with
      | some (.row E' sz' n xs) => match Nat.beq E' E && Nat.beq sz' sz with
        | true => st.withM fun M => VFact (R n xs M) True
        | false => VStuck 181
      | _ => VStuck 182
    | _ => VStuck 183
theorem FnRow.of_vc {C : VX} (hC : VXOK P C) {f : Nat} {fn : Func} {c : Code} (hf : P.funcs[f]? = some fn) (hb : fn.body = some c) (hname : (fn.name == "runtime.NumGoroutine") = false)
    {args : List Value} (hnt : Nat.ble args.length fn.ntmps = true) {M : Mem} {E sz : Nat} {R : Nat → List Value → Mem → Prop} (h : vc C P c (st0 args M fn.ntmps none) (finRow C fn E sz R)) : FnRow P f args M E sz R := by
  refine ⟨Go.Proofs.enters_of hf hname hb, fun W hW => ?_⟩
  refine (callsIn_wide (n := 100)).1 (callsIn_of_wp_marks hf hb trivial ?_ rfl)
  have hle := Nat.le_of_ble_eq_true hnt
  have hs0 : Sat W.heap.size W M (fun _ => undef) (st0 args M fn.ntmps none) { tmps := args.toArray ++ Array.replicate (fn.ntmps - args.toArray.size) undef, defers := [] } W := by
    refine ⟨⟨Below.refl _ _, Nat.le_refl _, hW, ?_, ?_, ?_, ?_, fun _ _ => rfl, fun b o hb => by cases hb⟩, by simp [st0]; omega, ?_, trivial⟩
    · intro id e he; simp [St.own, st0, look] at he
    · intro i j ei ej hi; simp [St.own, st0, look] at hi
    · intro i e b hi; simp [St.own, st0, look] at hi
    · intro b o hb; cases hb
    · intro d s hd
      obtain ⟨h1, h2, v, h3, rfl⟩ := argSlots_look args 0 d s hd
      refine ⟨by simp [st0]; omega, trivial, ?_⟩
      simp only [Nat.sub_zero] at h3
      rw [Array.getElem?_append_left (by simp; omega)]
      simp only [SV.den, List.getElem?_toArray]
      exact h3
  have := vc_sound (r := none) (n := 100) hC (κ := fun Y B => Y = none ∧ B = ⟨W.heap.size, W, M⟩) (fun l args rest B M W hκ => by cases hκ.1) (fx := fun _ => False) (tm := #[]) (B := ⟨W.heap.size, W, M⟩) c h (fun l hl => by cases hl) ⟨rfl, rfl⟩ hs0 (wr_false c) (fun d hd => hd.elim)
  refine wpIn_mono this ?_
  rintro e a' W' ⟨⟨ex, he, B, ρ, st, ⟨_, rfl⟩, h1, h2, h3⟩, _⟩
  have main : (e = .normal ∨ e = .ret) → LeavesInM (Fw none) 100 P fn a'.tmps (fun e W'' => ∃ v n xs M', e = .returned v ∧ W''.ownsRow W.heap.size E sz v n xs ∧ (∀ x ∈ xs, x.oneCell' = true) ∧ (∀ b, ob v = some b → M' b = none) ∧
    Below W.heap.size W W'' ∧ M.le M' ∧ M'.ok W'' ∧ (∀ b, b < W.heap.size → M' b = M b) ∧ R n xs M') a'.defers .returning W' := by
    intro hcase
    have h3' : (match resSV C st fn.results.toList with
      | some [.row id] => match st.own id with
        | some (.row E' sz' n xs) => match Nat.beq E' E && Nat.beq sz' sz with
          | true => st.withM fun M => VFact (R n xs M) True
          | false => VStuck 181
        | _ => VStuck 182
      | _ => VStuck 183) := by
      rcases hcase with rfl | rfl <;> cases he <;> exact h3
    split at h3'
    · rename_i id hrs
      split at h3'
      · rename_i E' sz' n xs hid
        split at h3'
        · rename_i hb2
          simp only [Bool.and_eq_true] at hb2
          have e1 := Nat.eq_of_beq_eq_true hb2.1
          have e2 := Nat.eq_of_beq_eq_true hb2.2
          subst e1 e2
          obtain ⟨hR, _⟩ := withM_iff h3'
          have hsl : ∀ d s, look st.sl d = some s → s.sc st.nx ∧ a'.tmps[d]? = some (s.den ρ) := fun d s hd => ⟨(h1.sl d s hd).2.1, (h1.sl d s hd).2.2⟩
          have hres := fun (G : Gh) (W'' : World) (hS : SatH W.heap.size W M ρ { st with G := G } W'') => results_run (tmps := a'.tmps) (st := { st with G := G }) hC hS hsl fn.results.toList (r := [.row id]) (by rw [resSV_G]; exact hrs)
          refine leaves_of a'.defers h1.h h1.h rfl (fun b => by rw [h2.2]; rfl) h1.marks ?_
          intro G W'' s1 s2
          obtain ⟨k1, k2, k3, k4⟩ := s2.own id _ hid
          have hv : slOf (ρ id) = ρ id := ownsRow_isSl k3
          refine ⟨slOf (ρ id), ?_, slOf (ρ id), n, xs, st.M, rfl, by rw [hv]; exact k3, k4, ?_, s2.below, ?_, s2.mem, s2.mlow, hR⟩
          · have hr := (hres G W'' s1).1
            exact results_ret fn a'.tmps P [slOf (ρ id)] W'' hr
          · intro b hb
            rw [hv] at hb
            exact s2.msep id _ b hid hb
          · intro b o hb
            have hlt := (Array.getElem?_eq_some_iff.1 (hW b o hb)).1
            rw [s2.mlow b hlt]; exact hb
        · cases h3'
      · cases h3'
    · cases h3'
  cases e with
  | normal => exact main (.inl rfl)
  | ret => exact main (.inr rfl)
  | exit i => cases he; cases h3
  | goto => cases he
  | panic => cases he
  | outgrown => cases he
/-- More is known of memory, and there is one more entry, in a block that is new. -/
theorem SatH.more {n₀ : Nat} {w : World} {M₀ : Mem} {ρ : Env} {st : St} {W W' : World} (h : SatH n₀ w M₀ ρ st W) {E sz n : Nat} {xs : List Value} {v : Value} {M' : Mem} (hb : Below W.heap.size W W') (hrow : W'.ownsRow W.heap.size E sz v n xs) (h1 : ∀ x ∈ xs, x.oneCell' = true)
    (hnone : ∀ b, ob v = some b → M' b = none) (hM : M'.ok W') (hnew : ∀ b, b < W.heap.size → M' b = st.M b) : SatH n₀ w M₀ (upd ρ st.nx v) { st.add (.row E sz n xs) with M := M' } W' := by
  have hob : ∀ b, ob v = some b → W.heap.size ≤ b := fun b hb' => by
    rcases hrow.2 with ⟨rfl, _⟩ | ⟨g, cap, cur, rfl, hg, _⟩
    · cases hb'
    · simp [ob] at hb'; omega
  have hrow' : W'.ownsRow n₀ E sz v n xs := by
    refine ⟨hrow.1, ?_⟩
    rcases hrow.2 with h2 | ⟨g, cap, cur, h2, hg, r⟩
    · exact .inl h2
    · exact .inr ⟨g, cap, cur, h2, Nat.le_trans h.size hg, r⟩
  have key := h.add (.row E sz n xs) v hb trivial (by exact ⟨by rw [upd_same]; exact hrow', h1⟩) hob
  have old : ∀ i ei b, st.own i = some ei → ob (ρ i) = some b → b < W.heap.size := fun i ei b hi hb' => ((h.own i ei hi).2.2.lt b hb').2.1
  refine ⟨key.below, key.size, hM, key.own, key.sep, ?_, ?_, ?_, key.fpin⟩
  · intro i e b hi hbb
    have hi' : (st.add (.row E sz n xs)).own i = some e := hi
    rw [own_add] at hi'
    by_cases e1 : i = st.nx
    · subst e1
      rw [upd_same] at hbb
      exact hnone b hbb
    · rw [if_neg e1] at hi'
      rw [agree_upd ρ st.nx v i (h.own i e hi').1] at hbb
      show M' b = none
      rw [hnew b (old i e b hi' hbb)]
      exact h.msep i e b hi' hbb
  · intro b o hbo
    obtain ⟨k1, k2, k3⟩ := h.pin b o hbo
    have hlt := (Array.getElem?_eq_some_iff.1 k2).1
    refine ⟨k1, (hb.block b hlt).trans k2, ?_⟩
    show M' b = none
    rw [hnew b hlt]; exact k3
  · intro b hb'
    show M' b = M₀ b
    rw [hnew b (Nat.lt_of_lt_of_le hb' h.size)]
    exact h.mlow b hb'
/-- A call of such a function, its arguments plain. -/
theorem VCall.ofRow {f : Nat} {vs : List Value} {st : St} {K : SV → St → Prop} {E sz : Nat} {R : Nat → List Value → Mem → Prop} (hF : FnRow P f vs st.M E sz R)
    (hK : ∀ n xs M', st.M.le M' → R n xs M' → K (.row st.nx) ⟨st.sl, (st.nx, some (.row E sz n xs)) :: st.ow, st.nx + 1, M', st.nt, st.G⟩) : VCall P f (vs.map .v) st K := by
  refine ⟨hF.1, fun n₀ w M₀ ρ W hS hsa hss => ?_⟩
  have e : (vs.map SV.v).map (SV.den ρ) = vs := by rw [List.map_map]; exact (List.map_congr_left fun _ _ => rfl).trans (List.map_id vs)
  rw [e]
  refine (hF.2 W hS.mem).mono ?_
  rintro e W' ⟨v, n, xs, M', rfl, k1, k2, k3, k4, k5, k6, k7, k8⟩
  refine ⟨.row st.nx, _, upd ρ st.nx v, ?_, Nat.lt_succ_self _, hS.more k4 k1 k2 k3 k6 k7, ?_, rfl, rfl, hK n xs M' k5 k8⟩
  · simp only [SV.den, upd_same]
    rw [ownsRow_isSl k1]
  · intro d s hd
    have hs := hss d s hd
    exact ⟨SV.sc_mono (Nat.le_succ _) hs, s, hd, SV.den_agree (agree_upd ρ st.nx _) hs⟩
/-- The same, the memory named. -/
theorem VCall.ofRowM {f : Nat} {vs : List Value} {st : St} {K : SV → St → Prop} {E sz : Nat} {R : Nat → List Value → Mem → Prop} {M : Mem} (hF : FnRow P f vs M E sz R) (hM : st.M = M)
    (hK : ∀ n xs M', M.le M' → R n xs M' → K (.row st.nx) ⟨st.sl, (st.nx, some (.row E sz n xs)) :: st.ow, st.nx + 1, M', st.nt, st.G⟩) : VCall P f (vs.map .v) st K := by
  subst hM
  exact VCall.ofRow hF hK
/-- An own slice becomes immutable: the heap's part alone. -/
theorem SatH.frzRow {n₀ : Nat} {w : World} {M₀ : Mem} {ρ : Env} {st : St} {W : World} (h : SatH n₀ w M₀ ρ st W) {id E sz n : Nat} {xs : List Value} (hid : st.own id = some (.row E sz n xs)) :
    ∃ M', st.M.le M' ∧ SlAt M' sz (slOf (ρ id)) n xs ∧ SatH n₀ w M₀ ρ { st with ow := (id, none) :: st.ow, M := M' } W := by
  obtain ⟨g1, _, ho, h1⟩ := h.own id _ hid
  rcases ho.2 with ⟨hv, h0⟩ | ⟨g, cap, cur, hg, hge, hh, hnc, hcm, hcs, ht⟩
  · subst h0
    exact ⟨st.M, Mem.le_refl _, ⟨none, 0, by rw [hv]; rfl, Nat.le_refl _, by simp [maxLen], ho.1, h1, fun h => absurd h (Nat.lt_irrefl _)⟩, h.kill id⟩
  · have hob : ob (ρ id) = some g := by simp [hg, ob]
    obtain ⟨f1, f2⟩ := h.freeze hid hob hh
    refine ⟨_, f2, ⟨some ⟨g, 0, none⟩, cap, by rw [hg]; rfl, hnc, hcm, ho.1, h1, fun _ => ⟨_, rfl, fun j v hj => ?_⟩⟩, f1⟩
    rw [Addr.add_none]
    have hb : (st.M.with g (.cells cur E (0, 0))) g = some (.cells cur E (0, 0)) := by simp [Mem.with]
    rw [← ht, List.getElem?_take] at hj
    split at hj
    · simp only [Mem.cell, hb, Option.isSome_none, Bool.false_eq_true, if_false, Nat.zero_add]
      simpa using hj
    · cases hj
/-- The same, the one argument a growing slice of one's own. -/
theorem VCall.ofRow1 {f id : Nat} {st : St} {K : SV → St → Prop} {E0 sz0 n0 : Nat} {xs0 : List Value} {E sz : Nat} {R : Nat → List Value → Mem → Prop} (hid : st.own id = some (.row E0 sz0 n0 xs0)) (he : Enters P f)
    (hF : ∀ x M1, st.M.le M1 → SlAt M1 sz0 x n0 xs0 → FnRow P f [x] M1 E sz R)
    (hK : ∀ n xs M', st.M.le M' → R n xs M' → K (.row st.nx) ⟨st.sl, (st.nx, some (.row E sz n xs)) :: (id, none) :: st.ow, st.nx + 1, M', st.nt, st.G⟩) : VCall P f [.row id] st K := by
  refine ⟨he, fun n₀ w M₀ ρ W hS hsa hss => ?_⟩
  obtain ⟨M1, l1, s1, hS1⟩ := hS.frzRow hid
  have hF1 := hF _ M1 l1 s1
  show Calls P f #[slOf (ρ id)] W _
  refine (hF1.2 W hS1.mem).mono ?_
  rintro e W' ⟨v, n, xs, M', rfl, k1, k2, k3, k4, k5, k6, k7, k8⟩
  refine ⟨.row st.nx, _, upd ρ st.nx v, ?_, Nat.lt_succ_self _, hS1.more k4 k1 k2 k3 k6 k7, ?_, rfl, rfl, hK n xs M' (l1.trans k5) k8⟩
  · simp only [SV.den, upd_same]
    rw [ownsRow_isSl k1]
  · intro d s hd
    have hs := hss d s hd
    exact ⟨SV.sc_mono (Nat.le_succ _) hs, s, hd, SV.den_agree (agree_upd ρ st.nx _) hs⟩
end Go.V

/- slices.Grow of nil; contract of slices.Concat. -/
namespace Go.Proofs.Ytlihojecopfgfaa
open Go Go.V Go.RowKit Go.Shelf
/-- The numbers that the kit's names have here. -/
def grRen : Ren where
  f := fun
    | 4 => 63
    | n => n
  t := fun
    | 0 => 0
    | 3 => 3
    | 4 => 4
    | 9 => 9
    | 20 => 20
    | 22 => 22
    | 25 => 26
    | n => n
  g := fun n => n
theorem grLay : Lays8.n4 Try.prog grRen where
  mixed := rfl
  f4 := ⟨Try.f63.name, by kernel_rfl, Try.func63.trans (by kernel_rfl)⟩
  t0 := Try.underlying0
  a0 := Try.isAgg0
  z0 := Try.sizeOf0
  v0 := Try.zeroValue0
  t3 := Try.underlying3
  a3 := Try.isAgg3
  z3 := Try.sizeOf3
  v3 := Try.zeroValue3
  t4 := Try.underlying4
  a4 := Try.isAgg4
  z4 := Try.sizeOf4
  v4 := Try.zeroValue4
  t9 := Try.underlying9
  a9 := Try.isAgg9
  z9 := Try.sizeOf9
  v9 := Try.zeroValue9
  t20 := Try.underlying20
  a20 := Try.isAgg20
  z20 := Try.sizeOf20
  v20 := Try.zeroValue20
  t22 := Try.underlying22
  a22 := Try.isAgg22
  z22 := Try.sizeOf22
  v22 := Try.zeroValue22
theorem Grow_call {n : Nat} {st : St} {K : SV → St → Prop} (h1 : 0 < n) (h2 : n ≤ 100000) (hK : K (.row st.nx) (st.add (.row 26 2 0 []))) :
    VCall Try.prog 63 [.v (.slice none 0 0), .v (.int .i64 n)] st K := by
  obtain ⟨i0, z, hi0, hs0, hz0, hzc, hb0⟩ := ty26.inf
  have hsz : i0.size = 2 := hs0
  have hby : i0.bytes = 16 := hb0
  refine ⟨enters_of Try.func63 (by kernel_rfl) rfl, fun n₀ w M₀ ρ W hS hsa hss => ?_⟩
  have key := Any8.slices_Grow_grow grLay i0 z hi0 hz0 (by rw [hsz]; decide) none 0 0 n [] W (Nat.le_refl _) (by omega) (by rw [hby]; omega) (by omega) (by simp) (fun _ => rfl) (fun a h => by cases h)
  refine key.mono ?_
  rintro e W' ⟨rfl, rfl⟩
  have hG := grownCap_ge W (0 + n) 0 (grRen.t 25)
  have hG2 := grownCap_le_maxLen W (0 + n) 0 (grRen.t 25) (by unfold maxLen; omega)
  generalize grownCap W (0 + n) 0 (grRen.t 25) = cap at *
  refine ⟨.row st.nx, st.add (.row 26 2 0 []), upd ρ st.nx (.slice (some ⟨W.heap.size, 0, none⟩) 0 cap), ?_, ?_, ?_, ?_, rfl, rfl, hK⟩
  · simp [SV.den, upd_same, slOf]
  · exact Nat.lt_succ_self _
  · refine hS.add _ _ (((Below.refl _ W).drew).alloc (Nat.le_refl _) _) trivial ?_ ?_
    · refine ⟨⟨rfl, .inr ⟨W.heap.size, cap, #[] ++ Builtin.zeroCells z.cells (0 + n - 0) ++ Builtin.zeroCells z.cells (cap - (0 + n)), upd_same _ _ _, hS.size, heap_alloc_new _ _, Nat.zero_le _, hG2, ?_, by simp⟩⟩, by simp⟩
      have hz2 : z.cells.size = 2 := by rw [hzc]; rfl
      simp only [Array.size_append, Array.size_empty, size_zeroCells, hz2]
      omega
    · intro b hb
      simp [ob] at hb
      omega
  · intro d s hd
    have hs := hss d s hd
    exact ⟨SV.sc_mono (Nat.le_succ _) hs, s, hd, SV.den_agree (agree_upd ρ st.nx _) hs⟩
/-! ### slices.Concat -/
theorem take_gd {α : Type} (d : α) (l : List α) {i : Nat} (h : i < l.length) : l.take (i + 1) = l.take i ++ [l.getD i d] := by
  rw [List.take_add_one]
  simp only [List.getD_eq_getElem?_getD, List.getElem?_eq_getElem h, Option.getD_some, Option.toList_some]
def sumL (ls : List (List Pt)) : Nat := (ls.map List.length).sum
theorem sumL_take {ls : List (List Pt)} {i : Nat} (h : i < ls.length) : sumL (ls.take (i + 1)) = sumL (ls.take i) + (gr ls i).length := by
  unfold sumL gr
  rw [take_gd [] ls h, List.map_append, List.sum_append]; rfl
theorem sumL_flat (ls : List (List Pt)) : sumL ls = ls.flatten.length := by unfold sumL; rw [List.length_flatten]
theorem flat_take {ls : List (List Pt)} {i : Nat} (h : i < ls.length) : (ls.take (i + 1)).flatten = (ls.take i).flatten ++ gr ls i := by
  unfold gr
  rw [take_gd [] ls h, List.flatten_append]; simp
theorem sumL_le (ls : List (List Pt)) (i : Nat) : sumL (ls.take i) ≤ sumL ls := by
  rw [sumL_flat, sumL_flat]
  have := congrArg List.length (congrArg List.flatten (List.take_append_drop i ls))
  rw [List.flatten_append, List.length_append] at this
  omega
set_option maxRecDepth 20000 in
set_option maxHeartbeats 2000000 in
theorem Concat_fn (v : Value) (ls : List (List Pt)) (M : Mem) (hv : RegV M v ls) (h0 : 0 < ls.flatten.length) (h1 : ls.flatten.length ≤ 100000) :
    FnRow Try.prog 55 [v] M 26 2 fun n xs M' => n = ls.flatten.length ∧ xs = cellsP ls.flatten ∧ M' = M := by
  obtain ⟨ad, c, rfl, hm, hrd⟩ := hv.get
  have hs := sumL_flat ls
  refine FnRow.of_vc cxIOK Try.func55 rfl rfl rfl ?_
  repeat (first | refine VIf.tt ?_ | refine VIf.ff ?_)
  refine VCode.loop cxIOK (Nat × Int) (fun s => ⟨[(0, .v (.slice ad ls.length c)), (3, .v (.int .i64 s.2)), (9, .v (.slice ad ls.length c)), (10, .v (.int .i64 ls.length)), (11, .v (.int .i64 s.1))], [], 0, M, 36, ⟨fun _ => none, none, fun _ => none⟩⟩)
    (fun s => s.1 ≤ ls.length ∧ s.2 = (sumL (ls.take s.1) : Nat)) (fun s => ls.length - s.1) (0, 0) ⟨Nat.zero_le _, rfl⟩ (Wk.mk' id (by repeat' constructor) (by repeat' constructor) (injOK_id _) rfl rfl rfl) ?_
  rintro ⟨i, z⟩ ⟨hi, hz⟩ m
  simp only at hi hz
  repeat (first | refine VIf.tt ?_ | refine VIf.ff ?_)
  refine VIf.mk (fun hlt => ?_) (fun hge => ?_)
  · have hlt : i < ls.length := lt_of_dec hlt
    obtain ⟨ad', w, ead, hw, hw64, hc⟩ := hrd M (Mem.le_refl _) i hlt
    obtain ⟨wd, wc, rfl⟩ := hw.shape
    have hle := sumL_le ls (i + 1)
    have hst : sumL (ls.take (i + 1)) = sumL (ls.take i) + (ls.getD i []).length := sumL_take hlt
    repeat (first | refine VIf.tt ?_ | refine VIf.ff ?_)
    refine VIdx.mk ad' i ead rfl hlt ?_
    repeat (first | refine VIf.tt ?_ | refine VIf.ff ?_)
    refine VRead.mk _ hc ?_
    repeat (first | refine VIf.tt ?_ | refine VIf.ff ?_)
    refine VArith.ok (by simp only; omega) (by simp only; omega) ?_
    repeat (first | refine VIf.tt ?_ | refine VIf.ff ?_)
    refine VIf.mk (fun h => ?_) (fun _ => ?_)
    · have h := of_decide_eq_true h
      exfalso
      simp only at h
      omega
    repeat (first | refine VIf.tt ?_ | refine VIf.ff ?_)
    refine VArith.ok (by first | omega | (simp only; omega)) (by first | omega | (simp only; omega)) ?_
    exact ⟨(i + 1, z + ((ls.getD i []).length : Nat)), ⟨hlt, by simp only; omega⟩, (by first | omega | (simp only; omega)), (Wk.mk' id (by repeat' constructor) (by repeat' constructor) (injOK_id _) rfl rfl rfl)⟩
  have : i = ls.length := by have := ge_of_dec hge; simp only at this; omega
  subst this
  rw [List.take_length] at hz
  subst hz
  repeat (first | refine VIf.tt ?_ | refine VIf.ff ?_)
  refine VOwn.own (Grow_call (by omega) (by omega) ?_)
  repeat (first | refine VIf.tt ?_ | refine VIf.ff ?_)
  refine VCode.loop cxIOK Nat (fun i => ⟨[(0, .v (.slice ad ls.length c)), (6, .row 0), (25, .v (.slice ad ls.length c)), (26, .v (.int .i64 ls.length)), (27, .v (.int .i64 i))], [(0, some (.row 26 2 (ls.take i).flatten.length (cellsP (ls.take i).flatten)))], 1, M, 36, ⟨fun _ => none, none, fun _ => none⟩⟩)
    (fun i => i ≤ ls.length) (fun i => ls.length - i) 0 (Nat.zero_le _) (Wk.mk' id (by repeat' constructor) (by repeat' constructor) (injOK_id _) rfl rfl rfl) ?_
  intro i hi m
  repeat (first | refine VIf.tt ?_ | refine VIf.ff ?_)
  refine VIf.mk (fun hlt => ?_) (fun hge => ?_)
  · have hlt : i < ls.length := lt_of_dec hlt
    obtain ⟨ad', w, ead, hw, hw64, hc⟩ := hrd M (Mem.le_refl _) i hlt
    obtain ⟨wd, wc, rfl⟩ := hw.shape
    have hle := sumL_le ls (i + 1)
    have hst : sumL (ls.take (i + 1)) = sumL (ls.take i) + (ls.getD i []).length := sumL_take hlt
    rw [sumL_flat (ls.take i)] at hst
    repeat (first | refine VIf.tt ?_ | refine VIf.ff ?_)
    refine VIdx.mk ad' i ead rfl hlt ?_
    repeat (first | refine VIf.tt ?_ | refine VIf.ff ?_)
    refine VRead.mk _ hc ?_
    repeat (first | refine VIf.tt ?_ | refine VIf.ff ?_)
    refine VSl.mk (ls.getD i []).length (cellsP (ls.getD i [])) hw ?_
    repeat (first | refine VIf.tt ?_ | refine VIf.ff ?_)
    refine VFact.mk (by first | omega | (simp only; omega)) ?_
    repeat (first | refine VIf.tt ?_ | refine VIf.ff ?_)
    refine VArith.ok (by first | omega | (simp only; omega)) (by first | omega | (simp only; omega)) ?_
    refine ⟨i + 1, hlt, (by first | omega | (simp only; omega)), Wk.mk' (fun k => if k = 0 then 1 else k) (by repeat' constructor) ⟨⟨rfl, ⟨rfl, rfl, ?_, ?_⟩⟩, trivial⟩ (by simp [injOK]) rfl rfl rfl⟩
    · rw [flat_take hlt, List.length_append]; rfl
    · rw [flat_take hlt, show ls.getD i [] = gr ls i from rfl]; simp [cellsP]
  · have : i = ls.length := by have := ge_of_dec hge; omega
    subst this
    have e : ls.take ls.length = ls := List.take_length
    repeat (first | refine VIf.tt ?_ | refine VIf.ff ?_)
    exact VFact.mk ⟨by rw [e], by rw [e], rfl⟩ trivial
end Go.Proofs.Ytlihojecopfgfaa

/- Contract: cut.around, which calls itself. -/
namespace Go.Proofs.Ytlihojecopfgfaa
open Go Go.V Go.RowKit
theorem hullB_cases {l : List Pt} (hne : l ≠ []) (hP : ∀ x ∈ l, placeB x = true) : (l.length ≤ 4000 ∧ (aroundP l).length ≤ 64 ∧ hullB l = (aroundP l, 0) ∧ arC l = aroundP l) ∨ (64 < l.length ∧ hullB l = ([], 2) ∧ arC l = octL l) := by
  by_cases h1 : l.length ≤ 4000
  · have := hullB_mid hP hne h1
    by_cases h2 : (aroundP l).length ≤ 64
    · rw [if_pos h2] at this
      exact .inl ⟨h1, h2, this, by unfold arC; rw [if_neg hne, if_pos ⟨h1, h2⟩]⟩
    · rw [if_neg h2] at this
      have hl := hl_len (around_hl hne)
      exact .inr ⟨by omega, this, by unfold arC; rw [if_neg hne, if_neg (fun h => h2 h.2)]⟩
  · refine .inr ⟨by omega, ?_, by unfold arC; rw [if_neg hne, if_neg (fun h => h1 h.1)]⟩
    unfold hullB; rw [if_pos (by omega)]
theorem cellsP_drop' : ∀ (k : Nat) (ps : List Pt), (cellsP ps).drop (k * 2) = cellsP (ps.drop k)
  | 0, _ => rfl
  | _ + 1, [] => by simp [cellsP]
  | k + 1, p :: ps => by
    have := cellsP_drop' k ps
    rw [show (k + 1) * 2 = k * 2 + 1 + 1 by omega]
    exact this
theorem pts_take {M : Mem} {ad : Option Addr} {c : Nat} {ps : List Pt} (h : Pts M (.slice ad ps.length c) ps) {k : Nat} (hk : k ≤ ps.length) {c' : Nat} (h1 : k ≤ c') (h2 : c' ≤ c) : Pts M (.slice ad k c') (ps.take k) := by
  obtain ⟨a, c0, e, g1, g2, g3, g4, g5⟩ := h
  cases e
  have hl : (ps.take k).length = k := by rw [List.length_take]; omega
  refine ⟨ad, c', by rw [hl], by rw [hl]; exact h1, by omega, ?_, fun v hv => ?_, fun hn => ?_⟩
  · rw [← cellsP_take, List.length_take, g3, hl]; omega
  · rw [← cellsP_take] at hv; exact g4 v (List.mem_of_mem_take hv)
  · obtain ⟨a, ha, hr⟩ := g5 (by omega)
    refine ⟨a, ha, fun j v hj => hr j v ?_⟩
    rw [← cellsP_take, List.getElem?_take] at hj
    split at hj
    · exact hj
    · cases hj
theorem pts_drop {M : Mem} {a : Addr} {c : Nat} {ps : List Pt} (h : Pts M (.slice (some a) ps.length c) ps) {k : Nat} (hk : k ≤ ps.length) {c' : Nat} (h1 : ps.length - k ≤ c') (h2 : c' ≤ c) : Pts M (.slice (some (a.add (k * 2))) (ps.length - k) c') (ps.drop k) := by
  obtain ⟨a', c0, e, g1, g2, g3, g4, g5⟩ := h
  cases e
  have hl : (ps.drop k).length = ps.length - k := List.length_drop
  refine ⟨some (a.add (k * 2)), c', by rw [hl], by rw [hl]; exact h1, by omega, ?_, fun v hv => ?_, fun hn => ⟨_, rfl, fun j v hj => ?_⟩⟩
  · rw [← cellsP_drop', List.length_drop, g3, hl]; omega
  · rw [← cellsP_drop'] at hv; exact g4 v (List.mem_of_mem_drop hv)
  · obtain ⟨b, hb, hr⟩ := g5 (by omega)
    cases hb
    rw [← cellsP_drop', List.getElem?_drop] at hj
    rw [Addr.add_add]
    exact hr _ _ hj
theorem Clone_row (v : Value) (ps : List Pt) (M : Mem) (hv : Pts M v ps) (hn : 1 ≤ ps.length) (hn' : ps.length ≤ 100000) : FnRow Try.prog 54 [v] M 26 2 fun n xs _ => n = ps.length ∧ xs = cellsP ps := by
  obtain ⟨ad, c, rfl⟩ := hv.shape
  obtain ⟨_, hm, hrd⟩ := hv.cellsOf
  obtain ⟨ad', rfl, _⟩ := hrd M (Mem.le_refl _) 0 (by omega)
  refine FnRow.of_vc cxIOK Try.func54 rfl rfl rfl ?_
  repeat (first | refine VIf.tt ?_ | refine VIf.ff ?_)
  refine VSl.mk ps.length (cellsP ps) hv ?_
  repeat (first | refine VIf.tt ?_ | refine VIf.ff ?_)
  refine VFact.mk (by simp only; omega) ?_
  repeat (first | refine VIf.tt ?_ | refine VIf.ff ?_)
  refine VFact.mk ⟨?_, ?_⟩ trivial
  · exact Nat.zero_add _
  · exact List.nil_append _
set_option maxRecDepth 20000 in
set_option maxHeartbeats 2000000 in
theorem aroundN_fn : ∀ (N : Nat) (l : List Pt), l.length ≤ N → ∀ (v : Value) (M : Mem), Pts M v l → (∀ x ∈ l, placeB x = true) →
    V.Fn Try.prog 34 [v] M fun rs M' => ∃ u, rs = [u, .bool (decide (0 < l.length))] ∧ Pts M' u (arC l) := by
  intro N
  induction N with
  | zero =>
    intro l hN v M hv hP
    obtain ⟨ad, c, rfl⟩ := hv.shape
    have hl : l = [] := List.length_eq_zero_iff.1 (by omega)
    subst hl
    refine Fn.of_vc cxIOK Try.func34 rfl rfl rfl ?_
    repeat (first | refine VIf.tt ?_ | refine VIf.ff ?_)
    exact VFact.mk ⟨_, rfl, Pts.nil M⟩ trivial
  | succ N ih =>
    intro l hN v M hv hP
    obtain ⟨ad, c, rfl⟩ := hv.shape
    by_cases hl : l = []
    · subst hl
      refine Fn.of_vc cxIOK Try.func34 rfl rfl rfl ?_
      repeat (first | refine VIf.tt ?_ | refine VIf.ff ?_)
      exact VFact.mk ⟨_, rfl, Pts.nil M⟩ trivial
    have hpos := ne_len hl
    refine Fn.of_vc cxIOK Try.func34 rfl rfl rfl ?_
    repeat (first | refine VIf.tt ?_ | refine VIf.ff ?_)
    refine VIf.mk (fun h => ?_) (fun _ => ?_)
    · have := beq_iff_eq.1 h; omega
    rcases hullB_cases hl hP with ⟨h1, h2, h3, h4⟩ | ⟨h1, h3, h4⟩
    · repeat (first | refine VIf.tt ?_ | refine VIf.ff ?_)
      refine VOwn.frz ?_
      repeat (first | refine VIf.tt ?_ | refine VIf.ff ?_)
      refine VFn.mk _ (Hull_is hv (mem_64 hP) h3) ?_
      rintro rs M1 hM1 ⟨u, rfl, hu⟩
      repeat (first | refine VIf.tt ?_ | refine VIf.ff ?_)
      refine VFact.mk ⟨u, ?_, by rw [h4]; exact hu⟩ trivial
      rw [decide_eq_true (by omega)]
    · obtain ⟨ad, rfl⟩ := SlAt.some hv (by omega)
      have hcap : l.length ≤ c := by obtain ⟨_, _, e, h, _⟩ := hv; cases e; exact h
      repeat (first | refine VIf.tt ?_ | refine VIf.ff ?_)
      refine VOwn.frz ?_
      repeat (first | refine VIf.tt ?_ | refine VIf.ff ?_)
      refine VFn.mk _ (Hull_is hv (mem_64 hP) h3) ?_
      rintro rs M1 hM1 ⟨u, rfl, _⟩
      have hH : (l.length : Int).tdiv 2 = ((l.length / 2 : Nat) : Int) := by rw [Int.tdiv_eq_ediv_of_nonneg (by omega)]; omega
      repeat (first | refine VIf.tt ?_ | refine VIf.ff ?_)
      refine VDiv.mk (by decide) ?_
      repeat (first | refine VIf.tt ?_ | refine VIf.ff ?_)
      refine VArith.ok (by rw [hH]; omega) (by rw [hH]; have := hv.cellsOf.2.1; unfold maxLen at this; omega) ?_
      obtain ⟨H, hH2⟩ : ∃ H, l.length / 2 = H := ⟨_, rfl⟩
      rw [hH2] at hH
      have lt : (l.take H).length = H := by rw [List.length_take]; omega
      have ld : (l.drop H).length = l.length - H := List.length_drop
      have nA : l.take H ≠ [] := fun e => by rw [e] at lt; simp at lt; omega
      have nB : l.drop H ≠ [] := fun e => by rw [e] at ld; simp at ld; omega
      obtain ⟨vA, vB, vP, eP, nP, pP, lP⟩ := arC_parts nA nB (List.take_append_drop H l).symm hP
      repeat (first | refine VIf.tt ?_ | refine VIf.ff ?_)
      refine VBnd.mk H hH (by omega) ?_
      have pA : ∀ x ∈ l.take H, placeB x = true := fun x hx => hP x (List.mem_of_mem_take hx)
      have pB : ∀ x ∈ l.drop H, placeB x = true := fun x hx => hP x (List.mem_of_mem_drop hx)
      repeat (first | refine VIf.tt ?_ | refine VIf.ff ?_)
      refine VOwn.frz ?_
      repeat (first | refine VIf.tt ?_ | refine VIf.ff ?_)
      refine VFn.mk _ (ih (l.take H) (by omega) _ M1 (pts_take (hv.le hM1) (by omega) (by omega) (Nat.le_refl c)) pA) ?_
      rintro rs M2 hM2 ⟨a, rfl, ha⟩
      repeat (first | refine VIf.tt ?_ | refine VIf.ff ?_)
      refine VBnd.mk H hH (by omega) ?_
      repeat (first | refine VIf.tt ?_ | refine VIf.ff ?_)
      refine VOwn.frz ?_
      have D : Pts M2 (.slice (if c = H then some ad else (some ad).map fun x => x.add (H * 2)) (l.length - H) (c - H)) (l.drop H) := by
        rw [if_neg (by omega)]
        exact pts_drop (hv.le (hM1.trans hM2)) (by omega) (by omega) (by omega)
      repeat (first | refine VIf.tt ?_ | refine VIf.ff ?_)
      refine VFn.mk _ (ih (l.drop H) (by omega) _ M2 D pB) ?_
      rintro rs M3 hM3 ⟨b, rfl, hb⟩
      repeat (first | refine VIf.tt ?_ | refine VIf.ff ?_)
      refine VOwn.frz ?_
      repeat (first | refine VIf.tt ?_ | refine VIf.ff ?_)
      refine VFn.mk _ (Eight_is (ha.le hM3) (mem_64 (valid_mem vA)) vA rfl) ?_
      rintro rs M4 hM4 ⟨a8, rfl, ha8⟩
      repeat (first | refine VIf.tt ?_ | refine VIf.ff ?_)
      refine VOwn.frz ?_
      repeat (first | refine VIf.tt ?_ | refine VIf.ff ?_)
      refine VFn.mk _ (Eight_is (hb.le hM4) (mem_64 (valid_mem vB)) vB rfl) ?_
      rintro rs M5 hM5 ⟨b8', rfl, hb8⟩
      obtain ⟨ad2, c2, rfl⟩ := ha8.shape
      obtain ⟨bd2, bc2, rfl⟩ := hb8.shape
      have la := (eight_spec vA).2.2.1
      have lb := (eight_spec vB).2.2.1
      have na := (len_one (eight_spec vA).2.1).1
      repeat (first | refine VIf.tt ?_ | refine VIf.ff ?_)
      refine VOwn.own ?_
      refine VCall.ofRowM (Clone_row _ _ M5 (ha8.le hM5) na (by omega)) rfl ?_
      rintro m1 xs1 M6 hM6 ⟨rfl, rfl⟩
      repeat (first | refine VIf.tt ?_ | refine VIf.ff ?_)
      refine VSl.mk _ _ (hb8.le hM6) ?_
      repeat (first | refine VIf.tt ?_ | refine VIf.ff ?_)
      refine VFact.mk (by show ((eightP (arC (List.take H l))).length + (eightP (arC (List.drop H l))).length) * 16 ≤ _; omega) ?_
      repeat (first | refine VIf.tt ?_ | refine VIf.ff ?_)
      refine VOwn.frz ?_
      repeat (first | refine VIf.tt ?_ | refine VIf.ff ?_)
      refine VFz.mk fun xs Bx M7 hM7 hxs => ?_
      have hxs : Pts M7 xs (eightP (arC (List.take H l)) ++ eightP (arC (List.drop H l))) := by
        have e1 : cellsP (eightP (arC (List.take H l)) ++ eightP (arC (List.drop H l))) = cellsP (eightP (arC (List.take H l))) ++ cellsP (eightP (arC (List.drop H l))) := by simp [cellsP]
        unfold Pts
        rw [e1, List.length_append]
        exact hxs
      repeat (first | refine VIf.tt ?_ | refine VIf.ff ?_)
      refine VFn.mk _ (ih _ (by omega) xs M7 hxs pP) ?_
      rintro rs M8 hM8 ⟨p8, rfl, hp8⟩
      repeat (first | refine VIf.tt ?_ | refine VIf.ff ?_)
      refine VOwn.frz ?_
      repeat (first | refine VIf.tt ?_ | refine VIf.ff ?_)
      refine VFn.mk _ (Eight_is hp8 (mem_64 (valid_mem vP)) vP eP) ?_
      rintro rs M9 hM9 ⟨o, rfl, ho⟩
      repeat (first | refine VIf.tt ?_ | refine VIf.ff ?_)
      refine VFact.mk ⟨o, ?_, by rw [h4]; exact ho⟩ trivial
      rw [decide_eq_true (by omega)]
theorem aroundC_fn (v : Value) (l : List Pt) (M : Mem) (hv : Pts M v l) (hP : ∀ x ∈ l, placeB x = true) : V.Fn Try.prog 34 [v] M fun rs M' => ∃ u, rs = [u, .bool (decide (0 < l.length))] ∧ Pts M' u (arC l) := aroundN_fn l.length l (Nat.le_refl _) v M hv hP
end Go.Proofs.Ytlihojecopfgfaa

/- Contract: cut.Cut, and the function in it that keeps places. -/
namespace Go.Proofs.Ytlihojecopfgfaa
open Go Go.V Go.RowKit
def keepAB (A B C : Int) (a b : Pt) : List Pt := (if ovr A B C a ≤ 0 then [a] else []) ++ (if crossesB (ovr A B C a) (ovr A B C b) = true then frameP a b (ovr A B C a) (ovr A B C b) else [])
def hBox (A B C : Int) : OE := .box 56 [.v (.int .i64 A), .v (.int .i64 B), .v (.int .i64 C)]
def kBox (r : Nat) : OE := .box 22 [.row r]
def cBox : OE := .box 60 [.clo 29 [] [.box 0 0, .box 1 0]]
set_option maxRecDepth 20000 in
set_option maxHeartbeats 2000000 in
theorem Keep_call {nt : Nat} {A B C : Int} {ks : List Pt} {a b : Pt} {M : Mem} {G : Gh} {K : SV → St → Prop} (hlen : ks.length ≤ 100000) (hH : halfB A B C = true) (ha : placeB a = true) (hb : placeB b = true)
    (hK : K (.v (.tuple #[])) ⟨[(8, .box 1 0), (9, .box 2 0)], [(1, some (.box 22 [.row 3])), (3, some (.row 26 2 (ks ++ keepAB A B C a b).length (cellsP (ks ++ keepAB A B C a b)))), (0, some (.box 56 [.v (.int .i64 A), .v (.int .i64 B), .v (.int .i64 C)])), (2, some (.box 60 [.clo 29 [] [.box 0 0, .box 1 0]]))], 4, M, nt, G⟩) :
    VCall Try.prog 29 [.v (ptv a), .v (ptv b), .box 0 0, .box 1 0] ⟨[(8, .box 1 0), (9, .box 2 0)], [(1, some (.box 22 [.row 3])), (3, some (.row 26 2 ks.length (cellsP ks))), (0, some (.box 56 [.v (.int .i64 A), .v (.int .i64 B), .v (.int .i64 C)])), (2, some (.box 60 [.clo 29 [] [.box 0 0, .box 1 0]]))], 4, M, nt, G⟩ K := by
  refine VCall.post ?_
  refine VCall.inline cxOK Try.func29 rfl rfl rfl [(8, .box 1 0), (9, .box 2 0)] [] (by repeat' constructor) (by repeat' constructor) ?_
  intro val f0
  repeat (first | refine VIf.tt ?_ | refine VIf.ff ?_)
  refine VDraw.go (by kernel_rfl) ?_
  have bs := ovr_bd hH ha
  have bt := ovr_bd hH hb
  repeat (first | refine VIf.tt ?_ | refine VIf.ff ?_)
  refine VFn.p (over_fn A B C a M hH ha) ?_
  repeat (first | refine VIf.tt ?_ | refine VIf.ff ?_)
  refine VFn.p (over_fn A B C b M hH hb) ?_
  repeat (first | refine VIf.tt ?_ | refine VIf.ff ?_)
  refine VIf.mk (fun h1 => ?_) (fun h1 => ?_)
  · have h1 := of_decide_eq_true h1
    repeat (first | refine VIf.tt ?_ | refine VIf.ff ?_)
    refine VFact.mk (by show (ks.length + 1) * 16 ≤ _; omega) ?_
    repeat (first | refine VIf.tt ?_ | refine VIf.ff ?_)
    refine VFn.p (crossesC_fn _ _ M) ?_
    repeat (first | refine VIf.tt ?_ | refine VIf.ff ?_)
    refine VIf.mk (fun h2 => ?_) (fun h2 => ?_)
    · repeat (first | refine VIf.tt ?_ | refine VIf.ff ?_)
      refine VDraw.go (by kernel_rfl) ?_
      repeat (first | refine VIf.tt ?_ | refine VIf.ff ?_)
      refine VFn.mk _ (frameC_fn a b _ _ M ha hb bs bt h2) ?_
      rintro rs M' hM ⟨u, rfl, hu⟩
      obtain ⟨ud, uc, rfl⟩ := hu.shape
      repeat (first | refine VIf.tt ?_ | refine VIf.ff ?_)
      refine VSl.mk _ _ hu ?_
      have hk : keepAB A B C a b = [a] ++ frameP a b (ovr A B C a) (ovr A B C b) := by unfold keepAB; rw [if_pos h1, if_pos h2]
      have el : (ks ++ keepAB A B C a b).length = (ks.length + 1) + (frameP a b (ovr A B C a) (ovr A B C b)).length := by rw [hk]; simp; try omega
      have ec : cellsP (ks ++ keepAB A B C a b) = (cellsP ks ++ ([Value.int .i64 a.1, .int .i64 a.2] ++ [])) ++ cellsP (frameP a b (ovr A B C a) (ovr A B C b)) := by rw [hk]; simp [cellsP]
      repeat (first | refine VIf.tt ?_ | refine VIf.ff ?_)
      refine VFact.mk (by show ((ks.length + 1) + 4) * 16 ≤ _; omega) ?_
      repeat (first | refine VIf.tt ?_ | refine VIf.ff ?_)
      repeat (first | refine VIf.tt ?_ | refine VIf.ff ?_)
      refine VFact.mk hM ?_
      repeat (first | refine VIf.tt ?_ | refine VIf.ff ?_)
      refine VFact.mk (fun _ => rfl) ?_
      repeat refine VFact.mk rfl ?_
      refine ⟨.v (.tuple #[]), _, ?_, hK⟩
      refine ⟨⟨fun i => if i = 3 then 10 else i, rfl, rfl, ?_, ?_, ?_⟩, rfl, rfl, rfl⟩
      · repeat' constructor
      · repeat' (first | exact el | exact ec.symm | exact el.symm | exact ec | constructor)
      · exact injOK_b rfl
    · have hk : keepAB A B C a b = [a] := by unfold keepAB; rw [if_pos h1, if_neg (by rw [h2]; decide)]; simp
      have el : (ks ++ keepAB A B C a b).length = (ks.length + 1) := by rw [hk]; simp
      have ec : cellsP (ks ++ keepAB A B C a b) = (cellsP ks ++ ([Value.int .i64 a.1, .int .i64 a.2] ++ [])) := by rw [hk]; simp [cellsP]
      repeat (first | refine VIf.tt ?_ | refine VIf.ff ?_)
      repeat (first | refine VIf.tt ?_ | refine VIf.ff ?_)
      refine VFact.mk (fun _ _ h => h) ?_
      repeat (first | refine VIf.tt ?_ | refine VIf.ff ?_)
      refine VFact.mk (fun _ => rfl) ?_
      repeat refine VFact.mk rfl ?_
      refine ⟨.v (.tuple #[]), _, ?_, hK⟩
      refine ⟨⟨fun i => if i = 3 then 9 else i, rfl, rfl, ?_, ?_, ?_⟩, rfl, rfl, rfl⟩
      · repeat' constructor
      · repeat' (first | exact el | exact ec.symm | exact el.symm | exact ec | constructor)
      · exact injOK_b rfl
  · have h1 := of_decide_eq_false h1
    repeat (first | refine VIf.tt ?_ | refine VIf.ff ?_)
    refine VFn.p (crossesC_fn _ _ M) ?_
    repeat (first | refine VIf.tt ?_ | refine VIf.ff ?_)
    refine VIf.mk (fun h2 => ?_) (fun h2 => ?_)
    · repeat (first | refine VIf.tt ?_ | refine VIf.ff ?_)
      refine VDraw.go (by kernel_rfl) ?_
      repeat (first | refine VIf.tt ?_ | refine VIf.ff ?_)
      refine VFn.mk _ (frameC_fn a b _ _ M ha hb bs bt h2) ?_
      rintro rs M' hM ⟨u, rfl, hu⟩
      obtain ⟨ud, uc, rfl⟩ := hu.shape
      repeat (first | refine VIf.tt ?_ | refine VIf.ff ?_)
      refine VSl.mk _ _ hu ?_
      have hk : keepAB A B C a b = [] ++ frameP a b (ovr A B C a) (ovr A B C b) := by unfold keepAB; rw [if_neg h1, if_pos h2]
      have el : (ks ++ keepAB A B C a b).length = ks.length + (frameP a b (ovr A B C a) (ovr A B C b)).length := by rw [hk]; simp; try omega
      have ec : cellsP (ks ++ keepAB A B C a b) = cellsP ks ++ cellsP (frameP a b (ovr A B C a) (ovr A B C b)) := by rw [hk]; simp [cellsP]
      repeat (first | refine VIf.tt ?_ | refine VIf.ff ?_)
      refine VFact.mk (by show (ks.length + 4) * 16 ≤ _; omega) ?_
      repeat (first | refine VIf.tt ?_ | refine VIf.ff ?_)
      repeat (first | refine VIf.tt ?_ | refine VIf.ff ?_)
      refine VFact.mk hM ?_
      repeat (first | refine VIf.tt ?_ | refine VIf.ff ?_)
      refine VFact.mk (fun _ => rfl) ?_
      repeat refine VFact.mk rfl ?_
      refine ⟨.v (.tuple #[]), _, ?_, hK⟩
      refine ⟨⟨fun i => if i = 3 then 8 else i, rfl, rfl, ?_, ?_, ?_⟩, rfl, rfl, rfl⟩
      · repeat' constructor
      · repeat' (first | exact el | exact ec.symm | exact el.symm | exact ec | constructor)
      · exact injOK_b rfl
    · have hk : keepAB A B C a b = [] := by unfold keepAB; rw [if_neg h1, if_neg (by rw [h2]; decide)]; simp
      have el : (ks ++ keepAB A B C a b).length = ks.length := by rw [hk]; simp
      have ec : cellsP (ks ++ keepAB A B C a b) = cellsP ks := by rw [hk]; simp [cellsP]
      repeat (first | refine VIf.tt ?_ | refine VIf.ff ?_)
      repeat (first | refine VIf.tt ?_ | refine VIf.ff ?_)
      refine VFact.mk (fun _ _ h => h) ?_
      repeat (first | refine VIf.tt ?_ | refine VIf.ff ?_)
      refine VFact.mk (fun _ => rfl) ?_
      repeat refine VFact.mk rfl ?_
      refine ⟨.v (.tuple #[]), _, ?_, hK⟩
      refine ⟨⟨fun i => if i = 3 then 3 else i, rfl, rfl, ?_, ?_, ?_⟩, rfl, rfl, rfl⟩
      · repeat' constructor
      · repeat' (first | exact el | exact ec.symm | exact el.symm | exact ec | constructor)
      · exact injOK_b rfl
end Go.Proofs.Ytlihojecopfgfaa

/- Contracts of package cut: corners, crossings. -/
namespace Go.Proofs.Ytlihojecopfgfaa
open Go Go.V Go.RowKit
theorem compareC_fn (ax ay bx by' : Int) (M : Mem) : V.Fn Try.prog 39 [pt ax ay, pt bx by'] M fun rs _ => rs = [.int .i64 (cmpP ax ay bx by')] := by
  refine Fn.of_vc cxOK Try.func39 rfl rfl rfl ?_
  repeat (first | refine VIf.tt ?_ | refine VIf.ff ?_)
  refine VDraw.go (by kernel_rfl) ?_
  repeat (first | refine VIf.tt ?_ | refine VIf.ff ?_)
  refine VFn.p (Compare_fn _ _ _) ?_
  repeat (first | refine VIf.tt ?_ | refine VIf.ff ?_)
  refine VFn.p (Compare_fn _ _ _) ?_
  repeat (first | refine VIf.tt ?_ | refine VIf.ff ?_)
  refine VFz.mk fun x B M' hle hx => ?_
  repeat (first | refine VIf.tt ?_ | refine VIf.ff ?_)
  refine VFn.p (Or_fn x [cmpI ax bx, cmpI ay by'] _ hx) ?_
  repeat (first | refine VIf.tt ?_ | refine VIf.ff ?_)
  refine VFact.mk ?_ trivial
  simp [orL, cmpP]
  by_cases h : cmpI ax bx = 0 <;> by_cases h' : cmpI ay by' = 0 <;> simp [h, h']
theorem filter_step (f : Pt → Bool) (ps : List Pt) {i : Nat} (h : i < ps.length) : (ps.take (i + 1)).filter f = (ps.take i).filter f ++ (if f (gp ps i) = true then [gp ps i] else []) := by
  have : ps[i]? = some (gp ps i) := by simp [gp, h]
  rw [List.take_add_one, List.filter_append, this]
  by_cases hf : f (gp ps i) = true
  · rw [if_pos hf]; simp [hf]
  · rw [if_neg hf]; simp [hf]
theorem Has_any {v : Value} {qs : List Pt} {x : Pt} {M : Mem} (hv : Pts M v qs) (hV : validB qs = true) (hx : placeB x = true) : V.Fn Try.prog 11 [v, ptv x] M fun rs _ => rs = [.bool (hasB qs x), .int .i64 0] :=
  hasB_is hv (mem_64 (valid_mem hV)) (place_64 hx) (hasE_is hV hx rfl)
set_option maxRecDepth 20000 in
set_option maxHeartbeats 2000000 in
theorem cornersC_fn (v w : Value) (ps qs : List Pt) (M : Mem) (hv : Pts M v ps) (hw : Pts M w qs) (hV : validB qs = true) (hP : ∀ x ∈ ps, placeB x = true) (hl : ps.length ≤ 100000) :
    V.Fn Try.prog 42 [v, w] M fun rs M' => ∃ u, rs = [u] ∧ Pts M' u (cornA ps qs) := by
  obtain ⟨ad, c, rfl⟩ := hv.shape
  obtain ⟨_, _, hrd⟩ := hv.cellsOf
  refine Fn.of_vc cxIOK Try.func42 rfl rfl rfl ?_
  repeat (first | refine VIf.tt ?_ | refine VIf.ff ?_)
  refine VCode.loop cxIOK (Nat × Mem)
    (fun s => ⟨[(1, .v w), (5, .row 0), (10, .v (.slice ad ps.length c)), (11, .v (.int .i64 ps.length)), (12, .v (.int .i64 s.1))], [(0, some (.row 26 2 ((ps.take s.1).filter (hasB qs)).length (cellsP ((ps.take s.1).filter (hasB qs)))))], 1, s.2, 29, ⟨fun _ => none, none, fun _ => none⟩⟩)
    (fun s => s.1 ≤ ps.length ∧ M.le s.2) (fun s => ps.length - s.1) (0, M) ⟨Nat.zero_le _, Mem.le_refl _⟩ ?_ ?_
  · exact Wk.nil 5 26 2 rfl (Wk.mk' id (by repeat' constructor) (by repeat' constructor) (injOK_id _) rfl rfl rfl)
  rintro ⟨i, M1⟩ ⟨hi, hM1⟩ m
  simp only at hi hM1
  repeat (first | refine VIf.tt ?_ | refine VIf.ff ?_)
  refine VIf.mk (fun hlt => ?_) (fun hge => ?_)
  rotate_left
  · have : i = ps.length := by have := of_decide_eq_false hge; simp only at this; omega
    subst this
    repeat (first | refine VIf.tt ?_ | refine VIf.ff ?_)
    refine VFz.mk fun u B M2 hM2 hu => ?_
    repeat (first | refine VIf.tt ?_ | refine VIf.ff ?_)
    refine VFact.mk ⟨u, rfl, ?_⟩ trivial
    have hu : Pts M2 u ((ps.take ps.length).filter (hasB qs)) := hu
    rw [List.take_length] at hu
    exact hu
  have hlt : i < ps.length := by have := of_decide_eq_true hlt; simp only at this; omega
  obtain ⟨ad', rfl, hp⟩ := hrd M1 hM1 i hlt
  have hst := filter_step (hasB qs) ps hlt
  have hfl : ((ps.take i).filter (hasB qs)).length ≤ ps.length := by
    have := List.length_filter_le (hasB qs) (ps.take i)
    rw [List.length_take] at this; omega
  repeat (first | refine VIf.tt ?_ | refine VIf.ff ?_)
  refine VIdx.mk ad' i rfl rfl hlt ?_
  repeat (first | refine VIf.tt ?_ | refine VIf.ff ?_)
  refine VReads.mk [.int .i64 (gp ps i).1, .int .i64 (gp ps i).2] rfl hp ?_
  repeat (first | refine VIf.tt ?_ | refine VIf.ff ?_)
  refine VOwn.frz ?_
  repeat (first | refine VIf.tt ?_ | refine VIf.ff ?_)
  refine VFn.mk _ (Has_any (x := gp ps i) (hw.le hM1) hV (hP _ (gp_mem hlt))) ?_
  rintro rs M2 hM2 rfl
  repeat (first | refine VIf.tt ?_ | refine VIf.ff ?_)
  refine VIf.mk (fun h => ?_) (fun h => ?_)
  · rw [if_pos h] at hst
    repeat (first | refine VIf.tt ?_ | refine VIf.ff ?_)
    refine VFact.mk (by show (((ps.take i).filter (hasB qs)).length + 1) * 16 ≤ _; omega) ?_
    repeat (first | refine VIf.tt ?_ | refine VIf.ff ?_)
    refine VArith.ok (by first | omega | (simp only; omega)) (by first | omega | (simp only; omega)) ?_
    refine ⟨(i + 1, M2), ⟨hlt, hM1.trans hM2⟩, by simp only; omega, Wk.mk' (fun k => if k = 0 then 3 else k) (by repeat' constructor) ⟨⟨rfl, ⟨rfl, rfl, ?_, ?_⟩⟩, trivial⟩ (by simp [injOK]) rfl rfl rfl⟩
    · show ((ps.take (i + 1)).filter (hasB qs)).length = _
      rw [hst]; simp
    · show cellsP ((ps.take (i + 1)).filter (hasB qs)) = _
      rw [hst]; simp [cellsP]
  · rw [if_neg (by rw [h]; decide), List.append_nil] at hst
    repeat (first | refine VIf.tt ?_ | refine VIf.ff ?_)
    refine VArith.ok (by first | omega | (simp only; omega)) (by first | omega | (simp only; omega)) ?_
    refine ⟨(i + 1, M2), ⟨hlt, hM1.trans hM2⟩, by simp only; omega, Wk.mk' id (by repeat' constructor) ⟨⟨rfl, ⟨rfl, rfl, ?_, ?_⟩⟩, trivial⟩ (injOK_id _) rfl rfl rfl⟩
    · exact congrArg List.length hst
    · exact congrArg cellsP hst
end Go.Proofs.Ytlihojecopfgfaa

/- Contract: cut.crossings, a loop over sides in a loop over sides. -/
namespace Go.Proofs.Ytlihojecopfgfaa
open Go Go.V Go.RowKit
theorem crossP_bd {a b c : Pt} (ha : placeB a = true) (hb : placeB b = true) (hc : placeB c = true) : -2000000000000 ≤ crossP a b c ∧ crossP a b c ≤ 2000000000000 := by
  have ha := place_C ha
  have hb := place_C hb
  have hc := place_C hc
  unfold isC at *
  have p1 := bd12 (a := b.1 - a.1) (b := c.2 - a.2) (by omega) (by omega) (by omega) (by omega)
  have p2 := bd12 (a := b.2 - a.2) (b := c.1 - a.1) (by omega) (by omega) (by omega) (by omega)
  unfold crossP cross
  omega
theorem turnP_fn (a b c : Pt) (M : Mem) (ha : placeB a = true) (hb : placeB b = true) (hc : placeB c = true) : FnP Try.prog 57 [ptv a, ptv b, ptv c] M [.int .i64 (crossP a b c)] :=
  turnC_fn a.1 a.2 b.1 b.2 c.1 c.2 M (place_C ha).1 (place_C ha).2 (place_C hb).1 (place_C hb).2 (place_C hc).1 (place_C hc).2
set_option maxRecDepth 20000 in
set_option maxHeartbeats 4000000 in
theorem crossings_fn (v w : Value) (ps qs : List Pt) (M : Mem) (hv : Pts M v ps) (hw : Pts M w qs) (hp : validB ps = true) (hq : validB qs = true) :
    V.Fn Try.prog 43 [v, w] M fun rs M' => ∃ u, rs = [u] ∧ Pts M' u (crosA ps qs) := by
  obtain ⟨ad, c, rfl⟩ := hv.shape
  obtain ⟨bd, bc, rfl⟩ := hw.shape
  have hqp := valid_mem hq
  have hpp := valid_mem hp
  refine Fn.of_vc cxIOK Try.func43 rfl rfl rfl ?_
  repeat (first | refine VIf.tt ?_ | refine VIf.ff ?_)
  refine VOwn.frz ?_
  repeat (first | refine VIf.tt ?_ | refine VIf.ff ?_)
  refine VFn.mk _ (sidesC_fn ad ps.length c M) ?_
  rintro rs M1 hM1 ⟨B1, rfl, hB1⟩
  repeat (first | refine VIf.tt ?_ | refine VIf.ff ?_)
  refine VCode.rangeB cxIOK rfl (sidesC_iter M1 B1 _ ps hB1 (hv.le hM1)) (fun x hx => ?_) [(3, .box 0 0), (5, .box 1 0)] rfl (by kernel_rfl) (by kernel_rfl) Mem
    (fun k M' => ⟨[(3, .box 0 0), (5, .box 1 0)], [(1, some (.box 22 [.row 2])), (2, some (.row 26 2 (crosX ps qs k).length (cellsP (crosX ps qs k)))), (0, some (.box 22 [.v (.slice bd qs.length bc)]))], 3, M', 50, ⟨fun _ => none, none, fun _ => none⟩⟩)
    (fun k M' => M1.le M' ∧ k ≤ ps.length) M1 ⟨Mem.le_refl _, Nat.zero_le _⟩ ?_ (fun k s => ⟨rfl, rfl⟩) ?_ ?_
  · simp only [sidesL, List.mem_map] at hx
    obtain ⟨k, _, rfl⟩ := hx
    rfl
  · exact Wk.nilBox 1 22 [] [] 26 2 rfl (Wk.mk' id (by repeat' constructor) (by repeat' constructor) (injOK_id _) rfl rfl rfl)
  · rintro k M2 args ⟨hM2, _⟩ hxs m f
    obtain ⟨hk, rfl⟩ := sidesL_get hxs
    intro m'
    have pa := hpp _ (gp_mem hk)
    have pb := hpp _ (nx_mem hk)
    repeat (first | refine VIf.tt ?_ | refine VIf.ff ?_)
    refine VOwn.frz ?_
    repeat (first | refine VIf.tt ?_ | refine VIf.ff ?_)
    refine VFn.mk _ (sidesC_fn bd qs.length bc M2) ?_
    rintro rs M3 hM3 ⟨B2, rfl, hB2⟩
    repeat (first | refine VIf.tt ?_ | refine VIf.ff ?_)
    refine VCode.rangeB cxIOK rfl (sidesC_iter M3 B2 _ qs hB2 (hw.le (hM1.trans (hM2.trans hM3)))) (fun x hx => ?_) [(3, .box 0 0), (5, .box 1 0), (6, .box 3 0), (7, .box 4 0)] rfl (by kernel_rfl) (by kernel_rfl) Mem
      (fun j M' => ⟨[(3, .box 0 0), (5, .box 1 0), (6, .box 3 0), (7, .box 4 0)], [(1, some (.box 22 [.row 2])), (2, some (.row 26 2 (crosX ps qs k ++ rowX ps qs k j).length (cellsP (crosX ps qs k ++ rowX ps qs k j)))), (0, some (.box 22 [.v (.slice bd qs.length bc)])), (3, some (.box 26 [.v (.int .i64 (gp ps k).1), .v (.int .i64 (gp ps k).2)])), (4, some (.box 26 [.v (.int .i64 (nx ps k).1), .v (.int .i64 (nx ps k).2)]))], 5, M', 50, ⟨fun _ => none, none, fun _ => none⟩⟩)
      (fun j M' => M3.le M' ∧ j ≤ qs.length) M3 ⟨Mem.le_refl _, Nat.zero_le _⟩ ?_ (fun k s => ⟨rfl, rfl⟩) ?_ ?_
    · simp only [sidesL, List.mem_map] at hx
      obtain ⟨k, _, rfl⟩ := hx
      rfl
    · have e : crosX ps qs k ++ rowX ps qs k 0 = crosX ps qs k := by unfold rowX; simp
      simp only [e]
      exact (Wk.mk' id (by repeat' constructor) (by repeat' constructor) (injOK_id _) rfl rfl rfl)
    · rintro j M4 args ⟨hM4, _⟩ hxs m2 f2
      obtain ⟨hj, rfl⟩ := sidesL_get hxs
      intro m2'
      have qa := hqp _ (gp_mem hj)
      have qb := hqp _ (nx_mem hj)
      repeat (first | refine VIf.tt ?_ | refine VIf.ff ?_)
      refine VDraw.go (by kernel_rfl) ?_
      repeat (first | refine VIf.tt ?_ | refine VIf.ff ?_)
      refine VFn.p (turnP_fn (gp ps k) (nx ps k) (gp qs j) M4 pa pb qa) ?_
      repeat (first | refine VIf.tt ?_ | refine VIf.ff ?_)
      refine VOwn.frz ?_
      repeat (first | refine VIf.tt ?_ | refine VIf.ff ?_)
      refine VFn.p (turnP_fn (gp ps k) (nx ps k) (nx qs j) M4 pa pb qb) ?_
      repeat (first | refine VIf.tt ?_ | refine VIf.ff ?_)
      refine VDraw.go (by kernel_rfl) ?_
      repeat (first | refine VIf.tt ?_ | refine VIf.ff ?_)
      refine VOwn.frz ?_
      repeat (first | refine VIf.tt ?_ | refine VIf.ff ?_)
      refine VFn.p (crossesC_fn _ _ M4) ?_
      have hfalse : crossIJ ps qs k j = false → crosX ps qs k ++ rowX ps qs k j = crosX ps qs k ++ rowX ps qs k (j + 1) := fun h => by
        rw [rowX_step]; unfold cellX; rw [if_neg (by rw [h]; decide), List.append_nil]
      have lenB : (crosX ps qs k ++ rowX ps qs k j).length ≤ 100000 := by
        have h1 := crosX_len ps qs (len_one hq).2 k
        have h2 := rowX_len ps qs k j
        have := (len_one hp).2
        have := (len_one hq).2
        rw [List.length_append]; omega
      repeat (first | refine VIf.tt ?_ | refine VIf.ff ?_)
      refine VIf.mk (fun c1 => ?_) (fun c1 => ?_)
      · repeat (first | refine VIf.tt ?_ | refine VIf.ff ?_)
        try refine VOwn.frz ?_
        repeat (first | refine VIf.tt ?_ | refine VIf.ff ?_)
        refine VFn.p (turnP_fn (gp qs j) (nx qs j) (gp ps k) M4 qa qb pa) ?_
        repeat (first | refine VIf.tt ?_ | refine VIf.ff ?_)
        try refine VOwn.frz ?_
        repeat (first | refine VIf.tt ?_ | refine VIf.ff ?_)
        refine VFn.p (turnP_fn (gp qs j) (nx qs j) (nx ps k) M4 qa qb pb) ?_
        repeat (first | refine VIf.tt ?_ | refine VIf.ff ?_)
        try refine VOwn.frz ?_
        repeat (first | refine VIf.tt ?_ | refine VIf.ff ?_)
        refine VFn.p (crossesC_fn _ _ M4) ?_
        repeat (first | refine VIf.tt ?_ | refine VIf.ff ?_)
        refine VIf.mk (fun c2 => ?_) (fun c2 => ?_)
        · have hc : crossIJ ps qs k j = true := by unfold crossIJ; rw [c1, c2]; rfl
          have er : crosX ps qs k ++ rowX ps qs k (j + 1) = (crosX ps qs k ++ rowX ps qs k j) ++ frameP (gp qs j) (nx qs j) (crossP (gp ps k) (nx ps k) (gp qs j)) (crossP (gp ps k) (nx ps k) (nx qs j)) := by
            rw [rowX_step]; unfold cellX; rw [if_pos hc, List.append_assoc]
          repeat (first | refine VIf.tt ?_ | refine VIf.ff ?_)
          refine VDraw.go (by kernel_rfl) ?_
          repeat (first | refine VIf.tt ?_ | refine VIf.ff ?_)
          refine VFn.mk _ (frameC_fn (gp qs j) (nx qs j) _ _ M4 qa qb (crossP_bd pa pb qa) (crossP_bd pa pb qb) c1) ?_
          rintro rs M5 hM5 ⟨u, rfl, hu⟩
          obtain ⟨ud, uc, rfl⟩ := hu.shape
          repeat (first | refine VIf.tt ?_ | refine VIf.ff ?_)
          refine VSl.mk _ _ hu ?_
          repeat (first | refine VIf.tt ?_ | refine VIf.ff ?_)
          refine VFact.mk (by show ((crosX ps qs k ++ rowX ps qs k j).length + 4) * 16 ≤ _; omega) ?_
          repeat (first | refine VIf.tt ?_ | refine VIf.ff ?_)
          refine ⟨M5, ⟨hM4.trans hM5, hj⟩, Wk.mk' (fun i => if i = 2 then 7 else i) (by repeat' constructor) ⟨⟨rfl, by repeat' constructor⟩, ⟨rfl, ⟨rfl, rfl, ?_, ?_⟩⟩, ⟨rfl, by repeat' constructor⟩, ⟨rfl, by repeat' constructor⟩, ⟨rfl, by repeat' constructor⟩, trivial⟩ (by simp [injOK]) rfl rfl rfl⟩
          · rw [er, List.length_append]
          · rw [er]; simp [cellsP]
        · have hc := hfalse (by unfold crossIJ; rw [c2, Bool.and_false])
          repeat (first | refine VIf.tt ?_ | refine VIf.ff ?_)
          refine ⟨M4, ⟨hM4, hj⟩, Wk.mk' id (by repeat' constructor) ⟨⟨rfl, by repeat' constructor⟩, ⟨rfl, ⟨rfl, rfl, ?_, ?_⟩⟩, ⟨rfl, by repeat' constructor⟩, ⟨rfl, by repeat' constructor⟩, ⟨rfl, by repeat' constructor⟩, trivial⟩ (injOK_id _) rfl rfl rfl⟩
          · exact congrArg List.length hc.symm
          · exact congrArg cellsP hc.symm
      · have hc := hfalse (by unfold crossIJ; rw [c1, Bool.false_and])
        repeat (first | refine VIf.tt ?_ | refine VIf.ff ?_)
        refine ⟨M4, ⟨hM4, hj⟩, Wk.mk' id (by repeat' constructor) ⟨⟨rfl, by repeat' constructor⟩, ⟨rfl, ⟨rfl, rfl, ?_, ?_⟩⟩, ⟨rfl, by repeat' constructor⟩, ⟨rfl, by repeat' constructor⟩, ⟨rfl, by repeat' constructor⟩, trivial⟩ (injOK_id _) rfl rfl rfl⟩
        · exact congrArg List.length hc.symm
        · exact congrArg cellsP hc.symm
    · rintro M4 m2 ⟨hM4, _⟩
      have er : crosX ps qs k ++ rowX ps qs k (sidesL qs).length = crosX ps qs (k + 1) := by rw [crosX_step, show (sidesL qs).length = qs.length by simp [sidesL]]
      refine ⟨M4, ⟨hM2.trans (hM3.trans hM4), hk⟩, Wk.mk' id (by repeat' constructor) (by repeat' (first | exact congrArg List.length er.symm | exact congrArg cellsP er.symm | exact congrArg List.length er | exact congrArg cellsP er | constructor)) (injOK_id _) rfl rfl rfl⟩
  · rintro M2 m ⟨hM2, _⟩
    have er : crosX ps qs (sidesL ps).length = crosA ps qs := by unfold crosA; rw [show (sidesL ps).length = ps.length by simp [sidesL]]
    repeat (first | refine VIf.tt ?_ | refine VIf.ff ?_)
    refine VFz.mk fun u B M3 hM3 hu => ?_
    have hu : Pts M3 u (crosX ps qs (sidesL ps).length) := hu
    rw [er] at hu
    repeat (first | refine VIf.tt ?_ | refine VIf.ff ?_)
    exact VFact.mk ⟨u, rfl, hu⟩ trivial
end Go.Proofs.Ytlihojecopfgfaa

/- Contracts of package cut: Cut. -/
namespace Go.Proofs.Ytlihojecopfgfaa
open Go Go.V Go.RowKit
theorem keepAB_is (p : List Pt) (A B C : Int) (i : Nat) : keepAB A B C (gp p i) (nx p i) = keepL p A B C i := rfl
set_option maxRecDepth 20000 in
set_option maxHeartbeats 4000000 in
theorem Cut_fn (v : Value) (ps : List Pt) (A B C : Int) (M : Mem) (hv : Pts M v ps) (h64 : i64P ps) :
    V.Fn Try.prog 12 [v, .agg #[.int .i64 A, .int .i64 B, .int .i64 C]] M fun rs M' => if (validB ps && halfB A B C) = true then ∃ u, rs = [u, .bool (decide (0 < (cutA ps A B C).length)), .int .i64 0] ∧ Pts M' u (arC (cutA ps A B C)) else rs = [.slice none 0 0, .bool false, .int .i64 1] := by
  obtain ⟨ad, c, rfl⟩ := hv.shape
  refine Fn.of_vc cxIOK Try.func12 rfl rfl rfl ?_
  repeat (first | refine VIf.tt ?_ | refine VIf.ff ?_)
  refine VOwn.frz ?_
  repeat (first | refine VIf.tt ?_ | refine VIf.ff ?_)
  refine VFn.mk _ (Valid_fn _ ps M hv h64) ?_
  rintro rs M1 hM1 rfl
  repeat (first | refine VIf.tt ?_ | refine VIf.ff ?_)
  refine VIf.mk (fun h => ?_) (fun h => ?_)
  · repeat (first | refine VIf.tt ?_ | refine VIf.ff ?_)
    refine VFact.mk ?_ trivial
    rw [(Bool.not_eq_true' _).mp h]; rfl
  have hV := (Bool.not_eq_false' _).mp h
  repeat (first | refine VIf.tt ?_ | refine VIf.ff ?_)
  refine VOwn.frz ?_
  repeat (first | refine VIf.tt ?_ | refine VIf.ff ?_)
  refine VFn.p (halfValid_fn A B C M1) ?_
  repeat (first | refine VIf.tt ?_ | refine VIf.ff ?_)
  refine VIf.mk (fun h => ?_) (fun h => ?_)
  · repeat (first | refine VIf.tt ?_ | refine VIf.ff ?_)
    refine VFact.mk ?_ trivial
    rw [(Bool.not_eq_true' _).mp h, Bool.and_false]; rfl
  have hH := (Bool.not_eq_false' _).mp h
  rw [hV, hH]
  have hpp := valid_mem hV
  repeat (first | refine VIf.tt ?_ | refine VIf.ff ?_)
  refine VOwn.frz ?_
  repeat (first | refine VIf.tt ?_ | refine VIf.ff ?_)
  refine VFn.mk _ (sidesC_fn ad ps.length c M1) ?_
  rintro rs M2 hM2 ⟨B1, rfl, hB1⟩
  repeat (first | refine VIf.tt ?_ | refine VIf.ff ?_)
  refine VCode.rangeB cxIOK rfl (sidesC_iter M2 B1 _ ps hB1 (hv.le (hM1.trans hM2))) (fun x hx => ?_) [(8, .box 1 0), (9, .box 2 0)] rfl (by kernel_rfl) (by kernel_rfl) Unit
    (fun k _ => ⟨[(8, .box 1 0), (9, .box 2 0)], [(1, some (.box 22 [.row 3])), (3, some (.row 26 2 (cutL ps A B C k).length (cellsP (cutL ps A B C k)))), (0, some (.box 56 [.v (.int .i64 A), .v (.int .i64 B), .v (.int .i64 C)])), (2, some (.box 60 [.clo 29 [] [.box 0 0, .box 1 0]]))], 4, M2, 40, ⟨fun _ => none, none, fun _ => none⟩⟩)
    (fun k _ => k ≤ ps.length) () (Nat.zero_le _) ?_ (fun k s => ⟨rfl, rfl⟩) ?_ ?_
  · simp only [sidesL, List.mem_map] at hx
    obtain ⟨k, _, rfl⟩ := hx
    rfl
  · refine Wk.nilBox 2 22 [] [] 26 2 rfl ?_
    refine Wk.mk' (fun i => i + 1) (by repeat' constructor) (by repeat' constructor) (by simp [injOK]) rfl rfl rfl
  · rintro k _ args hk hxs m f
    obtain ⟨hk, rfl⟩ := sidesL_get hxs
    intro m'
    have pa := hpp _ (gp_mem hk)
    have pb : placeB (nx ps k) = true := hpp _ (nx_mem hk)
    have hlen := cutL_len ps A B C k
    have hl64 := (len_one hV).2
    repeat (first | refine VIf.tt ?_ | refine VIf.ff ?_)
    refine VOwn.own ?_
    refine VCall.wk (st1 := ⟨[(8, .box 1 0), (9, .box 2 0)], [(1, some (.box 22 [.row 3])), (3, some (.row 26 2 (cutL ps A B C k).length (cellsP (cutL ps A B C k)))), (0, some (.box 56 [.v (.int .i64 A), .v (.int .i64 B), .v (.int .i64 C)])), (2, some (.box 60 [.clo 29 [] [.box 0 0, .box 1 0]]))], 4, M2, 40, ⟨m', none, f⟩⟩) (args1 := [.v (ptv (gp ps k)), .v (ptv (nx ps k)), .box 0 0, .box 1 0]) id rfl rfl (by repeat' constructor) (by repeat' constructor) (injOK_id _) rfl rfl rfl ?_
    refine Keep_call (by omega) hH pa pb ?_
    have e : cutL ps A B C k ++ keepAB A B C (gp ps k) (nx ps k) = cutL ps A B C (k + 1) := (cutL_step ps A B C k).symm
    refine ⟨(), hk, Wk.mk' id (by repeat' constructor) ⟨⟨rfl, by repeat' constructor⟩, ⟨rfl, ⟨rfl, rfl, ?_, ?_⟩⟩, ⟨rfl, by repeat' constructor⟩, ⟨rfl, by repeat' constructor⟩, trivial⟩ (injOK_id _) rfl rfl rfl⟩
    · rw [e]
    · rw [e]
  · rintro _ m _
    have er : cutL ps A B C (sidesL ps).length = cutA ps A B C := by unfold cutA; rw [show (sidesL ps).length = ps.length by simp [sidesL]]
    repeat (first | refine VIf.tt ?_ | refine VIf.ff ?_)
    refine VOwn.frz ?_
    repeat (first | refine VIf.tt ?_ | refine VIf.ff ?_)
    refine VFz.mk fun x Bx M3 hM3 hx => ?_
    have hx : Pts M3 x (cutL ps A B C (sidesL ps).length) := hx
    rw [er] at hx
    repeat (first | refine VIf.tt ?_ | refine VIf.ff ?_)
    refine VFn.mk _ (aroundC_fn x _ M3 hx (cut_place hV A B C)) ?_
    rintro rs M4 hM4 ⟨u, rfl, hu⟩
    repeat (first | refine VIf.tt ?_ | refine VIf.ff ?_)
    exact VFact.mk ⟨u, rfl, hu⟩ trivial
end Go.Proofs.Ytlihojecopfgfaa

/- Contracts of package cut: what polygons share; Meet, Apart, Within, In. -/
namespace Go.Proofs.Ytlihojecopfgfaa
open Go Go.V Go.RowKit
theorem three_reg {M : Mem} {x u v w : Value} {ps qs rs : List Pt} (h : SlAt M 1 x 3 [u, v, w]) (hu : Pts M u ps) (hv : Pts M v qs) (hw : Pts M w rs) (iu : i64P ps) (iv : i64P qs) (iw : i64P rs) : RegV M x [ps, qs, rs] :=
  ⟨[[u], [v], [w]], rfl, by simp, h, fun i y r hy hr => by
    rcases i with _ | _ | _ | i
    · simp at hy hr; subst hy; subst hr; exact ⟨u, rfl, hu, iu⟩
    · simp at hy hr; subst hy; subst hr; exact ⟨v, rfl, hv, iv⟩
    · simp at hy hr; subst hy; subst hr; exact ⟨w, rfl, hw, iw⟩
    · simp at hy⟩
theorem concatC_enters : Enters Try.prog 55 := Go.Proofs.enters_of Try.func55 rfl rfl
theorem FnRow.mono' {P : Program} {f : Nat} {args : List Value} {M : Mem} {E sz : Nat} {R R' : Nat → List Value → Mem → Prop} (h : FnRow P f args M E sz R) (hr : ∀ n xs M', R n xs M' → R' n xs M') : FnRow P f args M E sz R' :=
  ⟨h.1, fun W hW => (h.2 W hW).mono fun _ _ ⟨v, n, xs, M', k0, k1, k2, k3, k4, k5, k6, k7, k8⟩ => ⟨v, n, xs, M', k0, k1, k2, k3, k4, k5, k6, k7, hr _ _ _ k8⟩⟩
open Go.Shelf in
theorem GrowNil_fn (M : Mem) : FnP Try.prog 63 [.slice none 0 0, .int .i64 0] M [.slice none 0 0] :=
  ⟨enters_of Try.func63 (by kernel_rfl) rfl, fun W hW => (Any8.slices_Grow_room grLay none 0 0 0 W (Nat.le_refl _) (by omega) (by omega) (Nat.le_refl _)).mono fun e W' ⟨h1, h2⟩ =>
    ⟨[.slice none 0 0], M, h1, by rw [h2]; exact Below.refl _ _, Mem.le_refl _, by rw [h2]; exact hW, fun _ _ => rfl, rfl, rfl⟩⟩
set_option maxRecDepth 20000 in
set_option maxHeartbeats 2000000 in
theorem Concat0_fn (v : Value) (ls : List (List Pt)) (M : Mem) (hv : RegV M v ls) (h0 : ls.flatten = []) :
    V.Fn Try.prog 55 [v] M fun rs M' => ∃ u, rs = [u] ∧ Pts M' u [] := by
  obtain ⟨ad, c, rfl, hm, hrd⟩ := hv.get
  have hgd : ∀ i, i < ls.length → ls.getD i [] = [] := fun i hi => by
    have hm : ls.getD i [] ∈ ls := by simp [List.getD_eq_getElem?_getD, List.getElem?_eq_getElem hi]
    exact List.flatten_eq_nil_iff.1 h0 _ hm
  refine Fn.of_vc cxOK Try.func55 rfl rfl rfl ?_
  repeat (first | refine VIf.tt ?_ | refine VIf.ff ?_)
  refine VCode.loop cxOK Nat (fun i => ⟨[(0, .v (.slice ad ls.length c)), (3, .v (.int .i64 0)), (9, .v (.slice ad ls.length c)), (10, .v (.int .i64 ls.length)), (11, .v (.int .i64 i))], [], 0, M, 36, ⟨fun _ => none, none, fun _ => none⟩⟩)
    (fun i => i ≤ ls.length) (fun i => ls.length - i) 0 (Nat.zero_le _) (Wk.mk' id (by repeat' constructor) (by repeat' constructor) (injOK_id _) rfl rfl rfl) ?_
  intro i hi m
  repeat (first | refine VIf.tt ?_ | refine VIf.ff ?_)
  refine VIf.mk (fun hlt => ?_) (fun hge => ?_)
  · have hlt : i < ls.length := lt_of_dec hlt
    obtain ⟨ad', w, ead, hw, hw64, hc⟩ := hrd M (Mem.le_refl _) i hlt
    obtain ⟨wd, wc, rfl⟩ := hw.shape
    have hg := hgd i hlt
    have hg' : (ls.getD i []).length = 0 := by rw [hg]; rfl
    repeat (first | refine VIf.tt ?_ | refine VIf.ff ?_)
    refine VIdx.mk ad' i ead rfl hlt ?_
    repeat (first | refine VIf.tt ?_ | refine VIf.ff ?_)
    refine VRead.mk _ hc ?_
    repeat (first | refine VIf.tt ?_ | refine VIf.ff ?_)
    refine VArith.ok (by simp only [hg']; omega) (by simp only [hg']; omega) ?_
    repeat (first | refine VIf.tt ?_ | refine VIf.ff ?_)
    refine VArith.ok (by first | omega | (simp only; omega)) (by first | omega | (simp only; omega)) ?_
    have ez : (0 : Int) + (((ls.getD i []).length : Nat) : Int) = 0 := by rw [hg']; rfl
    refine ⟨i + 1, hlt, by omega, ?_⟩
    refine Wk.mk' id ⟨⟨rfl, rfl⟩, ⟨?_, rfl⟩, ⟨rfl, rfl⟩, ⟨rfl, rfl⟩, ⟨rfl, rfl⟩, trivial⟩ trivial (injOK_id _) rfl rfl rfl
    exact congrArg (fun n => some (SV.v (.int .i64 n))) ez
  have : i = ls.length := by have := ge_of_dec hge; omega
  subst this
  repeat (first | refine VIf.tt ?_ | refine VIf.ff ?_)
  refine VFn.p (GrowNil_fn M) ?_
  repeat (first | refine VIf.tt ?_ | refine VIf.ff ?_)
  refine VCode.loop cxOK Nat (fun i => ⟨[(0, .v (.slice ad ls.length c)), (6, .row 0), (25, .v (.slice ad ls.length c)), (26, .v (.int .i64 ls.length)), (27, .v (.int .i64 i))], [(0, some (.row 26 2 0 []))], 1, M, 36, ⟨fun _ => none, none, fun _ => none⟩⟩)
    (fun i => i ≤ ls.length) (fun i => ls.length - i) 0 (Nat.zero_le _) ?_ ?_
  · exact Wk.nil 6 26 2 rfl (Wk.mk' id (by repeat' constructor) (by repeat' constructor) (injOK_id _) rfl rfl rfl)
  intro i hi m
  repeat (first | refine VIf.tt ?_ | refine VIf.ff ?_)
  refine VIf.mk (fun hlt => ?_) (fun hge => ?_)
  · have hlt : i < ls.length := lt_of_dec hlt
    obtain ⟨ad', w, ead, hw, hw64, hc⟩ := hrd M (Mem.le_refl _) i hlt
    obtain ⟨wd, wc, rfl⟩ := hw.shape
    have hg := hgd i hlt
    have hg' : (ls.getD i []).length = 0 := by rw [hg]; rfl
    repeat (first | refine VIf.tt ?_ | refine VIf.ff ?_)
    refine VIdx.mk ad' i ead rfl hlt ?_
    repeat (first | refine VIf.tt ?_ | refine VIf.ff ?_)
    refine VRead.mk _ hc ?_
    repeat (first | refine VIf.tt ?_ | refine VIf.ff ?_)
    refine VSl.mk (ls.getD i []).length (cellsP (ls.getD i [])) hw ?_
    repeat (first | refine VIf.tt ?_ | refine VIf.ff ?_)
    refine VFact.mk (by show (0 + (ls.getD i []).length) * 16 ≤ _; omega) ?_
    repeat (first | refine VIf.tt ?_ | refine VIf.ff ?_)
    refine VArith.ok (by first | omega | (simp only; omega)) (by first | omega | (simp only; omega)) ?_
    refine ⟨i + 1, hlt, (by first | omega | (simp only; omega)), Wk.mk' (fun k => if k = 0 then 1 else k) (by repeat' constructor) ⟨⟨rfl, ⟨rfl, rfl, ?_, ?_⟩⟩, trivial⟩ (by simp [injOK]) rfl rfl rfl⟩
    · rw [hg']
    · rw [hg]; rfl
  · repeat (first | refine VIf.tt ?_ | refine VIf.ff ?_)
    refine VFz.mk fun u B M1 hM1 hu => ?_
    repeat (first | refine VIf.tt ?_ | refine VIf.ff ?_)
    exact VFact.mk ⟨u, rfl, hu⟩ trivial
set_option maxRecDepth 20000 in
set_option maxHeartbeats 2000000 in
theorem shared_fn (v w : Value) (ps qs : List Pt) (M : Mem) (hv : Pts M v ps) (hw : Pts M w qs) (hp : validB ps = true) (hq : validB qs = true) :
    V.Fn Try.prog 35 [v, w] M fun rs M' => ∃ u, rs = [u] ∧ Pts M' u (sharA ps qs) := by
  have hlp := (len_one hp).2
  have hlq := (len_one hq).2
  have hpp := valid_mem hp
  have hqq := valid_mem hq
  refine Fn.of_vc cxIOK Try.func35 rfl rfl rfl ?_
  repeat (first | refine VIf.tt ?_ | refine VIf.ff ?_)
  refine VOwn.frz ?_
  repeat (first | refine VIf.tt ?_ | refine VIf.ff ?_)
  refine VFn.mk _ (cornersC_fn v w ps qs M hv hw hq hpp (by omega)) ?_
  rintro rs M1 hM1 ⟨u1, rfl, h1⟩
  repeat (first | refine VIf.tt ?_ | refine VIf.ff ?_)
  refine VOwn.frz ?_
  repeat (first | refine VIf.tt ?_ | refine VIf.ff ?_)
  refine VFn.mk _ (cornersC_fn w v qs ps M1 (hw.le hM1) (hv.le hM1) hp hqq (by omega)) ?_
  rintro rs M2 hM2 ⟨u2, rfl, h2⟩
  repeat (first | refine VIf.tt ?_ | refine VIf.ff ?_)
  refine VOwn.frz ?_
  repeat (first | refine VIf.tt ?_ | refine VIf.ff ?_)
  refine VFn.mk _ (crossings_fn v w ps qs M2 (hv.le (hM1.trans hM2)) (hw.le (hM1.trans hM2)) hp hq) ?_
  rintro rs M3 hM3 ⟨u3, rfl, h3⟩
  obtain ⟨d1, k1, rfl⟩ := h1.shape
  obtain ⟨d2, k2, rfl⟩ := h2.shape
  obtain ⟨d3, k3, rfl⟩ := h3.shape
  have i1 : i64P (cornA ps qs) := mem_64 fun x hx => hpp x (mem_cornA.1 hx).1
  have i2 : i64P (cornA qs ps) := mem_64 fun x hx => hqq x (mem_cornA.1 hx).1
  have i3 : i64P (crosA ps qs) := mem_64 fun x hx => shar_place hp x (mem_sharA.2 (.inr (.inr hx)))
  have efl : [cornA ps qs, cornA qs ps, crosA ps qs].flatten = sharA ps qs := by unfold sharA; simp
  have hlen : (sharA ps qs).length ≤ 100000 := by
    have h1 := List.length_filter_le (hasB qs) ps
    have h2 := List.length_filter_le (hasB ps) qs
    have h3 := crosX_len ps qs hlq ps.length
    unfold sharA cornA crosA
    simp only [List.length_append]
    omega
  by_cases hE : sharA ps qs = []
  · repeat (first | refine VIf.tt ?_ | refine VIf.ff ?_)
    refine VOwn.frz ?_
    repeat (first | refine VIf.tt ?_ | refine VIf.ff ?_)
    refine VFz.mk fun x Bx M4 hM4 hx => ?_
    repeat (first | refine VIf.tt ?_ | refine VIf.ff ?_)
    refine VFn.mk _ (Concat0_fn x _ M4 (three_reg hx (h1.le (hM2.trans (hM3.trans hM4))) (h2.le (hM3.trans hM4)) (h3.le hM4) i1 i2 i3) (by rw [efl]; exact hE)) ?_
    rintro rs M5 hM5 ⟨u, rfl, hu⟩
    repeat (first | refine VIf.tt ?_ | refine VIf.ff ?_)
    exact VFact.mk ⟨u, rfl, by rw [hE]; exact hu⟩ trivial
  · have hpos := ne_len hE
    repeat (first | refine VIf.tt ?_ | refine VIf.ff ?_)
    refine VOwn.own ?_
    refine VCall.ofRow1 rfl concatC_enters (R := fun n xs _ => n = (sharA ps qs).length ∧ xs = cellsP (sharA ps qs)) (fun x M4 hM4 hx => FnRow.mono' (Concat_fn x _ M4 (three_reg hx (h1.le (hM2.trans (hM3.trans hM4))) (h2.le (hM3.trans hM4)) (h3.le hM4) i1 i2 i3) (by rw [efl]; omega) (by rw [efl]; omega)) fun k xs M' h => ?_) ?_
    · rw [efl] at h; exact ⟨h.1, h.2.1⟩
    rintro k xs M4 hM4 ⟨rfl, rfl⟩
    repeat (first | refine VIf.tt ?_ | refine VIf.ff ?_)
    refine VFz.mk fun u B M5 hM5 hu => ?_
    repeat (first | refine VIf.tt ?_ | refine VIf.ff ?_)
    exact VFact.mk ⟨u, rfl, hu⟩ trivial
theorem Meet_fn (v w : Value) (ps qs : List Pt) (M : Mem) (hv : Pts M v ps) (hw : Pts M w qs) (hp64 : i64P ps) (hq64 : i64P qs) :
    V.Fn Try.prog 14 [v, w] M fun rs M' => if (validB ps && validB qs) = true then ∃ u, rs = [u, .bool (decide (0 < (sharA ps qs).length)), .int .i64 0] ∧ Pts M' u (arC (sharA ps qs)) else rs = [.slice none 0 0, .bool false, .int .i64 1] := by
  refine Fn.of_vc cxOK Try.func14 rfl rfl rfl ?_
  repeat (first | refine VIf.tt ?_ | refine VIf.ff ?_)
  refine VFn.mk _ (Valid_fn v ps M hv hp64) ?_
  rintro rs M1 hM1 rfl
  repeat (first | refine VIf.tt ?_ | refine VIf.ff ?_)
  refine VIf.mk (fun h => ?_) (fun h => ?_)
  · repeat (first | refine VIf.tt ?_ | refine VIf.ff ?_)
    refine VFact.mk ?_ trivial
    rw [(Bool.not_eq_true' _).mp h]; rfl
  have hp := (Bool.not_eq_false' _).mp h
  repeat (first | refine VIf.tt ?_ | refine VIf.ff ?_)
  refine VFn.mk _ (Valid_fn w qs M1 (hw.le hM1) hq64) ?_
  rintro rs M2 hM2 rfl
  repeat (first | refine VIf.tt ?_ | refine VIf.ff ?_)
  refine VIf.mk (fun h => ?_) (fun h => ?_)
  · repeat (first | refine VIf.tt ?_ | refine VIf.ff ?_)
    refine VFact.mk ?_ trivial
    rw [(Bool.not_eq_true' _).mp h, Bool.and_false]; rfl
  have hq := (Bool.not_eq_false' _).mp h
  rw [hp, hq]
  have m2 := hM1.trans hM2
  repeat (first | refine VIf.tt ?_ | refine VIf.ff ?_)
  refine VFn.mk _ (shared_fn v w ps qs M2 (hv.le m2) (hw.le m2) hp hq) ?_
  rintro rs M3 hM3 ⟨u, rfl, hu⟩
  repeat (first | refine VIf.tt ?_ | refine VIf.ff ?_)
  refine VFn.mk _ (aroundC_fn u _ M3 hu (shar_place hp)) ?_
  rintro rs M4 hM4 ⟨x, rfl, hx⟩
  repeat (first | refine VIf.tt ?_ | refine VIf.ff ?_)
  exact VFact.mk ⟨x, rfl, hx⟩ trivial
theorem Apart_fn (v w : Value) (ps qs : List Pt) (M : Mem) (hv : Pts M v ps) (hw : Pts M w qs) (hp64 : i64P ps) (hq64 : i64P qs) :
    V.Fn Try.prog 18 [v, w] M fun rs _ => if (validB ps && validB qs) = true then rs = [.bool (((sharA ps qs).length : Int) == 0), .int .i64 0] else rs = [.bool false, .int .i64 1] := by
  refine Fn.of_vc cxOK Try.func18 rfl rfl rfl ?_
  repeat (first | refine VIf.tt ?_ | refine VIf.ff ?_)
  refine VFn.mk _ (Valid_fn v ps M hv hp64) ?_
  rintro rs M1 hM1 rfl
  repeat (first | refine VIf.tt ?_ | refine VIf.ff ?_)
  refine VIf.mk (fun h => ?_) (fun h => ?_)
  · repeat (first | refine VIf.tt ?_ | refine VIf.ff ?_)
    refine VFact.mk ?_ trivial
    rw [(Bool.not_eq_true' _).mp h]; rfl
  have hp := (Bool.not_eq_false' _).mp h
  repeat (first | refine VIf.tt ?_ | refine VIf.ff ?_)
  refine VFn.mk _ (Valid_fn w qs M1 (hw.le hM1) hq64) ?_
  rintro rs M2 hM2 rfl
  repeat (first | refine VIf.tt ?_ | refine VIf.ff ?_)
  refine VIf.mk (fun h => ?_) (fun h => ?_)
  · repeat (first | refine VIf.tt ?_ | refine VIf.ff ?_)
    refine VFact.mk ?_ trivial
    rw [(Bool.not_eq_true' _).mp h, Bool.and_false]; rfl
  have hq := (Bool.not_eq_false' _).mp h
  rw [hp, hq]
  have m2 := hM1.trans hM2
  repeat (first | refine VIf.tt ?_ | refine VIf.ff ?_)
  refine VFn.mk _ (shared_fn v w ps qs M2 (hv.le m2) (hw.le m2) hp hq) ?_
  rintro rs M3 hM3 ⟨u, rfl, hu⟩
  obtain ⟨d, k, rfl⟩ := hu.shape
  repeat (first | refine VIf.tt ?_ | refine VIf.ff ?_)
  exact VFact.mk rfl trivial
theorem WithinC_fn (v w : Value) (ps qs : List Pt) (M : Mem) (hv : Pts M v ps) (hw : Pts M w qs) (hp64 : i64P ps) (hq64 : i64P qs) :
    V.Fn Try.prog 19 [v, w] M fun rs _ => if (validB ps && validB qs) = true then rs = [.bool (((cornA ps qs).length : Int) == (ps.length : Int)), .int .i64 0] else rs = [.bool false, .int .i64 1] := by
  obtain ⟨pd, pk, rfl⟩ := hv.shape
  refine Fn.of_vc cxOK Try.func19 rfl rfl rfl ?_
  have hl : validB ps = true → ps.length ≤ 100000 := fun h => by have := (len_one h).2; omega
  obtain ⟨v, hve⟩ : ∃ v, v = Value.slice pd ps.length pk := ⟨_, rfl⟩
  have hv : Pts M v ps := by rw [hve]; exact hv
  rw [← hve]
  repeat (first | refine VIf.tt ?_ | refine VIf.ff ?_)
  refine VFn.mk _ (Valid_fn v ps M hv hp64) ?_
  rintro rs M1 hM1 rfl
  repeat (first | refine VIf.tt ?_ | refine VIf.ff ?_)
  refine VIf.mk (fun h => ?_) (fun h => ?_)
  · repeat (first | refine VIf.tt ?_ | refine VIf.ff ?_)
    refine VFact.mk ?_ trivial
    rw [(Bool.not_eq_true' _).mp h]; rfl
  have hp := (Bool.not_eq_false' _).mp h
  repeat (first | refine VIf.tt ?_ | refine VIf.ff ?_)
  refine VFn.mk _ (Valid_fn w qs M1 (hw.le hM1) hq64) ?_
  rintro rs M2 hM2 rfl
  repeat (first | refine VIf.tt ?_ | refine VIf.ff ?_)
  refine VIf.mk (fun h => ?_) (fun h => ?_)
  · repeat (first | refine VIf.tt ?_ | refine VIf.ff ?_)
    refine VFact.mk ?_ trivial
    rw [(Bool.not_eq_true' _).mp h, Bool.and_false]; rfl
  have hq := (Bool.not_eq_false' _).mp h
  rw [hp, hq]
  have m2 := hM1.trans hM2
  repeat (first | refine VIf.tt ?_ | refine VIf.ff ?_)
  refine VFn.mk _ (cornersC_fn v w ps qs M2 (hv.le m2) (hw.le m2) hq (valid_mem hp) (hl hp)) ?_
  rintro rs M3 hM3 ⟨u, rfl, hu⟩
  obtain ⟨d, k, rfl⟩ := hu.shape
  rw [hve]
  repeat (first | refine VIf.tt ?_ | refine VIf.ff ?_)
  exact VFact.mk rfl trivial
theorem In_fn (A B C : Int) (x : Pt) (M : Mem) : V.Fn Try.prog 22 [.agg #[.int .i64 A, .int .i64 B, .int .i64 C], ptv x] M fun rs _ => rs = if (halfB A B C && placeB x) = true then [.bool (decide (ovr A B C x ≤ 0)), .int .i64 0] else [.bool false, .int .i64 1] := by
  refine Fn.of_vc cxOK Try.func22 rfl rfl rfl ?_
  repeat (first | refine VIf.tt ?_ | refine VIf.ff ?_)
  refine VFn.p (halfValid_fn A B C M) ?_
  repeat (first | refine VIf.tt ?_ | refine VIf.ff ?_)
  refine VIf.mk (fun h => ?_) (fun h => ?_)
  · repeat (first | refine VIf.tt ?_ | refine VIf.ff ?_)
    refine VFact.mk ?_ trivial
    rw [(Bool.not_eq_true' _).mp h]; rfl
  have hH := (Bool.not_eq_false' _).mp h
  repeat (first | refine VIf.tt ?_ | refine VIf.ff ?_)
  refine VFn.p (placeC_fn x M) ?_
  repeat (first | refine VIf.tt ?_ | refine VIf.ff ?_)
  refine VIf.mk (fun h => ?_) (fun h => ?_)
  · repeat (first | refine VIf.tt ?_ | refine VIf.ff ?_)
    refine VFact.mk ?_ trivial
    rw [(Bool.not_eq_true' _).mp h, Bool.and_false]; rfl
  have hx := (Bool.not_eq_false' _).mp h
  repeat (first | refine VIf.tt ?_ | refine VIf.ff ?_)
  refine VFn.p (over_fn A B C x M hH hx) ?_
  repeat (first | refine VIf.tt ?_ | refine VIf.ff ?_)
  refine VFact.mk ?_ trivial
  rw [hH, hx]; rfl
end Go.Proofs.Ytlihojecopfgfaa
