import Derived.Test.YtegmjmdkhbibjaaGreatHa7
set_option linter.unusedVariables false
set_option linter.unusedSimpArgs false
/- The verification-condition framework, part W: a region whose operations come in any order, with states in which the ways come together on the way. -/
namespace Go.V
open Go Go.RowKit
variable {P : Program}

/-- Which operations were taken counts, not in which order. -/
theorem eagT_same {R : WR} {F : Fence} {n : Nat} {ops : Array Oper} {vs : List Nat} {Q : Exit → Act → World → Prop} : ∀ (f : Nat) {D D' : List Nat} {a : Act} {w : World}, (∀ i, i ∈ D ↔ i ∈ D') → eagT R F n P ops vs Q f D a w → eagT R F n P ops vs Q f D' a w := by
  intro f
  induction f with
  | zero => intro D D' a w _ h; exact h
  | succ f ih =>
    intro D D' a w hD h
    have hr : rdyB ops.toList D = rdyB ops.toList D' := by
      funext i
      rw [Bool.eq_iff_iff, rdyB_iff, rdyB_iff, hD]
      simp only [hD]
    have hc : ∀ i j, i ∈ j :: D ↔ i ∈ j :: D' := fun i j => by rw [List.mem_cons, List.mem_cons, hD]
    unfold eagT at h ⊢
    have hn : nextV ops.toList vs D = nextV ops.toList vs D' := by unfold nextV; rw [hr]
    have hcd : cands ops.toList D = cands ops.toList D' := by unfold cands; rw [hr]
    rw [← hn, ← hcd]
    split
    · rename_i i hi
      rw [hi] at h
      obtain ⟨o, ho, v, h1, h2, h3⟩ := h
      exact ⟨o, ho, v, h1, h2, ih (fun j => hc j i) h3⟩
    · rename_i hi
      rw [hi] at h
      intro i hic
      exact wpOpIn_mono (fun a' w' hk => ⟨hk.1, ih (fun j => hc j i) hk.2⟩) (h i hic)
/-- One operation that makes memory; T: what is asked of what is left. -/
def vcS (C : VX) (P : Program) (ops : List Oper) (vs es : List Nat) (M0 : Mem) (T : Nat → List Nat → St → Prop) (k : St → Prop) : Nat → List Nat → St → Prop
  | 0, _, st => k st
  | f + 1, D, st => match nextV ops vs D with
    | some i => match ops[i]? with
      | some o => guardV ops st o (fun st => barV C P M0 st o fun s => st.putv o.dst s fun st' => vcS C P ops vs es M0 T k f (i :: D) st') (fun st => st.putv o.dst (.v (.tuple #[])) fun st' => vcS C P ops vs es M0 T k f (i :: D) st')
      | none => VStuck 221
    | none => allC (es.filter (rdyB ops D)) fun i => match ops[i]? with
      | some o => guardV ops st o (fun st => step C P st o fun st' => st'.withM fun M' => VFact (M0.le M') (T f (i :: D) st')) (fun st => st.putv o.dst (.v (.tuple #[])) fun st' => T f (i :: D) st')
      | none => VStuck 222
def TSem (κ : Yt → Bs → Prop) (r : Option Nat) (n : Nat) (P : Program) (ops : Array Oper) (vs : List Nat) (Q : Exit → Act → World → Prop) (fx : Nat → Prop) (tm : Array Value) (G : Gh) (B : Bs) (M0 : Mem) (f : Nat) (D : List Nat) (st : St) : Prop :=
  ∀ ρ a W, κ st.G.Y B → Sat B.n₀ B.w B.M₀ ρ st a W → G.lq st.G → Keep fx tm a → M0.le st.M → eagT (WR.keep (KeepW B M0)) (Fw r) n P ops vs Q f D a W
theorem vcS_sound {C : VX} (hC : VXOK P C) {r : Option Nat} {n : Nat} {κ : Yt → Bs → Prop} {fx : Nat → Prop} {tm : Array Value} {ops : Array Oper} {vs es : List Nat} (hes : ∀ i, i < ops.toList.length → i ∉ vs → i ∈ es) {k : St → Prop} {G : Gh} {Q : Exit → Act → World → Prop} (hQ : ∀ a W, KK κ G k a W → Keep fx tm a → Q .normal a W) (hw : ∀ o ∈ ops.toList, ∀ d, o.dst = some d → ¬ fx d) {B : Bs} {M0 : Mem} (hlow : ∀ b, b < B.n₀ → M0 b = B.M₀ b) :
    ∀ (f : Nat) {D : List Nat} {st : St}, vcS C P ops.toList vs es M0 (TSem κ r n P ops vs Q fx tm G B M0) k f D st → TSem κ r n P ops vs Q fx tm G B M0 f D st := by
  intro f
  induction f with
  | zero => intro D st hk ρ a W hκ h hG hkp _; exact hQ a W ⟨B, ρ, st, hκ, h, hG, hk⟩ hkp
  | succ f ih =>
    intro D st hk ρ a W hκ h hG hkp hle
    have putM : ∀ (st : St) (d : Option Tmp) (s : SV), (st.put d s).M = st.M := fun st d s => by cases d <;> rfl
    have kw : ∀ {ρ' : Env} {st' : St} {a' : Act} {W' : World}, Sat B.n₀ B.w B.M₀ ρ' st' a' W' → M0.le st'.M → KeepW B M0 W' := fun h hl => ⟨h.h.below, h.h.size, fun b o hb => h.h.mem b o (hl b o hb)⟩
    unfold vcS at hk
    unfold eagT
    split at hk
    · rename_i i hn
      simp only [hn]
      split at hk
      · rename_i o ho
        have ho' : ops[i]? = some o := by simpa using ho
        have hwo := hw o (List.mem_of_getElem? ho)
        refine ⟨o, ho', ?_⟩
        obtain ⟨st1, h1, hG1, hM1, hcase⟩ := guard_soundM h hk
        have hM1' : M0.le st1.M := by rw [hM1]; exact hle
        rcases hcase with ⟨hw', hA⟩ | ⟨hw', hB⟩
        · obtain ⟨sl, ow, nx, M1, nt, G1⟩ := st1
          have hbH : ∀ W', KeepW B M0 W' → SatH B.n₀ B.w B.M₀ ρ ⟨sl, [], nx, M0, nt, ⟨fun _ => none, none, fun _ => none⟩⟩ W' := fun W' hk =>
            ⟨hk.1, hk.2.1, hk.2.2, fun id e he => (by cases he), fun i j ei ej hi => (by cases hi), fun i e b hi => (by cases hi), fun b o hb => (by cases hb), hlow, fun b o hb => (by cases hb)⟩
          have hbs : Sat B.n₀ B.w B.M₀ ρ ⟨sl, [], nx, M0, nt, ⟨fun _ => none, none, fun _ => none⟩⟩ { a with defers := [] } W := ⟨hbH W (kw h1 hM1'), h1.nt, h1.sl, trivial⟩
          obtain ⟨_, s, q1, q2, q3⟩ := val_sound hC hA hbs
          obtain ⟨j1, j2⟩ := putv_elim q3 h1 q1
          exact ⟨s.den ρ, fun W' hb => .inl ⟨hw', q2 W' (hbH W' (hb (kw h1 hM1')))⟩, fun _ _ _ _ => trivial, ih j2 ρ _ _ (by rw [put_G, hG1]; exact hκ) j1 (by rw [put_G, hG1]; exact hG) (hkp.put hwo _) (by rw [putM]; exact hM1')⟩
        · obtain ⟨j1, j2⟩ := putv_elim hB h1 (by trivial)
          exact ⟨undef, fun W' hb => .inr ⟨hw', rfl⟩, fun _ _ _ _ => trivial, ih j2 ρ _ _ (by rw [put_G, hG1]; exact hκ) j1 (by rw [put_G, hG1]; exact hG) (hkp.put hwo _) (by rw [putM]; exact hM1')⟩
      · cases hk
    · rename_i hn
      simp only [hn]
      intro i hi
      have hi' : i ∈ es.filter (rdyB ops.toList D) := by
        obtain ⟨h1, h2⟩ := List.mem_filter.1 hi
        refine List.mem_filter.2 ⟨hes i (List.mem_range.1 h1) fun hv => ?_, h2⟩
        exact absurd h2 (List.find?_eq_none.1 hn i hv)
      have hk := allC_mem hk i hi'
      split at hk
      · rename_i o ho
        have ho' : ops[i]? = some o := by simpa using ho
        have hwo := hw o (List.mem_of_getElem? ho)
        obtain ⟨st1, h1, hG1, hM1, hcase⟩ := guard_soundM h hk
        have hM1' : M0.le st1.M := by rw [hM1]; exact hle
        unfold wpOpIn
        simp only [ho']
        rcases hcase with ⟨hw', hA⟩ | ⟨hw', hB⟩
        · rw [if_pos hw']
          refine Oper.wpIn_mono ?_ (op_keep (step_sound hC hA h1) hwo hkp)
          rintro a' W' ⟨⟨ρ', st', g1, g2, g3⟩, hkp'⟩
          cases withM_iff g3 with
          | mk hle' hk' => exact ⟨fun _ => kw g1 hle', hk' ρ' a' W' (by rw [g2.2, hG1]; exact hκ) g1 (hG.trans (by rw [← hG1]; exact g2.1)) hkp' hle'⟩
        · rw [if_neg (by rw [hw']; exact Bool.false_ne_true)]
          obtain ⟨j1, j2⟩ := putv_elim hB h1 (by trivial)
          exact ⟨fun _ _ => trivial, fun h => h, j2 ρ _ _ (by rw [put_G, hG1]; exact hκ) j1 (by rw [put_G, hG1]; exact hG) (hkp.put hwo _) (by rw [putM]; exact hM1')⟩
      · cases hk
def sameB (D D' : List Nat) : Bool := (D.all fun i => D'.any (Nat.beq i)) && D'.all fun i => D.any (Nat.beq i)
theorem sameB_spec {D D' : List Nat} (h : sameB D D' = true) : ∀ i, i ∈ D ↔ i ∈ D' := fun i => by
  simp only [sameB, Bool.and_eq_true, List.all_eq_true] at h
  exact ⟨fun hi => any_beq.1 (h.1 i hi), fun hi => any_beq.1 (h.2 i hi)⟩
/-- A region, its operations in any order; the ways may come together in states of one's own choice: T is what is asked there. -/
theorem VCode.drawsJ {C : VX} (hC : VXOK P C) {id : Nat} {ops : Array Oper} {st : St} {Q : Ex → St → Prop} (ds : List Nat) (hok : statOK ops (valsOf ops.toList) (tabOf ops.toList) = true) (S : Type) (inv : S → St) (pf : S → Prop)
    (walk : frzSl st ds fun st1 => st1.withM fun M0 => ∀ T : Nat → List Nat → St → Prop,
      (∀ f D st', vcS C P ops.toList (valsOf ops.toList) (List.range ops.toList.length) M0 T (fun st' => ∃ s, pf s ∧ Wk st' (inv s)) f D st' → T f D st') →
      (∀ f D D' st' st2, sameB D D' = true → Wk st' st2 → (st'.withYf fun _ fm => ∀ m, st2.flatG m fm (T f D')) → T f D st') →
      (∀ f D st' ds, (frzSl st' ds fun st2 => st2.withM fun M' => VFact (M0.le M') (T f D st2)) → T f D st') → T ops.toList.length [] st1)
    (rest : st.withYf fun _ f => ∀ s m, pf s → (inv s).flatG m f (Q .normal)) : VCode P (.region id ops true) st Q := by
  refine ⟨fun r n κ B ρ a W fx tm hY hr hκ h hwr hkp => ?_⟩
  obtain ⟨st1, h1, hG1, hk⟩ := frzSl_sound h walk
  replace hk := withM_iff hk
  refine wpIn_region_eagT (R := WR.keep (KeepW B st1.M)) (vs := valsOf ops.toList) (tab := tabOf ops.toList) hC.mixed hok ?_ ?_
  · rintro c a' w' ⟨⟨ex, he, _⟩, _⟩; cases he
  · have hQ : ∀ a W, KK κ st1.G (fun st' => ∃ s, pf s ∧ Wk st' (inv s)) a W → Keep fx tm a → Post κ st.G Q fx tm .normal a W := by
      intro a W hK hkp
      refine ⟨⟨.normal, rfl, ?_⟩, hkp⟩
      obtain ⟨B', ρ', st', hκ', g1, g2, s, hp, hwk⟩ := hK
      obtain ⟨ρ1, hs1⟩ := hwk.imp st'.G _ _ _ ρ' a W g1
      have hq := flatG_iff (withYf_iff rest s st'.G.m hp)
      have hf : st'.G.f = st.G.f := by rw [g2.2, hG1]
      refine ⟨B', ρ1, _, ?_, ?_, ?_, hq⟩
      · rw [← hwk.y]; exact hκ'
      · rw [← hwk.y, ← hf]; exact hs1
      · exact ⟨by rw [← hG1]; exact g2.1, rfl⟩
    have hT := hk (TSem κ r n P ops (valsOf ops.toList) (Post κ st.G Q fx tm) fx tm st1.G B st1.M) (fun f D st' hv => vcS_sound hC (fun i hi _ => List.mem_range.2 hi) hQ hwr h1.h.mlow f hv) (fun f D D' st' st2 hs hw hq ρ' a' W' hκ' hS hG' hkp' hle' => by
      obtain ⟨ρ2, hS2⟩ := hw.imp st'.G _ _ _ ρ' a' W' hS
      have hq := flatG_iff (withYf_iff hq st'.G.m)
      have hG2 : (⟨st'.G.m, st2.G.Y, st'.G.f⟩ : Gh) = st'.G := by rw [← hw.y]
      rw [hG2] at hq
      exact eagT_same f (fun i => (sameB_spec hs i).symm) (hq ρ2 a' W' hκ' hS2 hG' hkp' (by rw [← hw.m]; exact hle'))) (fun f D st' ds hz ρ' a' W' hκ' hS hG' hkp' hle' => by
      obtain ⟨st2, hS2, hG2, hk2⟩ := frzSl_sound hS hz
      cases withM_iff hk2 with
      | mk hle2 hT2 => exact hT2 ρ' a' W' (by rw [hG2]; exact hκ') hS2 (by rw [hG2]; exact hG') hkp' hle2)
    rw [show ops.toList.length = ops.size from Array.length_toList] at hT
    exact hT ρ a { W with drawn := W.drawn + 1 } (by rw [hG1]; exact hκ) (h1.grow (W' := { W with drawn := W.drawn + 1 }) (Below.drew (Below.refl _ W)) (M' := st1.M) h1.h.mem (fun _ _ => rfl)) (Gh.lq_refl _) hkp (Mem.le_refl _)
end Go.V

/- Contracts of what the laws of translation lean on: Same, Few, usable, voided, row. -/
namespace Go.Proofs.YtegmjmdkhbibjaaGreat
open Go Go.V Go.RowKit
theorem Same15_fn (c e : ChartS) (a b d a2 b2 d2 : Value) (M : Mem) (h : Cha M c a b d) (h2 : Cha M e a2 b2 d2) (hs : Sml c) (hs2 : Sml e) : V.Fn Tryz.prog 24 [chV c a b d, chV e a2 b2 d2] M fun rs _ => rs = [.bool (decide (intsC c = intsC e))] := by
  have h1 := Ints15_fn c a b d M h hs
  have h3 := fun M' (hM : M.le M') => Ints15_fn e a2 b2 d2 M' (h2.le hM) hs2
  obtain ⟨⟨ad, ka, rfl⟩, ⟨bd, kb, rfl⟩, dd, kd, rfl⟩ := h.shape
  obtain ⟨⟨ad2, ka2, rfl⟩, ⟨bd2, kb2, rfl⟩, dd2, kd2, rfl⟩ := h2.shape
  refine Fn.of_vc cxOK Tryz.func24 rfl rfl rfl ?_
  repeat (first | refine VIf.tt ?_ | refine VIf.ff ?_)
  refine VDraw.go (by kernel_rfl) ?_
  repeat (first | refine VIf.tt ?_ | refine VIf.ff ?_)
  refine VFn.mk _ h1 ?_
  rintro rs M1 hM1 ⟨u, rfl, hu⟩
  repeat (first | refine VIf.tt ?_ | refine VIf.ff ?_)
  refine VFn.mk _ (h3 M1 hM1) ?_
  rintro rs M2 hM2 ⟨w, rfl, hw⟩
  have hS := SameInts15_fn u w _ _ M2 (hu.le hM2) hw
  obtain ⟨ud, uc, rfl, _⟩ := hu.get
  obtain ⟨wd, wc, rfl, _⟩ := hw.get
  repeat (first | refine VIf.tt ?_ | refine VIf.ff ?_)
  refine VFn.p hS ?_
  repeat (first | refine VIf.tt ?_ | refine VIf.ff ?_)
  exact VFact.mk rfl trivial
theorem Few15_fn (c : ChartS) (a b d : Value) (M : Mem) (h : Cha M c a b d) : V.Fn Tryz.prog 21 [chV c a b d] M fun rs _ => ∃ b, rs = [.bool b] := by
  obtain ⟨dd, kd, ed, hld, hrl⟩ := h.ls.get
  obtain ⟨⟨ad, ka, ea⟩, ⟨bd, kb, eb⟩, _⟩ := h.shape
  subst ea; subst eb; subst ed
  have done : ∀ {b : Bool}, ∃ b', [Value.bool b] = [.bool b'] := fun {b} => ⟨b, rfl⟩
  refine Fn.of_vc cxOK Tryz.func21 rfl rfl rfl ?_
  repeat (first | refine VIf.tt ?_ | refine VIf.ff ?_)
  refine VCode.loop cxOK Nat (fun i => ⟨[(1, .box 0 0), (3, .v (.int .i64 i))], [(0, some (.box 26 (chSV c (.slice ad c.cs.length ka) (.slice bd c.bs.length kb) (.slice dd c.ls.length kd))))], 1, M, 39, ⟨fun _ => none, none, fun _ => none⟩⟩)
    (fun i => i ≤ c.ls.length) (fun i => c.ls.length - i) 0 (Nat.zero_le _) (Wk.mk' id (by repeat' constructor) (by repeat' constructor) (injOK_id _) rfl rfl rfl) ?_
  rintro i hi m
  have fin : ∀ {K : Prop}, K → K := fun h => h
  repeat (first | refine VIf.tt ?_ | refine VIf.ff ?_)
  refine VIf.mk (fun h1 => ?_) (fun h1 => ?_)
  · have hlt := lt_of_dec h1
    repeat (first | refine VIf.tt ?_ | refine VIf.ff ?_)
    refine VIf.mk (fun h2 => ?_) (fun h2 => ?_)
    · obtain ⟨a1, w, e1, _, hpt, _, p1⟩ := hrl M (Mem.le_refl _) i hlt
      obtain ⟨wa, wc, rfl⟩ := hpt.shape
      repeat (first | refine VIf.tt ?_ | refine VIf.ff ?_)
      refine VIdx.mk a1 i e1 rfl hlt ?_
      repeat (first | refine VIf.tt ?_ | refine VIf.ff ?_)
      refine VRead.mk (.slice wa (gli c.ls i).ps.length wc) (p1 1 _ rfl) ?_
      repeat (first | refine VIf.tt ?_ | refine VIf.ff ?_)
      refine VIf.mk (fun h3 => ?_) (fun h3 => ?_)
      · repeat (first | refine VIf.tt ?_ | refine VIf.ff ?_)
        exact VFact.mk done trivial
      · repeat (first | refine VIf.tt ?_ | refine VIf.ff ?_)
        refine VArith.ok (by first | omega | (simp only; omega)) (by first | omega | (simp only; omega)) ?_
        exact ⟨i + 1, hlt, (by first | omega | (simp only; omega)), (Wk.mk' id (by repeat' constructor) (by repeat' constructor) (injOK_id _) rfl rfl rfl)⟩
    · repeat (first | refine VIf.tt ?_ | refine VIf.ff ?_)
      refine VIf.mk (fun h3 => ?_) (fun h3 => ?_)
      · repeat (first | refine VIf.tt ?_ | refine VIf.ff ?_)
        refine VIf.mk (fun h4 => ?_) (fun h4 => ?_)
        · repeat (first | refine VIf.tt ?_ | refine VIf.ff ?_)
          exact VFact.mk done trivial
        · repeat (first | refine VIf.tt ?_ | refine VIf.ff ?_)
          exact VFact.mk done trivial
      · repeat (first | refine VIf.tt ?_ | refine VIf.ff ?_)
        exact VFact.mk done trivial
  · repeat (first | refine VIf.tt ?_ | refine VIf.ff ?_)
    refine VIf.mk (fun h3 => ?_) (fun h3 => ?_)
    · repeat (first | refine VIf.tt ?_ | refine VIf.ff ?_)
      refine VIf.mk (fun h4 => ?_) (fun h4 => ?_)
      · repeat (first | refine VIf.tt ?_ | refine VIf.ff ?_)
        exact VFact.mk done trivial
      · repeat (first | refine VIf.tt ?_ | refine VIf.ff ?_)
        exact VFact.mk done trivial
    · repeat (first | refine VIf.tt ?_ | refine VIf.ff ?_)
      exact VFact.mk done trivial
theorem few30_fn (c e : ChartS) (a b d a2 b2 d2 : Value) (M : Mem) (h : Cha M c a b d) (h2 : Cha M e a2 b2 d2) : V.Fn Tryz.prog 11 [chV c a b d, chV e a2 b2 d2] M fun rs _ => ∃ b, rs = [.bool b] := by
  have h1 := Few15_fn c a b d M h
  have h3 := fun M' (hM : M.le M') => Few15_fn e a2 b2 d2 M' (h2.le hM)
  obtain ⟨⟨ad, ka, rfl⟩, ⟨bd, kb, rfl⟩, dd, kd, rfl⟩ := h.shape
  obtain ⟨⟨ad2, ka2, rfl⟩, ⟨bd2, kb2, rfl⟩, dd2, kd2, rfl⟩ := h2.shape
  have done : ∀ {b : Bool}, ∃ b', [Value.bool b] = [.bool b'] := fun {b} => ⟨b, rfl⟩
  refine Fn.of_vc cxOK Tryz.func11 rfl rfl rfl ?_
  repeat (first | refine VIf.tt ?_ | refine VIf.ff ?_)
  refine VFn.mk _ h1 ?_
  rintro rs M1 hM1 ⟨b1, rfl⟩
  repeat (first | refine VIf.tt ?_ | refine VIf.ff ?_)
  refine VIf.mk (fun q => ?_) (fun q => ?_)
  · repeat (first | refine VIf.tt ?_ | refine VIf.ff ?_)
    refine VFn.mk _ (h3 M1 hM1) ?_
    rintro rs M2 hM2 ⟨b2, rfl⟩
    repeat (first | refine VIf.tt ?_ | refine VIf.ff ?_)
    exact VFact.mk done trivial
  · repeat (first | refine VIf.tt ?_ | refine VIf.ff ?_)
    exact VFact.mk done trivial
theorem usable30_fn (c e : ChartS) (a b d a2 b2 d2 : Value) (M : Mem) (h : Cha M c a b d) (h2 : Cha M e a2 b2 d2) : V.Fn Tryz.prog 19 [chV c a b d, chV e a2 b2 d2] M fun rs _ => ∃ b, rs = [.bool b] ∧ (b = true → validC c = true ∧ validC e = true) := by
  have h1 := few30_fn c e a b d a2 b2 d2 M h h2
  have h3 := fun M' (hM : M.le M') => Valid15_fn c a b d M' (h.le hM)
  have h4 := fun M' (hM : M.le M') => Valid15_fn e a2 b2 d2 M' (h2.le hM)
  obtain ⟨⟨ad, ka, rfl⟩, ⟨bd, kb, rfl⟩, dd, kd, rfl⟩ := h.shape
  obtain ⟨⟨ad2, ka2, rfl⟩, ⟨bd2, kb2, rfl⟩, dd2, kd2, rfl⟩ := h2.shape
  refine Fn.of_vc cxOK Tryz.func19 rfl rfl rfl ?_
  repeat (first | refine VIf.tt ?_ | refine VIf.ff ?_)
  refine VFn.mk _ h1 ?_
  rintro rs M1 hM1 ⟨b1, rfl⟩
  repeat (first | refine VIf.tt ?_ | refine VIf.ff ?_)
  refine VIf.mk (fun q => ?_) (fun q => ?_)
  · repeat (first | refine VIf.tt ?_ | refine VIf.ff ?_)
    refine VFn.p (h3 M1 hM1) ?_
    repeat (first | refine VIf.tt ?_ | refine VIf.ff ?_)
    refine VIf.mk (fun q2 => ?_) (fun q2 => ?_)
    · repeat (first | refine VIf.tt ?_ | refine VIf.ff ?_)
      refine VFn.p (h4 M1 hM1) ?_
      repeat (first | refine VIf.tt ?_ | refine VIf.ff ?_)
      exact VFact.mk (show ∃ b, _ = _ ∧ _ from ⟨_, rfl, fun h => ⟨q2, h⟩⟩) trivial
    · repeat (first | refine VIf.tt ?_ | refine VIf.ff ?_)
      exact VFact.mk (show ∃ b, _ = _ ∧ _ from ⟨false, rfl, fun h => (by cases h)⟩) trivial
  · repeat (first | refine VIf.tt ?_ | refine VIf.ff ?_)
    exact VFact.mk (show ∃ b, _ = _ ∧ _ from ⟨false, rfl, fun h => (by cases h)⟩) trivial
def cellsC (l : List CellS) : List Value := (l.map cellV).flatten
theorem cellsC_len (l : List CellS) : (cellsC l).length = l.length * 4 := by
  unfold cellsC
  induction l with
  | nil => rfl
  | cons c l ih => rw [List.map_cons, List.flatten_cons, List.length_append, ih, List.length_cons]; show 4 + _ = _; omega
theorem CelsV.sl {M : Mem} {v : Value} {l : List CellS} (h : CelsV M v l) : SlAt M 4 v l.length (cellsC l) := by
  obtain ⟨rows, h1, h2, h3, h4⟩ := h
  have : rows = l.map cellV := by
    refine List.ext_getElem (by simpa using h1) fun i h5 h6 => ?_
    have := (h4 i (l[i]'(by rw [← h1]; exact h5)) rows[i] (by simp) (by simp)).1
    rw [this]; simp [cellV]
  rw [this] at h3
  exact h3
theorem CelsV.r {M : Mem} {v : Value} {l : List CellS} (h : CelsV M v l) : ∀ x ∈ l, i64r x.lo ∧ i64r x.hi ∧ i64r x.dt := fun x hx => by
  obtain ⟨rows, h1, h2, h3, h4⟩ := h
  obtain ⟨i, hi, rfl⟩ := List.getElem_of_mem hx
  exact (h4 i l[i] (rows[i]'(by rw [h1]; exact hi)) (by simp) (by simp)).2
theorem CelsV.of {M : Mem} {v : Value} {l : List CellS} (h : SlAt M 4 v l.length (cellsC l)) (hr : ∀ x ∈ l, i64r x.lo ∧ i64r x.hi ∧ i64r x.dt) : CelsV M v l := by
  refine Arr.of (l.map cellV) (fun r hr => by obtain ⟨_, _, rfl⟩ := List.mem_map.1 hr; rfl) h ?_
  clear h
  induction l with
  | nil => trivial
  | cons b bs ih => exact ⟨⟨rfl, hr b List.mem_cons_self⟩, ih fun i hi => hr i (List.mem_cons_of_mem _ hi)⟩
/-- Cells of which some were made void. -/
structure Vd (l r : List CellS) : Prop where
  len : r.length = l.length
  eq : ∀ k, k < l.length → ((gce r k).lo = (gce l k).lo ∧ (gce r k).hi = (gce l k).hi ∧ (gce r k).dt = (gce l k).dt) ∧ ((gce r k).vd = false → (gce l k).vd = false)
theorem Vd.refl (l : List CellS) : Vd l l := ⟨rfl, fun _ _ => ⟨⟨rfl, rfl, rfl⟩, id⟩⟩
theorem gce_eq {l : List CellS} {i : Nat} (h : i < l.length) : gce l i = l[i] := by simp [gce, h]
theorem Vd.set {l r : List CellS} (h : Vd l r) {i : Nat} (hi : i < l.length) : Vd l (r.set i { gce r i with vd := true }) := by
  refine ⟨by rw [List.length_set]; exact h.len, fun k hk => ?_⟩
  have e : gce (r.set i { gce r i with vd := true }) k = if i = k then { gce r i with vd := true } else gce r k := by
    rw [gce_eq (by rw [List.length_set, h.len]; exact hk), List.getElem_set]
    split
    · rfl
    · exact (gce_eq (l := r) (i := k) (by rw [h.len]; exact hk)).symm
  rw [e]
  split
  · rename_i e; subst e
    exact ⟨(h.eq i hi).1, fun hh => by cases hh⟩
  · exact h.eq k hk
theorem Vd.r {l r : List CellS} (h : Vd l r) (hl : ∀ x ∈ l, i64r x.lo ∧ i64r x.hi ∧ i64r x.dt) : ∀ x ∈ r, i64r x.lo ∧ i64r x.hi ∧ i64r x.dt := fun x hx => by
  obtain ⟨i, hi, rfl⟩ := List.getElem_of_mem hx
  have hi' : i < l.length := by rw [← h.len]; exact hi
  obtain ⟨⟨h1, h2, h3⟩, _⟩ := h.eq i hi'
  rw [gce_eq hi, gce_eq hi'] at h1 h2 h3
  rw [h1, h2, h3]
  exact hl _ (List.getElem_mem hi')
theorem cellsC_set : ∀ (l : List CellS) (i : Nat), i < l.length → cellsC (l.set i { gce l i with vd := true }) = (cellsC l).set (i * 4 + 3) (.bool true)
  | [], i, h => by cases h
  | c :: l, 0, _ => rfl
  | c :: l, i + 1, h => by
    have ih := cellsC_set l i (by simpa using h)
    have e : gce (c :: l) (i + 1) = gce l i := by simp [gce]
    rw [e, List.set_cons_succ]
    show cellV c ++ cellsC (l.set i _) = (cellV c ++ cellsC l).set ((i + 1) * 4 + 3) _
    rw [ih, show (i + 1) * 4 + 3 = (i * 4 + 3) + 1 + 1 + 1 + 1 by omega]
    rfl
theorem rput_one (xs : List Value) (i : Nat) (y : Value) (h : i < xs.length) : rput xs i [y] = xs.set i y := by
  unfold rput
  rw [List.set_eq_take_append_cons_drop, if_pos h, List.append_assoc]; rfl
set_option maxRecDepth 20000 in
set_option maxHeartbeats 4000000 in
theorem voided_fn (c : ChartS) (a b d : Value) (bits : Int) (M : Mem) (h : Cha M c a b d) (hl : c.cs.length ≤ 4000) (hb : 0 ≤ bits ∧ bits < 18446744073709551616) : V.Fn Tryz.prog 23 [chV c a b d, .int .u64 bits] M fun rs M' => ∃ ls x, rs = [chV { c with cs := ls } x b d] ∧ Cha M' { c with cs := ls } x b d ∧ Vd c.cs ls := by
  have hr := h.cs.r
  have hsl := h.cs.sl
  obtain ⟨⟨ad, ka, ea⟩, ⟨bd, kb, eb⟩, dd, kd, ed⟩ := h.shape
  subst ea; subst eb; subst ed
  refine Fn.of_vc cxOK Tryz.func23 rfl rfl rfl ?_
  repeat (first | refine VIf.tt ?_ | refine VIf.ff ?_)
  refine VSl.mk c.cs.length (cellsC c.cs) hsl ?_
  have h0 : (0 + c.cs.length) * 32 ≤ 140737488355328 := by omega
  repeat (first | refine VIf.tt ?_ | refine VIf.ff ?_)
  refine VFact.mk h0 ?_
  repeat (first | refine VIf.tt ?_ | refine VIf.ff ?_)
  refine VCode.loop cxOK (Nat × List CellS) (fun (⟨i, ls⟩ : Nat × List CellS) => ⟨[(1, .v (.int .u64 bits)), (2, .box 0 0), (4, .box 1 0), (13, .v (.int .i64 ((0 + c.cs.length : Nat) : Int))), (14, .v (.int .i64 i))], [(0, some (.box 26 [.v (.int .i64 c.ver), .v (.int .i64 c.x), .v (.int .i64 c.y), .v (.int .i64 c.w), .v (.int .i64 c.h), .v (.int .i64 c.sz), .row 3, .v (.slice bd c.bs.length kb), .v (.slice dd c.ls.length kd)])), (3, some (.row 56 4 c.cs.length (cellsC ls))), (1, some (.box 26 [.v (.int .i64 0), .v (.int .i64 0), .v (.int .i64 0), .v (.int .i64 0), .v (.int .i64 0), .v (.int .i64 0), .v (.slice none 0 0), .v (.slice none 0 0), .v (.slice none 0 0)]))], 4, M, 33, ⟨fun _ => none, none, fun _ => none⟩⟩)
    (fun (⟨i, ls⟩ : Nat × List CellS) => i ≤ c.cs.length ∧ Vd c.cs ls) (fun (⟨i, _⟩ : Nat × List CellS) => c.cs.length - i) (0, c.cs) ⟨Nat.zero_le _, Vd.refl _⟩ ?_ ?_
  · refine Wk.mk' id (by repeat' constructor) ⟨⟨rfl, by repeat' constructor⟩, ⟨rfl, ⟨rfl, rfl, ?_, ?_⟩⟩, ⟨rfl, by repeat' constructor⟩, trivial⟩ (injOK_id _) rfl rfl rfl
    · omega
    · rfl
  rintro ⟨i, ls⟩ ⟨hi, hvd⟩ m
  repeat (first | refine VIf.tt ?_ | refine VIf.ff ?_)
  refine VIf.mk (fun hlt => ?_) (fun hge => ?_)
  · have hlt : i < c.cs.length := by have := of_decide_eq_true hlt; omega
    repeat (first | refine VIf.tt ?_ | refine VIf.ff ?_)
    refine VIf.mk (fun h64 => ?_) (fun h64 => ?_)
    · repeat (first | refine VIf.tt ?_ | refine VIf.ff ?_)
      refine VSh.mk (show (0 : Int) ≤ (i : Int) by omega) ?_
      repeat (first | refine VIf.tt ?_ | refine VIf.ff ?_)
      refine VIf.mk (fun hbit => ?_) (fun hbit => ?_)
      · repeat (first | refine VIf.tt ?_ | refine VIf.ff ?_)
        refine VIdxR.mk i rfl (by omega) ?_
        have hfit : i * 4 + 3 + 1 ≤ (cellsC ls).length := by rw [cellsC_len, hvd.len]; omega
        repeat (first | refine VIf.tt ?_ | refine VIf.ff ?_)
        refine VFact.mk hfit ?_
        repeat (first | refine VIf.tt ?_ | refine VIf.ff ?_)
        refine VArith.ok (by first | omega | (simp only; omega)) (by first | omega | (simp only; omega)) ?_
        refine ⟨(i + 1, ls.set i { gce ls i with vd := true }), ⟨hlt, hvd.set hlt⟩, (by first | omega | (simp only; omega)), Wk.mk' id (by repeat' constructor) ⟨⟨rfl, by repeat' constructor⟩, ⟨rfl, ⟨rfl, rfl, ?_, ?_⟩⟩, ⟨rfl, by repeat' constructor⟩, trivial⟩ (injOK_id _) rfl rfl rfl⟩
        · rfl
        · rw [cellsC_set ls i (by rw [hvd.len]; exact hlt)]
          exact (rput_one _ _ _ (by omega)).symm
      · repeat (first | refine VIf.tt ?_ | refine VIf.ff ?_)
        refine VArith.ok (by first | omega | (simp only; omega)) (by first | omega | (simp only; omega)) ?_
        exact ⟨(i + 1, ls), ⟨hlt, hvd⟩, (by first | omega | (simp only; omega)), (Wk.mk' id (by repeat' constructor) (by repeat' constructor) (injOK_id _) rfl rfl rfl)⟩
    · repeat (first | refine VIf.tt ?_ | refine VIf.ff ?_)
      refine VArith.ok (by first | omega | (simp only; omega)) (by first | omega | (simp only; omega)) ?_
      exact ⟨(i + 1, ls), ⟨hlt, hvd⟩, (by first | omega | (simp only; omega)), (Wk.mk' id (by repeat' constructor) (by repeat' constructor) (injOK_id _) rfl rfl rfl)⟩
  · have : i = c.cs.length := by have := of_decide_eq_false hge; omega
    subst this
    repeat (first | refine VIf.tt ?_ | refine VIf.ff ?_)
    refine VFz.mk fun x B M1 hM1 hx => ?_
    obtain ⟨xa, xc, rfl⟩ := SlAt.shape hx
    repeat (first | refine VIf.tt ?_ | refine VIf.ff ?_)
    refine VFact.mk ?_ trivial
    have hx' : SlAt M1 4 (.slice xa c.cs.length xc) ls.length (cellsC ls) := by rw [hvd.len]; exact hx
    exact ⟨ls, _, rfl, ⟨h.r, CelsV.of hx' (hvd.r hr), h.bs.le hM1, h.ls.le hM1⟩, hvd⟩
end Go.Proofs.YtegmjmdkhbibjaaGreat

/- Contracts: a chart of one row. -/
namespace Go.Proofs.YtegmjmdkhbibjaaGreat
open Go Go.V Go.RowKit
def rowS (sz : Int) (l : List Pt) : ChartS := ⟨1, 0, 0, (l.length : Int), 1, sz, l.map fun s => ⟨s.1, s.2, 0, false⟩, [], []⟩
def spanC (l : List Pt) : List CellS := l.map fun s => ⟨s.1, s.2, 0, false⟩
set_option maxRecDepth 20000 in
set_option maxHeartbeats 4000000 in
theorem row_fn (sz : Int) (v : Value) (l : List Pt) (M : Mem) (hv : Pts M v l) (h64 : i64P l) (hl : 0 < l.length ∧ l.length ≤ 100) (hsz : i64r sz) : V.Fn Tryz.prog 28 [.int .i64 sz, v] M fun rs M' => ∃ x, rs = [chV (rowS sz l) x (.slice none 0 0) (.slice none 0 0)] ∧ FzNew M M' 4 x l.length (cellsC (spanC l)) ∧ CelsV M' x (spanC l) := by
  obtain ⟨ad, c, rfl⟩ := hv.shape
  obtain ⟨_, hm, hrd⟩ := hv.cellsOf
  refine Fn.of_vc cxOK Tryz.func28 rfl rfl rfl ?_
  repeat (first | refine VIf.tt ?_ | refine VIf.ff ?_)
  refine VCode.loop cxOK (Nat × List CellS) (fun (⟨i, cs⟩ : Nat × List CellS) => ⟨[(4, .box 0 0), (5, .box 1 0), (12, .v (.slice ad l.length c)), (13, .v (.int .i64 l.length)), (14, .v (.int .i64 i))], [(1, some (.box 26 [.v (.int .i64 1), .v (.int .i64 0), .v (.int .i64 0), .v (.int .i64 l.length), .v (.int .i64 1), .v (.int .i64 sz), .row 2, .v (.slice none 0 0), .v (.slice none 0 0)])), (2, some (.row 56 4 cs.length (cellsC cs))), (0, some (.box 26 [.v (.int .i64 0), .v (.int .i64 0), .v (.int .i64 0), .v (.int .i64 0), .v (.int .i64 0), .v (.int .i64 0), .v (.slice none 0 0), .v (.slice none 0 0), .v (.slice none 0 0)]))], 3, M, 27, ⟨fun _ => none, none, fun _ => none⟩⟩)
    (fun (⟨i, cs⟩ : Nat × List CellS) => i ≤ l.length ∧ cs = spanC (l.take i)) (fun (⟨i, _⟩ : Nat × List CellS) => l.length - i) (0, []) ⟨Nat.zero_le _, rfl⟩ ?_ ?_
  · refine Wk.nilBox 1 26 [.v (.int .i64 1), .v (.int .i64 0), .v (.int .i64 0), .v (.int .i64 l.length), .v (.int .i64 1), .v (.int .i64 sz)] [.v (.slice none 0 0), .v (.slice none 0 0)] 56 4 rfl (Wk.mk' id (by repeat' constructor) (by repeat' constructor) (injOK_id _) rfl rfl rfl)
  rintro ⟨i, cs⟩ ⟨hi, hcs⟩ m
  have hcl : cs.length = i := by rw [hcs]; simp [spanC]; omega
  repeat (first | refine VIf.tt ?_ | refine VIf.ff ?_)
  refine VIf.mk (fun hlt => ?_) (fun hge => ?_)
  · have hlt : i < l.length := lt_of_dec hlt
    obtain ⟨a1, e1, p1⟩ := hrd M (Mem.le_refl _) i hlt
    repeat (first | refine VIf.tt ?_ | refine VIf.ff ?_)
    refine VIdx.mk a1 i e1 rfl hlt ?_
    repeat (first | refine VIf.tt ?_ | refine VIf.ff ?_)
    refine VReads.mk [.int .i64 (gp l i).1, .int .i64 (gp l i).2] rfl p1 ?_
    have hb : (cs.length + 1) * 32 ≤ 140737488355328 := by omega
    repeat (first | refine VIf.tt ?_ | refine VIf.ff ?_)
    refine VFact.mk hb ?_
    repeat (first | refine VIf.tt ?_ | refine VIf.ff ?_)
    refine VArith.ok (by first | omega | (simp only; omega)) (by first | omega | (simp only; omega)) ?_
    have hs : spanC (l.take (i + 1)) = cs ++ [⟨(gp l i).1, (gp l i).2, 0, false⟩] := by
      rw [hcs]; unfold spanC
      rw [List.take_add_one, List.map_append]
      congr 1
      simp [gp, hlt]
    refine ⟨(i + 1, cs ++ [⟨(gp l i).1, (gp l i).2, 0, false⟩]), ⟨hlt, hs.symm⟩, (by first | omega | (simp only; omega)), Wk.mk' (fun i => if i = 2 then 5 else i) (by repeat' constructor) ⟨⟨rfl, by repeat' constructor⟩, ⟨rfl, ⟨rfl, rfl, ?_, ?_⟩⟩, ⟨rfl, by repeat' constructor⟩, trivial⟩ (by simp [injOK]) rfl rfl rfl⟩
    · rw [List.length_append]; rfl
    · unfold cellsC; rw [List.map_append, List.flatten_append]; rfl
  · have : i = l.length := by have := ge_of_dec hge; omega
    subst this
    rw [List.take_length] at hcs
    subst hcs
    have hlen : (spanC l).length = l.length := List.length_map _
    repeat (first | refine VIf.tt ?_ | refine VIf.ff ?_)
    refine VFz.nw fun x B M1 hM1 hx hnw => ?_
    have hnw := hnw (by rw [cellsC_len, hlen]; omega)
    have hx1 : CelsV M1 x (spanC l) := CelsV.of hx (fun y hy => by
      obtain ⟨s, hs, rfl⟩ := List.mem_map.1 hy
      obtain ⟨j, hj, e⟩ := List.getElem_of_mem hs
      have := h64 j hj
      have eg : gp l j = s := by rw [← e]; simp [gp, hj]
      rw [eg] at this
      exact ⟨this.1, this.2, show i64r 0 by decide⟩)
    obtain ⟨xa, xc, rfl⟩ := SlAt.shape hx
    repeat (first | refine VIf.tt ?_ | refine VIf.ff ?_)
    refine VFact.mk (show ∃ x, _ = _ ∧ _ ∧ _ from ⟨_, rfl, ?_, hx1⟩) trivial
    rw [← hlen]; exact hnw
end Go.Proofs.YtegmjmdkhbibjaaGreat

/- The verification-condition framework, part X: a block of one's own that goes between own and immutable, ahead of a call. -/
namespace Go.V
open Go Go.RowKit
variable {P : Program}
/-- A marked block, known as immutable, is one's own again, and a variable's cells refer to it; then a call by its contract. -/
theorem VCall.thawB {f : Nat} {vs : List Value} {st : St} {K : SV → St → Prop} {M : Mem} {R : List Value → Mem → Prop} (hM : st.M = M) {g B : Nat} (hF : Fn P f vs (M.wo B) R) (hg : st.own g = some (.nw B)) {arr : Array Value} {E sz n c : Nat}
    (hB : M B = some (.cells arr E (0, 0))) (hf : st.G.f B = none) (hn : n ≤ c) (hc : c ≤ maxLen) (hs : arr.size = c * sz) {xs : List Value} (hx : arr.toList.take (n * sz) = xs) (h1 : ∀ v ∈ xs, v.oneCell' = true)
    {i bt : Nat} {cs : List SV} (cs' : List SV) (hi : st.own i = some (.box bt cs)) (hcs : cs'.map (SV.sub st.nx (.slice (some ⟨B, 0, none⟩) n c) B) = cs) (hcb : cs'.all (SVB (st.nx + 1)) = true)
    (hK : ∀ rs M', (M.wo B).le M' → R rs M' → st.dK fun sl ow nx _ nt G => K (retSV rs) ⟨sl, (i, some (.box bt cs')) :: (nx, some (.row E sz n xs)) :: ow, nx + 1, M', nt, G⟩) : VCall P f (vs.map .v) st K := by
  subst hM
  subst hx
  refine ⟨hF.1, fun n₀ w M₀ ρ W hS hsa hss => ?_⟩
  have e : (vs.map SV.v).map (SV.den ρ) = vs := by rw [List.map_map]; exact (List.map_congr_left fun _ _ => rfl).trans (List.map_id vs)
  rw [e]
  have hh := hS.thaw hg hB hf hn hc hs h1
  have hin := (hS.own i _ hi).1
  have hi2 : St.own ⟨st.sl, (st.nx, some (.row E sz n (arr.toList.take (n * sz)))) :: st.ow, st.nx + 1, st.M.wo B, st.nt, st.G⟩ i = some (.box bt cs) := by
    have := own_add st (.row E sz n (arr.toList.take (n * sz))) i
    rw [if_neg (by omega)] at this
    exact this.trans hi
  obtain ⟨_, _, B5, b1, b2, b3⟩ := hh.own i _ hi2
  have hcd : cs'.map (SV.den (upd ρ st.nx (.slice (some ⟨B, 0, none⟩) n c))) = cs.map (SV.den (upd ρ st.nx (.slice (some ⟨B, 0, none⟩) n c))) := by
    rw [← hcs, List.map_map]
    refine List.map_congr_left fun s _ => ?_
    have := SV.sub_den (ρ := upd ρ st.nx (.slice (some ⟨B, 0, none⟩) n c)) (id := st.nx) (x := .slice (some ⟨B, 0, none⟩) n c) (B := B) (by rw [upd_same]; rfl) (by rw [upd_same]; rfl) s
    exact this.symm
  have h3 := hh.set (W' := W) (e' := .box bt cs') hi2 ⟨rfl, rfl, rfl, Nat.le_refl _, fun _ _ _ => rfl⟩ (fun s hs => SVB_spec (List.all_eq_true.1 hcb s hs)) ⟨B5, b1, b2, by rw [b3, hcd]⟩
  refine (hF.2 W h3.mem).mono ?_
  rintro e W' ⟨rs, M', rfl, g2, g3, g4, g5, g6⟩
  refine ⟨retSV rs, _, _, by rw [retSV_den], retSV_sc _ _, h3.grow g2 g4 g5, fun d s hd => ?_, rfl, rfl, dK_iff (hK rs M' g3 g6)⟩
  have hs := hss d s hd
  exact ⟨SV.sc_mono (Nat.le_succ _) hs, s, hd, SV.den_agree (agree_upd ρ st.nx _) hs⟩
/-- What is known of an own slice that was made immutable. -/
structure FzOf (M : Mem) (E sz n : Nat) (xs : List Value) (B : Nat) (arr : Array Value) (c : Nat) : Prop where
  hn : n ≤ c
  hc : c ≤ maxLen
  hs : arr.size = c * sz
  ht : arr.toList.take (n * sz) = xs
  ho : ∀ x ∈ xs, x.oneCell' = true
  hB : M B = none
  sl : SlAt (M.with B (.cells arr E (0, 0))) sz (.slice (some ⟨B, 0, none⟩) n c) n xs
  le : M.le (M.with B (.cells arr E (0, 0)))
  at' : (M.with B (.cells arr E (0, 0))) B = some (.cells arr E (0, 0))
/-- An own slice is made immutable, its block stays marked as one's own; then a call by its contract. -/
theorem VCall.frzB {f : Nat} {vs : List Value} {st : St} {K : SV → St → Prop} {M : Mem} {R : List Value → Mem → Prop} (hM : st.M = M) (he : Enters P f) (id : Nat) {E sz n : Nat} {xs : List Value} (hid : st.own id = some (.row E sz n xs)) (hpos : 0 < xs.length)
    (hF : ∀ B arr c, FzOf M E sz n xs B arr c → Fn P f vs (M.with B (.cells arr E (0, 0))) R)
    (hK : ∀ B arr c, FzOf M E sz n xs B arr c → ∀ rs M', (M.with B (.cells arr E (0, 0))).le M' → R rs M' → st.subK id (.slice (some ⟨B, 0, none⟩) n c) B M' fun st2 => st2.dK fun sl ow nx M2 nt G => K (retSV rs) ⟨sl, (nx, some (.nw B)) :: ow, nx + 1, M2, nt, G⟩) : VCall P f (vs.map .v) st K := by
  subst hM
  refine ⟨he, fun n₀ w M₀ ρ W hS hsa hss => ?_⟩
  have e : (vs.map SV.v).map (SV.den ρ) = vs := by rw [List.map_map]; exact (List.map_congr_left fun _ _ => rfl).trans (List.map_id vs)
  rw [e]
  obtain ⟨g1, _, ho, h1⟩ := hS.own id _ hid
  rcases ho.2 with ⟨hv, h0⟩ | ⟨g, cap, cur, hg, hge, hh, hnc, hcm, hcs, ht⟩
  · subst h0
    have := ho.1
    rw [Nat.zero_mul] at this
    omega
  · have hob : ob (ρ id) = some g := by simp [hg, ob]
    obtain ⟨f1, f2⟩ := hS.freeze hid hob hh
    have hx : slOf (ρ id) = .slice (some ⟨g, 0, none⟩) n cap := by rw [hg]; rfl
    have hbk : blkOf (ρ id) = g := by rw [hg]; rfl
    have hat : (st.M.with g (.cells cur E (0, 0))) g = some (.cells cur E (0, 0)) := by simp [Mem.with]
    have hfz : FzOf st.M E sz n xs g cur cap := by
      refine ⟨hnc, hcm, hcs, ht, h1, hS.msep id _ g hid hob, ⟨some ⟨g, 0, none⟩, cap, rfl, hnc, hcm, ho.1, h1, fun _ => ⟨_, rfl, fun j v hj => ?_⟩⟩, f2, hat⟩
      rw [Addr.add_none]
      rw [← ht, List.getElem?_take] at hj
      split at hj
      · simp only [Mem.cell, hat, Option.isSome_none, Bool.false_eq_true, if_false, Nat.zero_add]
        simpa using hj
      · cases hj
    refine ((hF g cur cap hfz).2 W f1.mem).mono ?_
    rintro e W' ⟨rs, M', rfl, g2, g3, g4, g5, g6⟩
    have h2 := f1.grow g2 g4 g5
    -- the same, with the slice written out
    have h3 : SatH n₀ w M₀ ρ (st.sub id (.slice (some ⟨g, 0, none⟩) n cap) g M') W' := by
      have hsat : Sat n₀ w M₀ ρ ⟨[], st.ow, st.nx, st.M, 0, ⟨fun _ => none, st.G.Y, st.G.f⟩⟩ { tmps := #[], defers := [] } W := ⟨⟨hS.below, hS.size, hS.mem, hS.own, hS.sep, hS.msep, fun b o hb => (by cases hb), hS.mlow, hS.fpin⟩, rfl, fun d s hd => (by cases hd), trivial⟩
      have hq : SatH n₀ w M₀ ρ (st.sub id (.slice (some ⟨g, 0, none⟩) n cap) g (st.M.with g (.cells cur E (0, 0)))) W := by
        have := (hsat.frzCore (id := id) (st.M.with g (.cells cur E (0, 0))) ⟨f1.below, f1.size, f1.mem, f1.own, f1.sep, f1.msep, fun b o hb => (by cases hb), f1.mlow, f1.fpin⟩).h
        rw [hx, hbk] at this
        exact ⟨this.below, this.size, this.mem, this.own, this.sep, this.msep, f1.pin, this.mlow, this.fpin⟩
      exact hq.grow g2 g4 g5
    have h4 := h3.add (.nw g) (.bool true) (Below.refl _ _) trivial ⟨by rw [upd_same]; rfl, hge⟩ (fun b hb => by cases hb)
    have hk := dK_iff (subK_iff (hK g cur cap hfz rs M' g3 g6))
    refine ⟨retSV rs, _, upd ρ st.nx (.bool true), by rw [retSV_den], retSV_sc _ _, h4, fun d s hd => ?_, rfl, rfl, hk⟩
    have hd' : look (st.sl.map fun p => (p.1, SV.sub id (.slice (some ⟨g, 0, none⟩) n cap) g p.2)) d = some s := hd
    rw [look_map] at hd'
    cases hl : look st.sl d with
    | none => rw [hl] at hd'; cases hd'
    | some s0 =>
      rw [hl] at hd'
      simp only [Option.map_some, Option.some.injEq] at hd'
      subst hd'
      have hs0 := hss d s0 hl
      have hsc : SV.sc st.nx (SV.sub id (.slice (some ⟨g, 0, none⟩) n cap) g s0) := SV.sub_sc hs0
      refine ⟨SV.sc_mono (Nat.le_succ _) hsc, s0, rfl, ?_⟩
      rw [SV.den_agree (agree_upd ρ st.nx _) hsc]
      exact SV.sub_den hx hbk s0
end Go.V

/- The verification-condition framework, part Y: a code walked in two parts. -/
namespace Go.V
open Go Go.RowKit
variable {P : Program}
/-- The first parts of a code; what is left of it. -/
def takeC : Nat → Code → Code
  | n + 1, .seq a b => .seq a (takeC n b)
  | _, _ => .skip
def dropC : Nat → Code → Code
  | n + 1, .seq _ b => dropC n b
  | _, c => c
theorem VCode.of_vc {C : VX} (hC : VXOK P C) {c : Code} {st : St} {Q : Ex → St → Prop} (h : vc C P c st Q) : VCode P c st Q :=
  ⟨fun _ _ _ _ _ _ _ _ _ hY hr hκ hs hw hkp => vc_sound hC hY c h hr hκ hs hw hkp⟩
/-- The two parts come together in one state. -/
theorem VCode.cut {C : VX} (hC : VXOK P C) (S : Type) (inv : S → St) (pf : S → Prop) {Q : Ex → St → Prop} : ∀ (n : Nat) {c : Code} {st : St} (_walk : vc C P (takeC n c) st (joinQ S inv pf Q))
    (_rest : st.withYf fun _ f => ∀ s m, pf s → (inv s).flatG m f fun st' => VCode P (dropC n c) st' Q), VCode P c st Q := by
  intro n
  have base : ∀ {c : Code} {st : St}, (∃ s, pf s ∧ Wk st (inv s)) → (st.withYf fun _ f => ∀ s m, pf s → (inv s).flatG m f fun st' => VCode P c st' Q) → VCode P c st Q := by
    rintro c st ⟨s, hp, hwk⟩ rest
    repeat (first | refine VIf.tt ?_ | refine VIf.ff ?_)
    refine VCode.ease (inv s) hwk ?_
    obtain ⟨sl, ow, nx, M, nt, G⟩ := st
    exact fun m => rest s m hp
  induction n with
  | zero => intro c st walk rest; exact base walk rest
  | succ n ih =>
    intro c st walk rest
    cases c with
    | seq a b =>
      refine ⟨fun r m κ B ρ ac W fx tm hY hr hκ h hwr hkp => ?_⟩
      have walk' : vc C P a st fun e st' => match e with
        | .normal => vc C P (takeC n b) st' (joinQ S inv pf Q)
        | .ret => joinQ S inv pf Q .ret st'
        | .exit i => joinQ S inv pf Q (.exit i) st' := walk
      refine wpIn_seq (wpIn_mono (vc_sound hC hY a walk' hr hκ h hwr.1 hkp) ?_)
      rintro e a' W' ⟨⟨ex, he, B', ρ', st', hκ', h1, h2, h3⟩, hkp'⟩
      cases e with
      | normal =>
        cases he
        have hrest : st'.withYf fun _ f => ∀ s m, pf s → (inv s).flatG m f fun st' => VCode P (dropC n b) st' Q := by
          have hr0 := withYf_iff rest
          have hf : st'.G.f = st.G.f := h2.2
          obtain ⟨sl, ow, nx, M, nt, G⟩ := st'
          show ∀ s m, pf s → (inv s).flatG m G.f fun st' => VCode P (dropC n b) st' Q
          intro s m hp
          have := hr0 s m hp
          rw [← hf] at this
          exact this
        exact wpIn_mono ((ih h3 hrest).run r m κ B' ρ' a' W' fx tm hY (hr.le h2.1) hκ' h1 hwr.2 hkp') (post_mono h2)
      | ret => cases he; exact ⟨⟨.ret, rfl, B', ρ', st', hκ', h1, h2, h3⟩, hkp'⟩
      | exit i => cases he; exact ⟨⟨.exit i, rfl, B', ρ', st', hκ', h1, h2, h3⟩, hkp'⟩
      | goto => cases he
      | panic => cases he
      | outgrown => cases he
    | _ => exact base walk rest
/-- A contract, from the body's code. -/
theorem Fn.of_vcode {C : VX} (hC : VXOK P C) {f : Nat} {fn : Func} {c : Code} (hf : P.funcs[f]? = some fn) (hb : fn.body = some c) (hname : (fn.name == "runtime.NumGoroutine") = false)
    {args : List Value} (hnt : Nat.ble args.length fn.ntmps = true) {M : Mem} {R : List Value → Mem → Prop} (h : VCode P c (st0 args M fn.ntmps none) (fin C fn R)) : Fn P f args M R := by
  refine ⟨Go.Proofs.enters_of hf hname hb, fun W hW => ?_⟩
  refine (callsIn_wide (n := 100)).1 (callsIn_of_wp_marks hf hb trivial ?_ rfl)
  have hle := Nat.le_of_ble_eq_true hnt
  have hs0 : Sat W.heap.size W M (fun _ => undef) (st0 args M fn.ntmps none) { tmps := args.toArray ++ Array.replicate (fn.ntmps - args.toArray.size) undef, defers := [] } W := by
    refine ⟨⟨Below.refl _ _, Nat.le_refl _, hW, ?_, ?_, ?_, ?_, fun _ _ => rfl, fun b o hb => by cases hb⟩, by simp [st0]; omega, ?_, trivial⟩
    · intro id e he; simp [St.own, st0, look] at he
    · intro i j ei ej hi; simp [St.own, st0, look] at hi
    · intro i e b hi; simp [St.own, st0, look] at hi
    · intro b o hb; cases hb
    · intro d s hd
      obtain ⟨h1, h2, v, h3, rfl⟩ := argSlots_look args 0 d s hd
      refine ⟨by simp [st0]; omega, trivial, ?_⟩
      simp only [Nat.sub_zero] at h3
      rw [Array.getElem?_append_left (by simp; omega)]
      simp only [SV.den, List.getElem?_toArray]
      exact h3
  have := h.run none 100 (fun Y B => Y = none ∧ B = ⟨W.heap.size, W, M⟩) ⟨W.heap.size, W, M⟩ _ _ W (fun _ => False) #[] (fun l args rest B M W hκ => by cases hκ.1) (fun l hl => by cases hl) ⟨rfl, rfl⟩ hs0 (wr_false c) (fun d hd => hd.elim)
  refine wpIn_mono this ?_
  rintro e a' W' ⟨⟨ex, he, B, ρ, st, ⟨_, rfl⟩, h1, h2, h3⟩, _⟩
  have main : (e = .normal ∨ e = .ret) → ex ≠ .exit 0 ∧ True → LeavesInM (Fw none) 100 P fn a'.tmps (fun e W'' => ∃ rs M', e = .returned (ret rs) ∧ Below W.heap.size W W'' ∧ M.le M' ∧ M'.ok W'' ∧ (∀ b, b < W.heap.size → M' b = M b) ∧ R rs M') a'.defers .returning W' := by
    intro hcase _
    have h3' : (match resSV C st fn.results.toList with
      | some rs => frzAll true (fun st rs => match vals rs with
          | some vs => st.withM fun M => VFact (R vs M) True
          | none => VStuck 171) 12 st rs
      | none => VStuck 172) := by
      rcases hcase with rfl | rfl <;> cases he <;> exact h3
    split at h3'
    · rename_i rs hrs
      have hsl : ∀ d s, look st.sl d = some s → s.sc st.nx ∧ a'.tmps[d]? = some (s.den ρ) := fun d s hd => ⟨(h1.sl d s hd).2.1, (h1.sl d s hd).2.2⟩
      have hres := fun (G : Gh) (W'' : World) (hS : SatH W.heap.size W M ρ { st with G := G } W'') => results_run (tmps := a'.tmps) (st := { st with G := G }) hC hS hsl fn.results.toList (r := rs) (by rw [resSV_G]; exact hrs)
      obtain ⟨st', rs', g1, g2, g3, g4, g5⟩ := frzAll_sound 12 h1 (hres st.G W' h1.h).2 h3'
      split at g5
      · rename_i vs hvs
        obtain ⟨hR, _⟩ := withM_iff g5
        refine leaves_of a'.defers h1.h g1.h g4 (fun b => by rw [h2.2]; rfl) h1.marks ?_
        intro G W'' s1 s2
        refine ⟨ret vs, ?_, vs, st'.M, rfl, s2.below, ?_, s2.mem, s2.mlow, hR⟩
        · have hr := (hres G W'' s1).1
          rw [← g2, vals_den hvs] at hr
          exact results_ret fn a'.tmps P vs W'' hr
        · intro b o hb
          have hlt := (Array.getElem?_eq_some_iff.1 (hW b o hb)).1
          rw [s2.mlow b hlt]; exact hb
      · cases g5
    · cases h3'
  cases e with
  | normal => exact main (.inl rfl) ⟨by cases he; simp, trivial⟩
  | ret => exact main (.inr rfl) ⟨by cases he; simp, trivial⟩
  | exit i => cases he; cases h3
  | goto => cases he
  | panic => cases he
  | outgrown => cases he
end Go.V
