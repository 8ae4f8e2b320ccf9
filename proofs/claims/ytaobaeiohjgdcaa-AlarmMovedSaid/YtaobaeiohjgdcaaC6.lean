/- Contracts: the reference's Less, places, between. -/
import Derived.Test.YtaobaeiohjgdcaaD1
namespace Go.Proofs.Ytaobaeiohjgdcaa
open Go Go.V Go.RowKit
theorem stepI {f : Nat → Bool} {i : Nat} (h : ∀ j, j < i → f j = true) (hi : f i = true) : ∀ j, j < i + 1 → f j = true := fun j hj => by
  by_cases e : j = i
  · rw [e]; exact hi
  · exact h j (by omega)
theorem lt_of_dec {a b : Nat} (h : decide ((a : Int) < (b : Int)) = true) : a < b := by simpa using h
theorem ge_of_dec {a b : Nat} (h : decide ((a : Int) < (b : Int)) = false) : b ≤ a := by simpa using h
theorem eq_of_bne {a b : Nat} (h : ((a : Int) != (b : Int)) = false) : a = b := by have := (bne_eq_false_iff_eq).1 h; omega
theorem ne_of_bne {a b : Nat} (h : ((a : Int) != (b : Int)) = true) : a ≠ b := by have := bne_iff_ne.1 h; omega
theorem bn1 {b : Bool} (h : (!b) = true) : b = false := by simpa using h
theorem bn2 {b : Bool} (h : (!b) = false) : b = true := by simpa using h
theorem FnP.cast {P : Program} {f : Nat} {args : List Value} {M : Mem} {vs ws : List Value} (h : FnP P f args M vs) (e : vs = ws) : FnP P f args M ws := e ▸ h
theorem Less_fn (ax ay bx by' : Int) (M : Mem) : FnP Try.prog 67 [pt ax ay, pt bx by'] M [.bool (lessB (ax, ay) (bx, by'))] := by
  refine Fn.of_vc cxOK Try.func67 rfl rfl rfl ?_
  repeat' (first | refine VIf.tt ?_ | refine VIf.ff ?_ | refine VIf.mk (fun _ => ?_) (fun _ => ?_) | refine VFact.mk ?_ trivial)
  all_goals (refine ⟨bool1 ?_, rfl⟩; simp only [lessB, Bool.or_eq_true, Bool.and_eq_true, decide_eq_true_eq, decide_eq_false_iff_not, beq_iff_eq, beq_eq_false_iff_ne, Bool.false_eq_true, false_iff, true_iff, eq_self] at *; omega)
theorem between_fn (ax ay bx by' cx' cy : Int) (M : Mem) : FnP Try.prog 75 [pt ax ay, pt bx by', pt cx' cy] M [.bool (betwB (ax, ay) (bx, by') (cx', cy))] := by
  refine Fn.of_vc cxOK Try.func75 rfl rfl rfl ?_
  repeat' (first | refine VIf.tt ?_ | refine VIf.ff ?_ | refine VIf.mk (fun _ => ?_) (fun _ => ?_) | refine VFact.mk ?_ trivial)
  all_goals (refine ⟨bool1 ?_, rfl⟩; simp only [betwB, decide_eq_true_eq, decide_eq_false_iff_not, Bool.false_eq_true, false_iff] at *; simp only [List.foldl] at *; omega)
theorem places_fn (v : Value) (ps : List Pt) (M : Mem) (hv : Pts M v ps) : FnP Try.prog 65 [v] M [.bool ((List.range ps.length).all fun i => placeB (gp ps i))] := by
  obtain ⟨ad, c, rfl⟩ := hv.shape
  obtain ⟨_, hm, hrd⟩ := hv.cellsOf
  unfold maxLen at hm
  refine Fn.of_vc cxOK Try.func65 rfl rfl rfl ?_
  repeat (first | refine VIf.tt ?_ | refine VIf.ff ?_)
  refine VCode.loop cxOK Nat (fun i => ⟨[(0, .v (.slice ad ps.length c)), (3, .v (.int .i64 i))], [], 0, M, 16, ⟨fun _ => none, none, fun _ => none⟩⟩)
    (fun i => i ≤ ps.length ∧ ∀ j, j < i → placeB (gp ps j) = true) (fun i => ps.length - i) 0 ⟨Nat.zero_le _, fun j hj => by omega⟩ (Wk.mk' id (by repeat' constructor) (by repeat' constructor) (injOK_id _) rfl rfl rfl) ?_
  rintro i ⟨hi, hz⟩ m
  repeat (first | refine VIf.tt ?_ | refine VIf.ff ?_)
  refine VIf.mk (fun hlt => ?_) (fun hge => ?_)
  · have hlt := lt_of_dec hlt
    obtain ⟨ad', rfl, hpi⟩ := hrd M (Mem.le_refl _) i hlt
    repeat (first | refine VIf.tt ?_ | refine VIf.ff ?_)
    refine VIdx.mk ad' i rfl rfl hlt ?_
    repeat (first | refine VIf.tt ?_ | refine VIf.ff ?_)
    refine VReads.mk [.int .i64 (gp ps i).1, .int .i64 (gp ps i).2] rfl hpi ?_
    repeat (first | refine VIf.tt ?_ | refine VIf.ff ?_)
    refine VFn.p (Place_fn _ _ _) ?_
    repeat (first | refine VIf.tt ?_ | refine VIf.ff ?_)
    refine VIf.mk (fun hp => ?_) (fun hp => ?_)
    · repeat (first | refine VIf.tt ?_ | refine VIf.ff ?_)
      refine VFact.mk ⟨?_, rfl⟩ trivial
      rw [all_false hlt (bn1 hp)]
    · repeat (first | refine VIf.tt ?_ | refine VIf.ff ?_)
      refine VArith.ok (by first | omega | (simp only; omega)) (by first | omega | (simp only; omega)) ?_
      exact ⟨i + 1, ⟨hlt, stepI hz (bn2 hp)⟩, (by first | omega | (simp only; omega)), (Wk.mk' id (by repeat' constructor) (by repeat' constructor) (injOK_id _) rfl rfl rfl)⟩
  · have := ge_of_dec hge
    have e : i = ps.length := by omega
    subst e
    repeat (first | refine VIf.tt ?_ | refine VIf.ff ?_)
    refine VFact.mk ⟨?_, rfl⟩ trivial
    rw [all_true hz]
theorem ValidR_fn (v : Value) (ps : List Pt) (M : Mem) (hv : Pts M v ps) (_hi64 : i64P ps) : FnP Try.prog 32 [v] M [.bool (validR ps)] := by
  obtain ⟨ad, c, rfl⟩ := hv.shape
  obtain ⟨_, hm, hrd⟩ := hv.cellsOf
  unfold maxLen at hm
  refine Fn.of_vc cxOK Try.func32 rfl rfl rfl ?_
  have bad1 : ps.length < 1 → validR ps = false := fun h => by simp [validR]; omega
  have bad2 : 64 < ps.length → validR ps = false := fun h => by simp [validR]; omega
  repeat (first | refine VIf.tt ?_ | refine VIf.ff ?_)
  refine VIf.mk (fun h1 => ?_) (fun h1 => ?_)
  · repeat (first | refine VIf.tt ?_ | refine VIf.ff ?_)
    repeat (first | refine VIf.tt ?_ | refine VIf.ff ?_)
    refine VFact.mk ⟨?_, rfl⟩ trivial
    rw [bad1 (by simp only [decide_eq_true_eq] at h1; omega)]
  repeat (first | refine VIf.tt ?_ | refine VIf.ff ?_)
  refine VIf.mk (fun h2 => ?_) (fun h2 => ?_)
  · repeat (first | refine VIf.tt ?_ | refine VIf.ff ?_)
    repeat (first | refine VIf.tt ?_ | refine VIf.ff ?_)
    refine VFact.mk ⟨?_, rfl⟩ trivial
    rw [bad2 (by simp at h2; omega)]
  repeat (first | refine VIf.tt ?_ | refine VIf.ff ?_)
  refine VFn.p (places_fn _ ps _ hv) ?_
  repeat (first | refine VIf.tt ?_ | refine VIf.ff ?_)
  refine VIf.mk (fun h3 => ?_) (fun h3 => ?_)
  · repeat (first | refine VIf.tt ?_ | refine VIf.ff ?_)
    repeat (first | refine VIf.tt ?_ | refine VIf.ff ?_)
    refine VFact.mk ⟨?_, rfl⟩ trivial
    have := bn1 h3
    simp [validR, this]
  repeat (first | refine VIf.tt ?_ | refine VIf.ff ?_)
  have hpl := all_iff.1 (bn2 h3)
  have hn1 : 1 ≤ ps.length := by simp only [decide_eq_false_iff_not] at h1; omega
  have hn64 : ps.length ≤ 64 := by simp only [decide_eq_false_iff_not] at h2; omega
  have hC : ∀ k, k < ps.length → isC (gp ps k).1 ∧ isC (gp ps k).2 := fun k hk => by
    have := hpl k hk
    simp only [placeB, Bool.and_eq_true] at this
    exact ⟨isCb_iff.1 this.1, isCb_iff.1 this.2⟩
  have rd : ∀ k, k < ps.length → _ := hrd M (Mem.le_refl _)
  obtain ⟨ad', rfl, hp0⟩ := rd 0 (by omega)
  repeat (first | refine VIf.tt ?_ | refine VIf.ff ?_)
  refine VCode.loop cxOK Nat (fun i => ⟨[(0, .v (.slice (some ad') ps.length c)), (3, .v (.int .i64 ps.length)), (4, .v (.int .i64 (i + 1 : Nat)))], [], 0, M, 78, ⟨fun _ => none, none, fun _ => none⟩⟩)
    (fun i => i + 1 ≤ ps.length ∧ ∀ j, j < i + 1 → (j == 0 || lessB (gp ps 0) (gp ps j)) = true) (fun i => ps.length - i) 0 ⟨hn1, fun j hj => by simp; omega⟩ (Wk.mk' id (by repeat' constructor) (by repeat' constructor) (injOK_id _) rfl rfl rfl) ?_
  rintro i ⟨hi, hz⟩ m
  repeat (first | refine VIf.tt ?_ | refine VIf.ff ?_)
  refine VIf.mk (fun hlt => ?_) (fun hge => ?_)
  · have hlt := lt_of_dec hlt
    obtain ⟨_, he, hpi⟩ := rd (i + 1) hlt
    cases he
    repeat (first | refine VIf.tt ?_ | refine VIf.ff ?_)
    refine VDraw.go (by kernel_rfl) ?_
    repeat (first | refine VIf.tt ?_ | refine VIf.ff ?_)
    refine VIdx.mk ad' 0 rfl rfl (by omega) ?_
    repeat (first | refine VIf.tt ?_ | refine VIf.ff ?_)
    refine VReads.mk [.int .i64 (gp ps 0).1, .int .i64 (gp ps 0).2] rfl hp0 ?_
    repeat (first | refine VIf.tt ?_ | refine VIf.ff ?_)
    refine VIdx.mk ad' (i + 1) rfl rfl hlt ?_
    repeat (first | refine VIf.tt ?_ | refine VIf.ff ?_)
    refine VReads.mk [.int .i64 (gp ps (i + 1)).1, .int .i64 (gp ps (i + 1)).2] rfl hpi ?_
    repeat (first | refine VIf.tt ?_ | refine VIf.ff ?_)
    refine VFn.p (Less_fn _ _ _ _ _) ?_
    repeat (first | refine VIf.tt ?_ | refine VIf.ff ?_)
    refine VIf.mk (fun hp => ?_) (fun hp => ?_)
    · repeat (first | refine VIf.tt ?_ | refine VIf.ff ?_)
      refine VFact.mk ⟨?_, rfl⟩ trivial
      have : (List.range ps.length).all (fun i => i == 0 || lessB (gp ps 0) (gp ps i)) = false := all_false hlt (by have := bn1 hp; simpa using this)
      simp [validR, this]
    · repeat (first | refine VIf.tt ?_ | refine VIf.ff ?_)
      refine VArith.ok (by first | omega | (simp only; omega)) (by first | omega | (simp only; omega)) ?_
      exact ⟨i + 1, ⟨by omega, stepI hz (by have := bn2 hp; simpa using this)⟩, (by first | omega | (simp only; omega)), (Wk.mk' id (by repeat' constructor) (by repeat' constructor) (injOK_id _) rfl rfl rfl)⟩
  · have := ge_of_dec hge
    have e : i + 1 = ps.length := by omega
    have hall : (List.range ps.length).all (fun i => i == 0 || lessB (gp ps 0) (gp ps i)) = true := all_true (by rw [← e]; exact hz)
    have hplB : (List.range ps.length).all (fun i => placeB (gp ps i)) = true := bn2 h3
    repeat (first | refine VIf.tt ?_ | refine VIf.ff ?_)
    refine VCode.loop cxOK Nat (fun i => ⟨[(0, .v (.slice (some ad') ps.length c)), (3, .v (.int .i64 ps.length)), (5, .v (.int .i64 i))], [], 0, M, 78, ⟨fun _ => none, none, fun _ => none⟩⟩)
      (fun i => i ≤ ps.length ∧ ∀ j, j < i → (List.range ps.length).all (r3B ps j) = true) (fun i => ps.length - i) 0 ⟨Nat.zero_le _, fun j hj => by omega⟩ (Wk.mk' id (by repeat' constructor) (by repeat' constructor) (injOK_id _) rfl rfl rfl) ?_
    rintro i ⟨hi, hz⟩ m
    repeat (first | refine VIf.tt ?_ | refine VIf.ff ?_)
    refine VIf.mk (fun hlt => ?_) (fun hge => ?_)
    · have hlt := lt_of_dec hlt
      repeat (first | refine VIf.tt ?_ | refine VIf.ff ?_)
      refine VIf.mk (fun h3n => ?_) (fun h3n => ?_)
      · repeat (first | refine VIf.tt ?_ | refine VIf.ff ?_)
        have h3n : ¬ ps.length < 3 := by simp only [decide_eq_true_eq] at h3n; omega
        obtain ⟨_, he, hpi⟩ := rd i hlt
        cases he
        have hs : (i + 1) % ps.length < ps.length := Nat.mod_lt _ (by omega)
        obtain ⟨_, he, hps⟩ := rd _ hs
        cases he
        repeat (first | refine VIf.tt ?_ | refine VIf.ff ?_)
        refine VCode.loop cxOK Nat (fun k => ⟨[(0, .v (.slice (some ad') ps.length c)), (3, .v (.int .i64 ps.length)), (5, .v (.int .i64 i)), (6, .v (.int .i64 k))], [], 0, M, 78, ⟨fun _ => none, none, fun _ => none⟩⟩)
          (fun k => k ≤ ps.length ∧ ∀ j, j < k → r3B ps i j = true) (fun k => ps.length - k) 0 ⟨Nat.zero_le _, fun j hj => by omega⟩ (Wk.mk' id (by repeat' constructor) (by repeat' constructor) (injOK_id _) rfl rfl rfl) ?_
        rintro k ⟨hk, hzk⟩ m
        repeat (first | refine VIf.tt ?_ | refine VIf.ff ?_)
        refine VIf.mk (fun hlk => ?_) (fun hgk => ?_)
        · have hlk := lt_of_dec hlk
          obtain ⟨_, he, hpk⟩ := rd k hlk
          cases he
          repeat (first | refine VIf.tt ?_ | refine VIf.ff ?_)
          refine VDraw.go (by kernel_rfl) ?_
          repeat (first | refine VIf.tt ?_ | refine VIf.ff ?_)
          refine VIf.mk (fun hki => ?_) (fun hki => ?_)
          · repeat (first | refine VIf.tt ?_ | refine VIf.ff ?_)
            repeat (first | refine VIf.tt ?_ | refine VIf.ff ?_)
            refine VArith.ok (by first | omega | (simp only; omega)) (by first | omega | (simp only; omega)) ?_
            repeat (first | refine VIf.tt ?_ | refine VIf.ff ?_)
            refine VDiv.mk (by omega) ?_
            repeat (first | refine VIf.tt ?_ | refine VIf.ff ?_)
            have es : ((i : Int) + 1).tmod (ps.length : Int) = (((i + 1) % ps.length : Nat) : Int) := by
              rw [Int.tmod_eq_emod_of_nonneg (by omega)]; simp
            repeat (first | refine VIf.tt ?_ | refine VIf.ff ?_)
            refine VIf.mk (fun hks => ?_) (fun hks => ?_)
            · repeat (first | refine VIf.tt ?_ | refine VIf.ff ?_)
              repeat (first | refine VIf.tt ?_ | refine VIf.ff ?_)
              refine VIdx.mk ad' i rfl rfl hlt ?_
              repeat (first | refine VIf.tt ?_ | refine VIf.ff ?_)
              refine VReads.mk [.int .i64 (gp ps i).1, .int .i64 (gp ps i).2] rfl hpi ?_
              repeat (first | refine VIf.tt ?_ | refine VIf.ff ?_)
              repeat (first | refine VIf.tt ?_ | refine VIf.ff ?_)
              refine VArith.ok (by first | omega | (simp only; omega)) (by first | omega | (simp only; omega)) ?_
              repeat (first | refine VIf.tt ?_ | refine VIf.ff ?_)
              refine VDiv.mk (by omega) ?_
              repeat (first | refine VIf.tt ?_ | refine VIf.ff ?_)
              refine VIdx.mk ad' ((i + 1) % ps.length) rfl es hs ?_
              repeat (first | refine VIf.tt ?_ | refine VIf.ff ?_)
              refine VReads.mk [.int .i64 (gp ps ((i + 1) % ps.length)).1, .int .i64 (gp ps ((i + 1) % ps.length)).2] rfl hps ?_
              repeat (first | refine VIf.tt ?_ | refine VIf.ff ?_)
              refine VIdx.mk ad' k rfl rfl hlk ?_
              repeat (first | refine VIf.tt ?_ | refine VIf.ff ?_)
              refine VReads.mk [.int .i64 (gp ps k).1, .int .i64 (gp ps k).2] rfl hpk ?_
              repeat (first | refine VIf.tt ?_ | refine VIf.ff ?_)
              refine VFn.p (Cross_fn _ _ _ _ _ _ _ (hC i hlt).1 (hC i hlt).2 (hC _ hs).1 (hC _ hs).2 (hC k hlk).1 (hC k hlk).2) ?_
              repeat (first | refine VIf.tt ?_ | refine VIf.ff ?_)
              refine VIf.mk (fun hc => ?_) (fun hc => ?_)
              · repeat (first | refine VIf.tt ?_ | refine VIf.ff ?_)
                repeat (first | refine VIf.tt ?_ | refine VIf.ff ?_)
                refine VFact.mk ⟨?_, rfl⟩ trivial
                have hc := of_decide_eq_true hc
                have h3 : r3B ps i k = false := by
                  have e1 : k ≠ i := by simp at hki; omega
                  have e2 : k ≠ (i + 1) % ps.length := by rw [es] at hks; exact ne_of_bne hks
                  have hc : ¬ (0 < crossP (gp ps i) (gp ps ((i + 1) % ps.length)) (gp ps k)) := by unfold crossP; omega
                  simp [r3B, e1, e2, hc]
                have h3' : ((List.range ps.length).all fun i => (List.range ps.length).all (r3B ps i)) = false := all_false hlt (all_false hlk h3)
                simp [validR, h3', h3n]
              · repeat (first | refine VIf.tt ?_ | refine VIf.ff ?_)
                repeat (first | refine VIf.tt ?_ | refine VIf.ff ?_)
                refine VArith.ok (by first | omega | (simp only; omega)) (by first | omega | (simp only; omega)) ?_
                refine ⟨k + 1, ⟨hlk, stepI hzk ?_⟩, (by first | omega | (simp only; omega)), (Wk.mk' id (by repeat' constructor) (by repeat' constructor) (injOK_id _) rfl rfl rfl)⟩
                have hc := of_decide_eq_false hc
                have hc : 0 < crossP (gp ps i) (gp ps ((i + 1) % ps.length)) (gp ps k) := by unfold crossP; omega
                simp [r3B, hc]
            · repeat (first | refine VIf.tt ?_ | refine VIf.ff ?_)
              repeat (first | refine VIf.tt ?_ | refine VIf.ff ?_)
              refine VArith.ok (by first | omega | (simp only; omega)) (by first | omega | (simp only; omega)) ?_
              refine ⟨k + 1, ⟨hlk, stepI hzk ?_⟩, (by first | omega | (simp only; omega)), (Wk.mk' id (by repeat' constructor) (by repeat' constructor) (injOK_id _) rfl rfl rfl)⟩
              rw [es] at hks
              have : k = (i + 1) % ps.length := eq_of_bne hks
              simp [r3B, this]
          · repeat (first | refine VIf.tt ?_ | refine VIf.ff ?_)
            repeat (first | refine VIf.tt ?_ | refine VIf.ff ?_)
            refine VArith.ok (by first | omega | (simp only; omega)) (by first | omega | (simp only; omega)) ?_
            refine ⟨k + 1, ⟨hlk, stepI hzk ?_⟩, (by first | omega | (simp only; omega)), (Wk.mk' id (by repeat' constructor) (by repeat' constructor) (injOK_id _) rfl rfl rfl)⟩
            have : k = i := by simp at hki; omega
            simp [r3B, this]
        · have : k = ps.length := by have := ge_of_dec hgk; omega
          subst this
          repeat (first | refine VIf.tt ?_ | refine VIf.ff ?_)
          refine VArith.ok (by first | omega | (simp only; omega)) (by first | omega | (simp only; omega)) ?_
          exact ⟨i + 1, ⟨hlt, stepI hz (all_true hzk)⟩, (by first | omega | (simp only; omega)), (Wk.mk' id (by repeat' constructor) (by repeat' constructor) (injOK_id _) rfl rfl rfl)⟩
      · repeat (first | refine VIf.tt ?_ | refine VIf.ff ?_)
        repeat (first | refine VIf.tt ?_ | refine VIf.ff ?_)
        refine VFact.mk ⟨?_, rfl⟩ trivial
        have : ps.length < 3 := by simp only [decide_eq_false_iff_not] at h3n; omega
        simp [validR, hplB, hall, this, hn1, hn64]
    · repeat (first | refine VIf.tt ?_ | refine VIf.ff ?_)
      have : i = ps.length := by have := ge_of_dec hge; omega
      subst this
      repeat (first | refine VIf.tt ?_ | refine VIf.ff ?_)
      refine VFact.mk ⟨?_, rfl⟩ trivial
      have := all_true hz
      simp [validR, hplB, hall, this, hn1, hn64]
end Go.Proofs.Ytaobaeiohjgdcaa
