/- The verification-condition framework, part R: a nil slice is a growing slice of one's own. -/
import Derived.Test.YtaobaeiohjgdcaaVq
namespace Go.V
open Go Go.RowKit
theorem Wk.nil {st st' : St} (d : Nat) (E sz : Nat) (hd : look st.sl d = some (.v (.slice none 0 0))) (h : Wk ⟨(d, .row st.nx) :: st.sl, (st.nx, some (.row E sz 0 [])) :: st.ow, st.nx + 1, st.M, st.nt, st.G⟩ st') : Wk st st' := by
  refine ⟨fun G n₀ w M₀ ρ a W hs => ?_, h.y, h.m⟩
  have h1 : SatH n₀ w M₀ (upd ρ st.nx (.slice none 0 0)) (St.add { st with G := G } (.row E sz 0 [])) W :=
    hs.h.add (.row E sz 0 []) (.slice none 0 0) (Below.refl _ W) trivial ⟨⟨by simp, .inl ⟨upd_same _ _ _, rfl⟩⟩, by simp⟩ (fun b hb => by simp [ob] at hb)
  have h2 : Sat n₀ w M₀ (upd ρ st.nx (.slice none 0 0)) (St.add { st with G := G } (.row E sz 0 [])) a W :=
    hs.env h1 (agree_upd ρ st.nx _) (Nat.le_succ _) rfl rfl rfl
  have h3 : Sat n₀ w M₀ (upd ρ st.nx (.slice none 0 0)) { (⟨(d, .row st.nx) :: st.sl, (st.nx, some (.row E sz 0 [])) :: st.ow, st.nx + 1, st.M, st.nt, st.G⟩ : St) with G := G } a W := by
    refine ⟨⟨h2.h.below, h2.h.size, h2.h.mem, h2.h.own, h2.h.sep, h2.h.msep, h2.h.pin, h2.h.mlow, h2.h.fpin⟩, h2.nt, ?_, h2.marks⟩
    intro d' s hd'
    rw [look_cons] at hd'
    split at hd'
    · rename_i e
      subst e
      obtain rfl := Option.some.inj hd'
      obtain ⟨k1, _, k3⟩ := hs.sl d' _ hd
      exact ⟨k1, Nat.lt_succ_self _, by rw [k3]; simp [SV.den, upd_same, slOf]⟩
    · exact h2.sl d' s hd'
  exact h.imp G n₀ w M₀ _ a W h3
/-- A nil slice in a variable's cell is a growing slice of one's own. -/
theorem Wk.nilBox {st st' : St} (id : Nat) (t : TypeId) (cs1 cs2 : List SV) (E sz : Nat) (hd : st.own id = some (.box t (cs1 ++ .v (.slice none 0 0) :: cs2)))
    (h : Wk ⟨st.sl, (id, some (.box t (cs1 ++ .row st.nx :: cs2))) :: (st.nx, some (.row E sz 0 [])) :: st.ow, st.nx + 1, st.M, st.nt, st.G⟩ st') : Wk st st' := by
  refine ⟨fun G n₀ w M₀ ρ a W hs => ?_, h.y, h.m⟩
  have h1 : SatH n₀ w M₀ (upd ρ st.nx (.slice none 0 0)) (St.add { st with G := G } (.row E sz 0 [])) W :=
    hs.h.add (.row E sz 0 []) (.slice none 0 0) (Below.refl _ W) trivial ⟨⟨by simp, .inl ⟨upd_same _ _ _, rfl⟩⟩, by simp⟩ (fun b hb => by simp [ob] at hb)
  have h2 : Sat n₀ w M₀ (upd ρ st.nx (.slice none 0 0)) (St.add { st with G := G } (.row E sz 0 [])) a W :=
    hs.env h1 (agree_upd ρ st.nx _) (Nat.le_succ _) rfl rfl rfl
  have hidn : id < st.nx := (hs.h.own id _ hd).1
  have hown2 : (St.add { st with G := G } (.row E sz 0 [])).own id = some (.box t (cs1 ++ .v (.slice none 0 0) :: cs2)) := by
    rw [own_add, if_neg (by show id ≠ st.nx; omega)]; exact hd
  obtain ⟨g1, g2, B, hr, hn, hh⟩ := h2.h.own id _ hown2
  have hcells : (cs1 ++ SV.row st.nx :: cs2).map (SV.den (upd ρ st.nx (.slice none 0 0))) = (cs1 ++ SV.v (.slice none 0 0) :: cs2).map (SV.den (upd ρ st.nx (.slice none 0 0))) := by
    simp only [List.map_append, List.map_cons, SV.den, upd_same, slOf]
  have key : ∀ id' e, (⟨st.sl, (id, some (.box t (cs1 ++ .row st.nx :: cs2))) :: (st.nx, some (.row E sz 0 [])) :: st.ow, st.nx + 1, st.M, st.nt, G⟩ : St).own id' = some e →
      ∃ e0, (St.add { st with G := G } (.row E sz 0 [])).own id' = some e0 ∧ e.sc (st.nx + 1) ∧ OwnOK n₀ (upd ρ st.nx (.slice none 0 0)) W id' e := by
    intro id' e he
    by_cases e' : id' = id
    · subst e'
      unfold St.own at he
      simp only [look_cons, if_true] at he
      cases he
      refine ⟨_, hown2, ?_, B, hr, hn, by rw [hcells]; exact hh⟩
      intro s hs'
      have g2' : ∀ s ∈ (cs1 ++ SV.v (.slice none 0 0) :: cs2), s.sc (st.nx + 1) := g2
      simp only [List.mem_append, List.mem_cons] at hs' g2'
      rcases hs' with hs' | rfl | hs'
      · exact g2' s (.inl hs')
      · exact Nat.lt_succ_self _
      · exact g2' s (.inr (.inr hs'))
    · have he2 : (St.add { st with G := G } (.row E sz 0 [])).own id' = some e := by
        unfold St.own at he ⊢
        simp only [look_cons, if_neg e'] at he
        simp only [St.add, look_cons]
        exact he
      obtain ⟨a1, a2, a3⟩ := h2.h.own id' e he2
      exact ⟨e, he2, a2, a3⟩
  have h3 : Sat n₀ w M₀ (upd ρ st.nx (.slice none 0 0)) { (⟨st.sl, (id, some (.box t (cs1 ++ .row st.nx :: cs2))) :: (st.nx, some (.row E sz 0 [])) :: st.ow, st.nx + 1, st.M, st.nt, st.G⟩ : St) with G := G } a W := by
    refine ⟨⟨h2.h.below, h2.h.size, h2.h.mem, ?_, ?_, ?_, h2.h.pin, h2.h.mlow, ?_⟩, h2.nt, h2.sl, h2.marks⟩
    · intro id' e he
      obtain ⟨e0, k1, k2, k3⟩ := key id' e he
      exact ⟨(h2.h.own id' e0 k1).1, k2, k3⟩
    · intro i j ei ej hi hj hij
      obtain ⟨e1, k1, _⟩ := key i ei hi
      obtain ⟨e2, k2, _⟩ := key j ej hj
      exact h2.h.sep i j e1 e2 k1 k2 hij
    · intro i e b hi
      obtain ⟨e1, k1, _⟩ := key i e hi
      exact h2.h.msep i e1 b k1
    · intro b o hb
      obtain ⟨k1, k2⟩ := h2.h.fpin b o hb
      refine ⟨k1, fun i e hi => ?_⟩
      obtain ⟨e1, k3, _⟩ := key i e hi
      exact k2 i e1 k3
  exact h.imp G n₀ w M₀ _ a W h3
end Go.V
