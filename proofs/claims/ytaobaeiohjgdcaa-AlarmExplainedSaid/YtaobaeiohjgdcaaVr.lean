/- The verification-condition framework, part R: a nil slice is a growing slice of one's own. -/
import Derived.Test.YtaobaeiohjgdcaaVq
namespace Go.V
open Go Go.RowKit
theorem Wk.nil {st st' : St} (d : Nat) (E sz : Nat) (hd : look st.sl d = some (.v (.slice none 0 0))) (h : Wk ⟨(d, .row st.nx) :: st.sl, (st.nx, some (.row E sz 0 [])) :: st.ow, st.nx + 1, st.M, st.nt, st.G⟩ st') : Wk st st' := by
  refine ⟨fun G n₀ w M₀ ρ a W hs => ?_, h.y, h.m⟩
  have h1 : SatH n₀ w M₀ (upd ρ st.nx (.slice none 0 0)) (St.add { st with G := G } (.row E sz 0 [])) W :=
    hs.h.add (.row E sz 0 []) (.slice none 0 0) (Below.refl _ W) trivial ⟨⟨by simp, .inl ⟨upd_same _ _ _, rfl⟩⟩, by simp⟩ (fun b hb => by simp [ob] at hb)
  have h2 : Sat n₀ w M₀ (upd ρ st.nx (.slice none 0 0)) (St.add { st with G := G } (.row E sz 0 [])) a W :=
    hs.env h1 (agree_upd ρ st.nx _) (Nat.le_succ _) rfl rfl rfl
  have h3 : Sat n₀ w M₀ (upd ρ st.nx (.slice none 0 0)) { (⟨(d, .row st.nx) :: st.sl, (st.nx, some (.row E sz 0 [])) :: st.ow, st.nx + 1, st.M, st.nt, st.G⟩ : St) with G := G } a W := by
    refine ⟨⟨h2.h.below, h2.h.size, h2.h.mem, h2.h.own, h2.h.sep, h2.h.msep, h2.h.pin, h2.h.mlow, h2.h.fpin⟩, h2.nt, ?_, h2.marks⟩
    intro d' s hd'
    rw [look_cons] at hd'
    split at hd'
    · rename_i e
      subst e
      obtain rfl := Option.some.inj hd'
      obtain ⟨k1, _, k3⟩ := hs.sl d' _ hd
      exact ⟨k1, Nat.lt_succ_self _, by rw [k3]; simp [SV.den, upd_same, slOf]⟩
    · exact h2.sl d' s hd'
  exact h.imp G n₀ w M₀ _ a W h3
end Go.V
