/- What an operation does is told by the operation. No program in sight. -/
import Derived.Test.YtcopjjokhjealaaGreatN18
namespace Go.Proofs.YtcopjjokhjealaaGreat
open Go.RowKit

theorem St.det {l : Int} {it : List Int} {s s1 : Pl} {o1 : List Int} (h1 : St l it s s1 o1) : ∀ {s2 : Pl} {o2 : List Int}, St l it s s2 o2 → s1 = s2 ∧ o1 = o2 := by
  induction h1 with
  | done h =>
    intro s2 o2 h2
    cases h2 with
    | done _ => exact ⟨rfl, rfl⟩
    | step hk _ _ _ => rw [hk] at h; omega
  | @step s s1 s2 k p1 p2 h hk h1 h2 ih =>
    intro s3 o3 g
    cases g with
    | done hn => rw [h] at hn; omega
    | step hk' hkl g1 g2 =>
      rw [h] at hk'
      have hk' := Int.ofNat.inj hk'
      subst hk'
      obtain ⟨rfl, rfl⟩ := h1.det g1
      obtain ⟨rfl, rfl⟩ := ih g2
      exact ⟨rfl, rfl⟩
theorem AgR.det {l i : Int} {ad : Ct} {s s1 s2 : Pl} {o1 o2 : List Int} {e1 e2 : Int} (h1 : AgR l i ad s s1 o1 e1) (h2 : AgR l i ad s s2 o2 e2) : s1 = s2 ∧ o1 = o2 ∧ e1 = e2 := by
  rcases h1 with ⟨a1, rfl, rfl, rfl⟩ | ⟨k, a1, a2, rfl⟩
  · rcases h2 with ⟨b1, rfl, rfl, rfl⟩ | ⟨k, b1, b2, rfl⟩
    · exact ⟨rfl, rfl, rfl⟩
    · omega
  · rcases h2 with ⟨b1, rfl, rfl, rfl⟩ | ⟨k', b1, b2, rfl⟩
    · omega
    · obtain rfl : k = k' := by omega
      obtain ⟨rfl, rfl⟩ := a2.det b2
      exact ⟨rfl, rfl, rfl⟩
theorem GoR.det {l : Int} {s s1 s2 : Pl} {o1 o2 : List Int} (h1 : GoR l s s1 o1) (h2 : GoR l s s2 o2) : s1 = s2 ∧ o1 = o2 := by
  rcases h1 with ⟨a1, rfl, rfl⟩ | ⟨a1, a2, a3⟩
  · rcases h2 with ⟨b1, rfl, rfl⟩ | ⟨b1, b2, b3⟩
    · exact ⟨rfl, rfl⟩
    · rcases a1 with rfl | a1
      · exact absurd rfl b1
      · rw [a1] at b2; cases b2
  · rcases h2 with ⟨b1, rfl, rfl⟩ | ⟨b1, b2, b3⟩
    · rcases b1 with rfl | b1
      · exact absurd rfl a1
      · rw [b1] at a2; cases a2
    · exact a3.det b3
theorem IsNew.det {s : Pl} {a b : Int} (h1 : IsNew s a) (h2 : IsNew s b) : a = b := by
  obtain ⟨a1, a2, a3⟩ := h1
  obtain ⟨b1, b2, b3⟩ := h2
  rcases Int.lt_trichotomy a b with h | h | h
  · have := b3 a a1 h; rw [a2] at this; cases this
  · exact h
  · have := a3 b b1 h; rw [b2] at this; cases this
theorem NesR.det {par pid : Int} {its : List Int} {s s1 s2 : Pl} {n1 n2 e1 e2 : Int} (h1 : NesR par pid its s s1 n1 e1) (h2 : NesR par pid its s s2 n2 e2) : s1 = s2 ∧ n1 = n2 ∧ e1 = e2 := by
  rcases h1 with ⟨a1, rfl, rfl, rfl⟩ | ⟨a1, a2, rfl, rfl, rfl⟩ | ⟨a1, a2, a3, rfl, rfl, rfl⟩ | ⟨a1, a2, a3, a4, rfl, rfl, rfl⟩ | ⟨a1, a2, a3, a4, a5, rfl, rfl⟩ <;>
    rcases h2 with ⟨b1, rfl, rfl, rfl⟩ | ⟨b1, b2, rfl, rfl, rfl⟩ | ⟨b1, b2, b3, rfl, rfl, rfl⟩ | ⟨b1, b2, b3, b4, rfl, rfl, rfl⟩ | ⟨b1, b2, b3, b4, b5, rfl, rfl⟩ <;>
    first
      | exact ⟨rfl, rfl, rfl⟩
      | (rw [a1] at b1; cases b1; done)
      | exact absurd a2 b2
      | exact absurd b2 a2
      | exact absurd a3 b3
      | exact absurd b3 a3
      | omega
      | (obtain rfl := a5.det b5; exact ⟨rfl, rfl, rfl⟩)
theorem ComR.det {l i : Int} {its : List Int} {s s1 s2 : Pl} {o1 o2 : List Int} {e1 e2 : Int} (h1 : ComR l i its s s1 o1 e1) (h2 : ComR l i its s s2 o2 e2) : s1 = s2 ∧ o1 = o2 ∧ e1 = e2 := by
  rcases h1 with ⟨a1, rfl, rfl, rfl⟩ | ⟨k, r, n, y, a1, a2, a3, a4, a5⟩
  · rcases h2 with ⟨b1, rfl, rfl, rfl⟩ | ⟨k, r, n, y, b1, b2, b3, b4, b5⟩
    · exact ⟨rfl, rfl, rfl⟩
    · omega
  · rcases h2 with ⟨b1, rfl, rfl, rfl⟩ | ⟨k', r', n', y', b1, b2, b3, b4, b5⟩
    · omega
    · obtain rfl : k = k' := by omega
      rw [a2] at b2
      injection b2 with b2
      subst b2
      rw [a3] at b3
      injection b3 with b3
      subst b3
      rw [a4] at b4
      injection b4 with b4
      subst b4
      rcases a5 with ⟨x1, rfl, rfl, rfl⟩ | ⟨x1, x2, rfl, rfl, rfl⟩ | ⟨x1, x2, x3, rfl, rfl, rfl⟩ | ⟨x1, x2, x3, x4, rfl, rfl, rfl⟩ | ⟨x1, x2, x3, x4, x5, rfl⟩ <;>
        rcases b5 with ⟨z1, rfl, rfl, rfl⟩ | ⟨z1, z2, rfl, rfl, rfl⟩ | ⟨z1, z2, z3, rfl, rfl, rfl⟩ | ⟨z1, z2, z3, z4, rfl, rfl, rfl⟩ | ⟨z1, z2, z3, z4, z5, rfl⟩ <;>
        first
          | exact ⟨rfl, rfl, rfl⟩
          | exact absurd x1 z1
          | exact absurd z1 x1
          | (rw [x2] at z2; cases z2; done)
          | exact absurd x3 z3
          | exact absurd z3 x3
          | (rw [x4] at z4; cases z4; done)
          | (obtain ⟨rfl, rfl⟩ := x5.det z5; exact ⟨rfl, rfl, rfl⟩)
theorem DoR.det {x : Op} {s s1 s2 : Pl} {o1 o2 : List Int} {n1 n2 e1 e2 : Int} (h1 : DoR x s s1 o1 n1 e1) (h2 : DoR x s s2 o2 n2 e2) : s1 = s2 ∧ o1 = o2 ∧ n1 = n2 ∧ e1 = e2 := by
  cases h1 with
  | fin h => cases h2 <;> first | (exfalso; omega) | exact ⟨rfl, rfl, rfl, rfl⟩
  | com h hr => cases h2 <;> first | (exfalso; omega) | (rename_i g gr; obtain ⟨rfl, rfl, rfl⟩ := hr.det gr; exact ⟨rfl, rfl, rfl, rfl⟩)
  | con h hr => cases h2 <;> first | (exfalso; omega) | (rename_i g gr; obtain ⟨rfl, rfl, rfl⟩ := hr.det gr; exact ⟨rfl, rfl, rfl, rfl⟩)
  | drp h hr => cases h2 <;> first | (exfalso; omega) | (rename_i g gr; obtain ⟨rfl, rfl, rfl⟩ := hr.det gr; exact ⟨rfl, rfl, rfl, rfl⟩)
  | gon h hr => cases h2 <;> first | (exfalso; omega) | (rename_i g gr; obtain ⟨rfl, rfl⟩ := hr.det gr; exact ⟨rfl, rfl, rfl, rfl⟩)
  | nes h hr => cases h2 <;> first | (exfalso; omega) | (rename_i g gr; obtain ⟨rfl, rfl, rfl⟩ := hr.det gr; exact ⟨rfl, rfl, rfl, rfl⟩)
  | ahn h ha => cases h2 <;> first | (exfalso; omega) | exact ⟨rfl, rfl, rfl, rfl⟩ | (rename_i g ga; rw [ha] at ga; cases ga; done)
  | ahb h ha => cases h2 <;> first | (exfalso; omega) | (rename_i g ga; rw [ha] at ga; cases ga; done) | (rename_i g ga; rw [ha] at ga; injection ga with ga; subst ga; exact ⟨rfl, rfl, rfl, rfl⟩)
  | beg h => cases h2 <;> first | (exfalso; omega) | exact ⟨rfl, rfl, rfl, rfl⟩
/-- The first of the main line's items. -/
theorem first_y {s : Pl} (hv : Inv NoR s) : ∃ y, ∀ r ∈ s.li, r.l = 0 → ∃ n, s.ln 0 = some n ∧ n.it.head? = some y := by
  obtain ⟨n, hn, -⟩ := hv.c.z
  refine ⟨n.it.head?.getD 0, fun r hr h0 => ⟨n, hn, ?_⟩⟩
  obtain ⟨⟨n', h1, h2⟩, -⟩ := hv.c.hm r hr
  have h2 := h2.resolve_left (fun h => h)
  rw [h0, hn] at h1
  injection h1 with h1
  subst h1
  cases hq : n.it with
  | nil => rw [hq] at h2; cases h2
  | cons a b => rfl
end Go.Proofs.YtcopjjokhjealaaGreat
