/- AreasKeep: plain laws. -/
import Derived.Test.YtiffjaociblboaaX1
namespace Go.Proofs.Ytiffjaociblboaa
open Go.RowKit

theorem vl_mk {L : List Ar} (h1 : chn 0 L = true) (h2 : L.length ≤ 16) : Vl L = true := by
  unfold Vl
  rw [Bool.and_eq_true, decide_eq_true_eq]
  exact ⟨h1, h2⟩
theorem map_ok {x : Ar} {L : List Ar} (hL : Vl L = true) (hE : mapE x L = 0) : Vd x ∧ Vl (insA x L) = true ∧ ∀ p, fnd (insA x L) p = if inA p x then some x else fnd L p := by
  obtain ⟨hc, hl⟩ := vl_chn hL
  unfold mapE at hE
  split at hE
  · rename_i hv
    split at hE
    · cases hE
    · rename_i hcl
      split at hE
      · cases hE
      · have hx := vld_iff.1 hv
        have hcl : clash x L = false := by simpa using hcl
        exact ⟨hx, vl_mk (chn_ins hx hc hx.a0 hcl) (by rw [insA_len]; omega), fnd_ins hx hc hcl⟩
  · cases hE
theorem unm_okay {L : List Ar} {p n : Int} (hL : Vl L = true) (hE : unmE L p n = 0) : (0 ≤ p ∧ 1 ≤ n ∧ n ≤ 256 ∧ p ≤ 256 - n) ∧ Vl (unmA L p n) = true ∧ (∀ t, p ≤ t → t < p + n → fnd (unmA L p n) t = none) ∧ ∀ t, ¬ (p ≤ t ∧ t < p + n) → shw (fnd L t) = shw (fnd (unmA L p n) t) := by
  obtain ⟨hc, hl⟩ := vl_chn hL
  unfold unmE at hE
  split at hE
  · rename_i hv
    split at hE
    · cases hE
    · unfold unmR at hv
      rw [decide_eq_true_eq] at hv
      exact ⟨hv, vl_mk (unm_chn (by omega) hc) (by omega), fun t a b => (unm_fnd hc t).1 ⟨a, b⟩, fun t h => ((unm_fnd hc t).2 h).symm⟩
  · cases hE
end Go.Proofs.Ytiffjaociblboaa
