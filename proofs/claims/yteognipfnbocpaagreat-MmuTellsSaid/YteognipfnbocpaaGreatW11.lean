/- Texts of elder seats, turned to this one. -/
import Derived.Test.YteognipfnbocpaaGreatW10
namespace Go.Proofs.YteognipfnbocpaaGreat
open Go.RowKit

theorem tmod8 (n : Int) : n.tmod 8 = n % 8 - if 0 ≤ n ∨ 8 ∣ n then 0 else 8 := by rw [Int.tmod_eq_emod]; split <;> rfl
theorem tmod256 (n : Int) : n.tmod 256 = n % 256 - if 0 ≤ n ∨ 256 ∣ n then 0 else 256 := by rw [Int.tmod_eq_emod]; split <;> rfl
theorem pick8 (w : World) (n : Int) : Calls Tryz.prog 26 #[.int .i64 n, .int .i64 8] w fun e w' => e = .returned (.int .i64 (n % 8)) ∧ w = w' := by
  have h := tmod8 n
  by_cases hc : 0 ≤ n ∨ (8 : Int) ∣ n
  · rw [if_pos hc] at h
    have h1 : n.tmod 8 = n % 8 := by omega
    have h2 : 0 ≤ n % 8 := by omega
    clear h hc
    go_enter Tryz.func26, Tryz.ntmps26
    go_wp2
    go_ret
    exact ⟨rfl, rfl⟩
  · rw [if_neg hc] at h
    have h1 : n.tmod 8 = n % 8 - 8 := by omega
    have h2 : n % 8 - 8 < 0 := by omega
    have h3 : -8 ≤ n % 8 - 8 := by omega
    have h4 : n % 8 - 8 + 8 = n % 8 := by omega
    have H4 := Lib.hid h4
    clear h hc h4
    generalize n % 8 - 8 = k at *
    go_enter Tryz.func26, Tryz.ntmps26
    go_wp2
    go_ret
    exact ⟨ret_int H4.out, rfl⟩
theorem pick256 (w : World) (n : Int) : Calls Tryz.prog 26 #[.int .i64 n, .int .i64 256] w fun e w' => e = .returned (.int .i64 (n % 256)) ∧ w = w' := by
  have h := tmod256 n
  by_cases hc : 0 ≤ n ∨ (256 : Int) ∣ n
  · rw [if_pos hc] at h
    have h1 : n.tmod 256 = n % 256 := by omega
    have h2 : 0 ≤ n % 256 := by omega
    clear h hc
    go_enter Tryz.func26, Tryz.ntmps26
    go_wp2
    go_ret
    exact ⟨rfl, rfl⟩
  · rw [if_neg hc] at h
    have h1 : n.tmod 256 = n % 256 - 256 := by omega
    have h2 : n % 256 - 256 < 0 := by omega
    have h3 : -256 ≤ n % 256 - 256 := by omega
    have h4 : n % 256 - 256 + 256 = n % 256 := by omega
    have H4 := Lib.hid h4
    clear h hc h4
    generalize n % 256 - 256 = k at *
    go_enter Tryz.func26, Tryz.ntmps26
    go_wp2
    go_ret
    exact ⟨ret_int H4.out, rfl⟩
def tru (b : Bool) : Int := if b then 1 else 0
theorem truth_any (w : World) (b : Bool) : Calls Tryz.prog 27 #[.bool b] w fun e w' => e = .returned (.int .i64 (tru b)) ∧ w = w' := by
  cases b with
  | true =>
    go_enter Tryz.func27, Tryz.ntmps27
    go_wp2
    go_ret
    exact ⟨rfl, rfl⟩
  | false =>
    go_enter Tryz.func27, Tryz.ntmps27
    go_wp2
    go_ret
    exact ⟨rfl, rfl⟩
end Go.Proofs.YteognipfnbocpaaGreat
