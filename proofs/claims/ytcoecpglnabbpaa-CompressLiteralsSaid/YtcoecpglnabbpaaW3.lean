/- equal. -/
import Derived.Test.YtcoecpglnabbpaaW2
namespace Go.Proofs.Ytcoecpglnabbpaa
open Go.RowKit

/-- The bytes of a string. -/
abbrev bys (s : ByteArray) : Bs := s.data.toList
def l_at (r : Bs) (k : Nat) : Option UInt8 := r[k]?
theorem eqN_of {l : Bs} {k : Nat} (h1 : 1 ≤ k) (hk : k ≤ l.length) (ha : ∀ j, j < k → l[j]? = l[0]?) (hb : k = l.length ∨ l[k]? ≠ l[0]?) : eqN l = k := by
  cases l with
  | nil => simp at hk; omega
  | cons a r =>
    rw [eqN_cons]
    have h : (r.takeWhile (· == a)) = r.take (k - 1) := by
      have hall : ∀ x ∈ r.take (k - 1), (x == a) = true := by
        intro x hx
        obtain ⟨j, hj, rfl⟩ := List.getElem_of_mem hx
        rw [List.length_take] at hj
        have := ha (j + 1) (by omega)
        simp only [List.getElem?_cons_succ, List.getElem?_cons_zero] at this
        rw [List.getElem_take]
        rw [List.getElem?_eq_getElem (by omega)] at this
        injection this with this
        simp [this]
      have e : r = r.take (k - 1) ++ r.drop (k - 1) := (List.take_append_drop _ _).symm
      have h2 : r.takeWhile (· == a) = (r.take (k - 1) ++ r.drop (k - 1)).takeWhile (· == a) := by rw [← e]
      rw [h2, List.takeWhile_append_of_pos hall]
      have h3 : (r.drop (k - 1)).takeWhile (· == a) = [] := by
        cases hd : r.drop (k - 1) with
        | nil => rfl
        | cons b t =>
          rw [List.takeWhile_cons]
          have hlen : k - 1 < r.length := by
            rcases Nat.lt_or_ge (k - 1) r.length with h | h
            · exact h
            · rw [List.drop_of_length_le h] at hd; cases hd
          have hk2 : l_at r (k - 1) = some b := by unfold l_at; rw [← List.head?_drop, hd]; rfl
          rcases hb with hb | hb
          · simp only [List.length_cons] at hb; omega
          · rw [if_neg]
            intro hba
            apply hb
            obtain ⟨m, rfl⟩ : ∃ m, k = m + 1 := ⟨k - 1, by omega⟩
            simp only [List.getElem?_cons_succ, List.getElem?_cons_zero]
            unfold l_at at hk2
            simp only [Nat.add_sub_cancel] at hk2
            rw [hk2]
            simpa using hba
      rw [h3, List.append_nil]
    rw [h, List.length_take]
    simp only [List.length_cons] at hk
    omega
theorem bys_at (s : ByteArray) (i : Nat) (h : i < s.size) : (bys s)[i]? = some s[i] := by
  have : i < (bys s).length := by simpa using h
  rw [List.getElem?_eq_getElem this]
  rfl
theorem bys_drop_at (s : ByteArray) (i j : Nat) (h : i + j < s.size) : ((bys s).drop i)[j]? = some s[i + j] := by
  rw [List.getElem?_drop]; exact bys_at s (i + j) h

set_option maxHeartbeats 1600000 in
set_option maxRecDepth 100000 in
theorem equal_any (s : ByteArray) (at_ : Nat) (w : World) (hs : s.size ≤ 1000) (hat : at_ < s.size) :
    Calls Try.prog 20 #[.string s, .int .i64 at_] w fun e w' => e = .returned (.int .i64 (eqN ((bys s).drop at_))) ∧ ∃ n, w' = w.drewN n := by
  have hlen : ((bys s).drop at_).length = s.size - at_ := by simp
  go_enter Try.func20, Try.ntmps20
  go_wp2
  go_loopw [5] (fun n wr => ∃ k : Nat, 1 ≤ k ∧ at_ + k ≤ s.size ∧ n = .int .i64 k ∧ (∀ j, j < k → ((bys s).drop at_)[j]? = ((bys s).drop at_)[0]?) ∧ ∃ d, wr = w.drewN d) (fun n _ => s.size - (intOf n).toNat)
  case atStart => exact ⟨1, by omega, by omega, rfl, fun j hj => by rw [show j = 0 by omega], 0, rfl⟩
  case round =>
    obtain ⟨k, hk1, hk, rfl, hst, d, rfl⟩ := hrel
    have HST := Lib.hid hst
    clear hst
    have j0 : (0 : Int) ≤ (at_ : Int) + k := by omega
    have jn : ((at_ : Int) + k).toNat = at_ + k := by omega
    have jw : IntKind.i64.wrap ((at_ : Int) + k) = (at_ : Int) + k := by rw [IntKind.wrap_i64]; omega
    have ja : (0 : Int) ≤ at_ := by omega
    have jb : (at_ : Int) < s.size := by omega
    by_cases hlt : at_ + k < s.size
    · have jc : (at_ : Int) + k < s.size := by omega
      have jd : decide ((at_ : Int) + k < s.size) = true := by simp [jc]
      by_cases he : s[at_ + k] = s[at_]
      · have eb : ((s[at_ + k].toNat : Int) == (s[at_].toNat : Int)) = true := by simp [he]
        have HE := Lib.hid he
        clear he
        go_wp2_with fail
        go_quiet (fail)
        go_wp2
        go_roundw
        case rel => exact ⟨k + 1, by omega, by omega, by go_num, fun j hj => by
          by_cases e : j = k
          · subst e; rw [bys_drop_at s at_ j hlt, bys_drop_at s at_ 0 (by omega)]; simp [HE.out]
          · exact HST.out j (by omega), d + nq, by simp⟩
        case measure => simp [intOf]; omega
      · have eb : ((s[at_ + k].toNat : Int) == (s[at_].toNat : Int)) = false := by
          simp only [beq_eq_false_iff_ne, ne_eq]
          intro h
          exact he (UInt8.toNat_inj.1 (by omega))
        have HE := Lib.hid (eqN_of (l := (bys s).drop at_) hk1 (by omega) HST.out (.inr (by rw [bys_drop_at s at_ k hlt, bys_drop_at s at_ 0 (by omega)]; simpa using he)))
        clear he
        go_wp2_with fail
        go_quiet (fail)
        go_wp2
        go_ret
        rw [HE.out]
        exact ⟨rfl, d + nq, by simp [World.drewN_drewN]⟩
    · have jd : decide ((at_ : Int) + k < s.size) = false := by simp; omega
      have HE := Lib.hid (eqN_of (l := (bys s).drop at_) hk1 (by omega) HST.out (.inl (by omega)))
      go_wp2_with fail
      go_quiet (fail)
      go_wp2
      go_ret
      rw [HE.out]
      exact ⟨rfl, d + nq, by simp [World.drewN_drewN]⟩
end Go.Proofs.Ytcoecpglnabbpaa
