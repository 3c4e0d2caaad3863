/- named at a list of any length. -/
import Derived.Test.YtiffjaociblboaaW21
namespace Go.Proofs.Ytiffjaociblboaa
open Go.RowKit

/-- A list that lies at A, of any length. -/
structure AtB (w : World) (A : Option Addr) (L : List Ar) : Prop where
  at_ : 0 < L.length → ∃ b off, A = some ⟨b, off, none⟩ ∧ b < w.heap.size ∧ ∀ k (hk : k < L.length),
    w.cell? ⟨b, off + k * 6, none⟩ = some (.int .i64 L[k].a) ∧ w.cell? ⟨b, off + k * 6 + 1, none⟩ = some (.int .i64 L[k].n) ∧ w.cell? ⟨b, off + k * 6 + 2, none⟩ = some (.string L[k].o) ∧
    w.cell? ⟨b, off + k * 6 + 3, none⟩ = some (.int .i64 L[k].f) ∧ w.cell? ⟨b, off + k * 6 + 4, none⟩ = some (.bool L[k].s) ∧ w.cell? ⟨b, off + k * 6 + 5, none⟩ = some (.bool L[k].w)
  mx : L.length ≤ 9223372036854775807
theorem AtB.keep {w w' : World} {A : Option Addr} {L : List Ar} (h : AtB w A L) (hk : Keeps [] w w') : AtB w' A L := by
  refine ⟨fun h0 => ?_, h.mx⟩
  obtain ⟨b, off, h1, h2, h3⟩ := h.at_ h0
  have e : ∀ o, w'.cell? ⟨b, o, none⟩ = w.cell? ⟨b, o, none⟩ := fun o => hk.cell (p := ⟨b, o, none⟩) h2 (by simp)
  exact ⟨b, off, h1, Nat.lt_of_lt_of_le h2 hk.size, fun k hk => by simp only [e]; exact h3 k hk⟩
theorem AtB.atL {w : World} {A : Option Addr} {L : List Ar} (h : AtB w A L) (hl : L.length ≤ 1000000) : AtL w A L := ⟨h.at_, hl⟩
theorem nmd_len {L : List Ar} (h : nmd L = true) : L.length ≤ 20 := by
  unfold nmd at h
  rw [Bool.and_eq_true, decide_eq_true_eq] at h
  exact h.2
set_option maxRecDepth 100000 in
set_option maxHeartbeats 3200000 in
theorem named_big (w : World) (A : Option Addr) (L : List Ar) (c : Nat) (h : AtB w A L) :
    Calls Try.prog 7 #[.slice A L.length c] w fun e w' => e = .returned (.bool (nmd L)) ∧ w = w' := by
  have hm := h.mx
  have HH := Lib.hid h
  obtain ⟨V, hV⟩ : ∃ V, nmd L = V := ⟨_, rfl⟩
  rw [hV]
  have HV := Lib.hid hV
  clear h hV
  go_enter Try.func7, Try.ntmps7
  go_wp2_with fail
  go_loop [3] (fun i => ∃ k : Nat, k ≤ L.length ∧ i = .int .i64 k ∧ L.all (fun x => decide (x.o.size ≤ 20)) = (L.drop k).all (fun x => decide (x.o.size ≤ 20))) (fun i => L.length - (intOf i).toNat)
  case atStart => exact ⟨0, by omega, rfl, by rw [List.drop_zero]⟩
  case round =>
    obtain ⟨k, hk, rfl, hch⟩ := hrel
    have HCH := Lib.hid hch
    clear hch
    by_cases hlt : k < L.length
    · obtain ⟨bl, off, rfl, hbl, hc⟩ := HH.out.at_ (by omega)
      obtain ⟨-, -, c2, -, -, -⟩ := hc k hlt
      have hd := HCH.out
      rw [List.drop_eq_getElem_cons hlt, List.all_cons] at hd
      obtain ⟨x, hx⟩ : ∃ x, L[k] = x := ⟨_, rfl⟩
      rw [hx] at c2 hd
      have HD := Lib.hid hd
      clear hx hc hd
      by_cases hs : x.o.size ≤ 20
      · have hn : L.all (fun x => decide (x.o.size ≤ 20)) = (L.drop (k + 1)).all (fun x => decide (x.o.size ≤ 20)) := by rw [HD.out, decide_eq_true hs]; rfl
        have HN := Lib.hid hn
        clear hn
        go_wp2_with fail
        go_round
        case rel => exact ⟨k + 1, by omega, by go_num, HN.out⟩
        case measure => simp [intOf]; omega
      · have eV : V = false := by rw [← HV.out]; unfold nmd; rw [HD.out, decide_eq_false hs]; rfl
        have HE := Lib.hid eV
        have hs' : 20 < x.o.size := by omega
        clear eV hs
        go_wp2_with fail
        go_ret
        exact ⟨ret_bool HE.out.symm, rfl⟩
    · obtain rfl : k = L.length := by omega
      have hc := HCH.out
      rw [List.drop_length] at hc
      have eV : V = decide (L.length ≤ 20) := by rw [← HV.out]; unfold nmd; rw [hc]; rfl
      have HE := Lib.hid eV
      clear eV hc
      go_wp2_with fail
      go_ret
      rw [HE.out]
      exact ⟨ret_bool (by simp; omega), rfl⟩
end Go.Proofs.Ytiffjaociblboaa
