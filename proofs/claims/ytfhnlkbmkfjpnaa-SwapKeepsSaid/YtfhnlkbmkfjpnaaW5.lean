/- The walks of body and do. -/
import Derived.Test.YtfhnlkbmkfjpnaaW4
import Derived.Deep.RegionWith
import Derived.Deep.DeepCutAuto
namespace Go.Proofs.Ytfhnlkbmkfjpnaa
open Go.RowKit

/-- Which operation an Op is. -/
def opk (d : Int) : Int := bits .and .i64 d 7
/-- What a Put puts. -/
def bodyS (d n b : Int) : ByteArray := if opk d = 2 ∧ 0 ≤ n ∧ n < 64 then (pg b).extract 0 n.toNat else pg b
theorem ret_str {a b : ByteArray} (h : a = b) : Ending.returned (.string a) = .returned (.string b) := by rw [h]

theorem body_any (w : World) (d n b : Int) (h0 : 0 ≤ b) (h1 : b ≤ 255) :
    Calls Try.prog 10 #[.agg #[.int .i64 d, .int .i64 n, .int .u8 b]] w fun e w' => e = .returned (.string (bodyS d n b)) ∧ Keeps [] w w' := by
  have hsz : 64 ≤ (pg b).size := by rw [pg_size]; omega
  have hk0 : Keeps [] w (w.alloc (.cells #[.int .i64 d, .int .i64 n, .int .u8 b] 31)) := (Keeps.refl _ _).alloc _
  by_cases hk : bits .and .i64 d 7 = 2
  · have t1 : (bits .and .i64 d 7 == 2) = true := by simp [hk]
    by_cases hn : 0 ≤ n ∧ n < 64
    · have H := Lib.hid (show bodyS d n b = (pg b).extract 0 n.toNat from if_pos ⟨hk, hn⟩)
      obtain ⟨hn0, hn1⟩ := hn
      clear hk
      go_enter Try.func10, Try.ntmps10
      go_wp2_with fail
      go_region_with (go_at_call 13; refine (page_any _ _ h0 h1).mono ?_; rintro e w1 ⟨rfl, hk1⟩; have q1 := hk1.cell (p := ⟨w.heap.size, 1, none⟩) (by simp) (by simp))
      all_goals
        go_wp2
        go_ret
        exact ⟨ret_str H.out.symm, by repeat (first | exact hk0.trans hk1 (by simp) | exact hk0.drew.trans hk1 (by simp) | refine Keeps.drew ?_)⟩
    · have H := Lib.hid (show bodyS d n b = pg b from if_neg (fun h => hn h.2))
      clear hk
      by_cases hn0 : 0 ≤ n
      · have hn1 : 64 ≤ n := by omega
        go_enter Try.func10, Try.ntmps10
        go_wp2_with fail
        refine (page_any _ _ h0 h1).mono ?_
        rintro e w1 ⟨rfl, hk1⟩
        go_wp2
        go_ret
        exact ⟨ret_str H.out.symm, hk0.trans hk1 (by simp)⟩
      · go_enter Try.func10, Try.ntmps10
        go_wp2_with fail
        refine (page_any _ _ h0 h1).mono ?_
        rintro e w1 ⟨rfl, hk1⟩
        go_wp2
        go_ret
        exact ⟨ret_str H.out.symm, hk0.trans hk1 (by simp)⟩
  · have H := Lib.hid (show bodyS d n b = pg b from if_neg (fun h => hk h.1))
    have t1 : (bits .and .i64 d 7 == 2) = false := by simp [hk]
    clear hk
    go_enter Try.func10, Try.ntmps10
    go_wp2_with fail
    refine (page_any _ _ h0 h1).mono ?_
    rintro e w1 ⟨rfl, hk1⟩
    go_wp2
    go_ret
    exact ⟨ret_str H.out.symm, hk0.trans hk1 (by simp)⟩

/-- What an operation returns, and what it leaves. -/
def Sw.step (s : Sw) (d n b : Int) : (ByteArray × Int × Int) × Sw :=
  if opk d = 3 ∨ opk d = 4 then (((s.get n).1, 0, (s.get n).2.1), (s.get n).2.2)
  else if opk d = 5 ∨ opk d = 6 then ((E0, 0, 0), s.free n)
  else if opk d = 7 then ((E0, 0, 0), s.fail n)
  else ((E0, (s.put (bodyS d n b)).1, if (s.put (bodyS d n b)).2.1 then 0 else 6), (s.put (bodyS d n b)).2.2)

set_option maxHeartbeats 1000000 in
theorem do_any (w : World) (F : List Nat) (p : Nat) (s : Sw) (d n b : Int) (h : SwRep w F p s) (hr : s.ret ≤ 1000000000) (h0 : 0 ≤ b) (h1 : b ≤ 255) :
    Calls Try.prog 9 #[.pointer (some ⟨p, 0, none⟩), .agg #[.int .i64 d, .int .i64 n, .int .u8 b]] w fun e w' =>
      e = .returned (.tuple #[.string (s.step d n b).1.1, .int .i64 (s.step d n b).1.2.1, .int .i64 (s.step d n b).1.2.2]) ∧ SwRep w' F p (s.step d n b).2 ∧ Keeps F w w' := by
  have hk0 : Keeps [] w (w.alloc (.cells #[.int .i64 d, .int .i64 n, .int .u8 b] 31)) := (Keeps.refl _ _).alloc _
  have hA := h.keep hk0 (by simp)
  have hk0' : Keeps F w (w.alloc (.cells #[.int .i64 d, .int .i64 n, .int .u8 b] 31)) := (Keeps.refl _ _).alloc _
  by_cases h34 : opk d = 3 ∨ opk d = 4
  · have H := Lib.hid (show s.step d n b = _ from if_pos h34)
    have hg := get_any _ F p s n hA hr
    have HG := Lib.hid hg; clear hg
    rcases h34 with h34 | h34
    · have t1 : (bits .and .i64 d 7 == 3) = true := by simp [show bits .and .i64 d 7 = 3 from h34]
      clear h34
      go_enter Try.func9, Try.ntmps9
      go_wp2_with fail
      refine HG.out.mono ?_
      rintro e w1 ⟨rfl, hw1, hk1⟩
      go_wp2
      go_ret3
      rw [H.out]
      exact ⟨rfl, hw1, hk0'.trans hk1 (fun g hg => .inl hg)⟩
    · have t0 : (bits .and .i64 d 7 == 3) = false := by simp [show bits .and .i64 d 7 = 4 from h34]
      have t1 : (bits .and .i64 d 7 == 4) = true := by simp [show bits .and .i64 d 7 = 4 from h34]
      clear h34
      go_enter Try.func9, Try.ntmps9
      go_wp2_with fail
      refine HG.out.mono ?_
      rintro e w1 ⟨rfl, hw1, hk1⟩
      go_wp2
      go_ret3
      rw [H.out]
      exact ⟨rfl, hw1, hk0'.trans hk1 (fun g hg => .inl hg)⟩
  by_cases h56 : opk d = 5 ∨ opk d = 6
  · have H := Lib.hid (show s.step d n b = _ from (if_neg h34).trans (if_pos h56))
    have hg := free_any _ F p s n hA
    have HG := Lib.hid hg; clear hg h34
    rcases h56 with hk | hk
    · have t3 : (bits .and .i64 d 7 == 3) = false := by simp [show bits .and .i64 d 7 = 5 from hk]
      have t4 : (bits .and .i64 d 7 == 4) = false := by simp [show bits .and .i64 d 7 = 5 from hk]
      have t5 : (bits .and .i64 d 7 == 5) = true := by simp [show bits .and .i64 d 7 = 5 from hk]
      clear hk
      go_enter Try.func9, Try.ntmps9
      go_wp2_with fail
      refine HG.out.mono ?_
      rintro e w1 ⟨rfl, hw1, hk1⟩
      go_wp2
      go_ret3
      rw [H.out]
      exact ⟨rfl, hw1, hk0'.trans hk1 (fun g hg => .inl hg)⟩
    · have t3 : (bits .and .i64 d 7 == 3) = false := by simp [show bits .and .i64 d 7 = 6 from hk]
      have t4 : (bits .and .i64 d 7 == 4) = false := by simp [show bits .and .i64 d 7 = 6 from hk]
      have t5 : (bits .and .i64 d 7 == 5) = false := by simp [show bits .and .i64 d 7 = 6 from hk]
      have t6 : (bits .and .i64 d 7 == 6) = true := by simp [show bits .and .i64 d 7 = 6 from hk]
      clear hk
      go_enter Try.func9, Try.ntmps9
      go_wp2_with fail
      refine HG.out.mono ?_
      rintro e w1 ⟨rfl, hw1, hk1⟩
      go_wp2
      go_ret3
      rw [H.out]
      exact ⟨rfl, hw1, hk0'.trans hk1 (fun g hg => .inl hg)⟩
  by_cases h7 : opk d = 7
  · have H := Lib.hid (show s.step d n b = _ from (if_neg h34).trans ((if_neg h56).trans (if_pos h7)))
    have hg := fail_any _ F p s n hA
    have HG := Lib.hid hg; clear hg h34 h56
    have hk := h7
    clear h7
    · have t3 : (bits .and .i64 d 7 == 3) = false := by simp [show bits .and .i64 d 7 = 7 from hk]
      have t4 : (bits .and .i64 d 7 == 4) = false := by simp [show bits .and .i64 d 7 = 7 from hk]
      have t5 : (bits .and .i64 d 7 == 5) = false := by simp [show bits .and .i64 d 7 = 7 from hk]
      have t6 : (bits .and .i64 d 7 == 6) = false := by simp [show bits .and .i64 d 7 = 7 from hk]
      have t7 : (bits .and .i64 d 7 == 7) = true := by simp [show bits .and .i64 d 7 = 7 from hk]
      clear hk
      go_enter Try.func9, Try.ntmps9
      go_wp2_with fail
      refine HG.out.mono ?_
      rintro e w1 ⟨rfl, hw1, hk1⟩
      go_wp2
      go_ret3
      rw [H.out]
      exact ⟨rfl, hw1, hk0'.trans hk1 (fun g hg => .inl hg)⟩
  · have H := Lib.hid (show s.step d n b = _ from (if_neg h34).trans ((if_neg h56).trans (if_neg h7)))
    have t3 : (bits .and .i64 d 7 == 3) = false := by simp; exact fun h => h34 (.inl h)
    have t4 : (bits .and .i64 d 7 == 4) = false := by simp; exact fun h => h34 (.inr h)
    have t5 : (bits .and .i64 d 7 == 5) = false := by simp; exact fun h => h56 (.inl h)
    have t6 : (bits .and .i64 d 7 == 6) = false := by simp; exact fun h => h56 (.inr h)
    have t7 : (bits .and .i64 d 7 == 7) = false := by simp; exact h7
    clear h34 h56 h7
    have hp := fun W (hW : SwRep W F p s) => put_any W F p s (bodyS d n b) hW hr
    cases hq : (s.put (bodyS d n b)).2.1
    all_goals
      have HQ := Lib.hid hq
      go_enter Try.func9, Try.ntmps9
      go_wp2_with fail
      refine (body_any _ d n b h0 h1).mono ?_
      rintro e w1 ⟨rfl, hk1⟩
      go_wp2_with fail
      refine (hp _ (hA.keep hk1 (by simp))).mono ?_
      rw [HQ.out]
      rintro e w2 ⟨rfl, hw2, hk2⟩
      clear hp hq
      go_wp2
      go_ret3
      rw [H.out, HQ.out]
      exact ⟨rfl, hw2, (hk0'.trans hk1 (by simp)).trans hk2 (fun g hg => .inl hg)⟩
end Go.Proofs.Ytfhnlkbmkfjpnaa
