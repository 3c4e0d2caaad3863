/- The walks of pick and do. -/
import Derived.Test.YtcikdffahnnbhaaW8
namespace Go.Proofs.Ytcikdffahnnbhaa
open Go.RowKit

theorem emod_of_tmod (n m : Int) (hm : 0 < m) : n % m = (if n.tmod m < 0 then n.tmod m + m else n.tmod m) ∧ -m ≤ n.tmod m ∧ n.tmod m < m := by
  have h1 := Int.emod_nonneg n (by omega : m ≠ 0)
  have h2 := Int.emod_lt_of_pos n hm
  have h3 := Int.tmod_eq_emod (a := n) (b := m)
  split at h3 <;> split <;> omega
set_option maxRecDepth 100000 in
set_option maxHeartbeats 1600000 in
theorem residue_any (w : World) (n m : Int) (hm : 0 < m) (hm1 : m ≤ 1000) :
    Calls Try.prog 12 #[.int .i64 n, .int .i64 m] w fun e w' => e = .returned (.int .i64 (n % m)) ∧ w' = w := by
  have hz : m ≠ 0 := by omega
  obtain ⟨h1, h2, h3⟩ := emod_of_tmod n m hm
  have H1 := Lib.hid h1
  clear h1
  go_enter Try.func12, Try.ntmps12
  go_wp2_with fail
  · go_ret
    rw [H1.out, if_pos (by assumption)]
    simp
  · go_ret
    rw [H1.out, if_neg (by omega)]
    simp

/-- The operation (d, f, o). -/
def Ck.op (s : Ck) (d f o : Int) : Ck :=
  if d % 5 = 0 then s.use f o else if d % 5 = 1 then s.gone f else if d % 5 = 2 then s.touch f else if d % 5 = 3 then s.picked else s.picked.gone s.pickF
def Ck.opF (s : Ck) (d : Int) : Int := if d % 5 < 3 then 0 else s.pickF
def Ck.opB (s : Ck) (d : Int) : Bool := decide (3 ≤ d % 5) && s.victim.2
theorem pass_N (s : Ck) : s.pass.N = s.N := by unfold Ck.pass; split <;> rfl
theorem passN_N (s : Ck) (k : Nat) : (s.passN k).N = s.N := by
  induction k with
  | zero => rfl
  | succ k ih => show (s.passN k).pass.N = _; rw [pass_N, ih]
theorem picked_N (s : Ck) : s.picked.N = s.N := by
  unfold Ck.picked Ck.take Ck.round
  split
  · rw [pass_N, passN_N]; split
    · rw [passN_N]
    · rfl
  · rfl
theorem picked_len (s : Ck) : s.picked.L.length = s.L.length := by
  unfold Ck.picked Ck.take Ck.round
  split
  · rw [pass_len, passN_len]; split
    · rw [passN_len]
    · rfl
  · rfl
theorem touch_len (s : Ck) (f : Int) : (s.touch f).L.length = s.L.length := by unfold Ck.touch; split <;> (try split) <;> simp
theorem touch_N (s : Ck) (f : Int) : (s.touch f).N ≤ s.N + 1 := by unfold Ck.touch; split <;> (try split) <;> simp
theorem give_len (s : Ck) (f o : Int) : (s.give f o).L.length = s.L.length := by unfold Ck.give; simp [gone_len]
theorem give_N (s : Ck) (f o : Int) : (s.give f o).N ≤ s.N + 2 := by unfold Ck.give; have := gone_N s f; simp only []; omega
theorem use_len (s : Ck) (f o : Int) : (s.use f o).L.length = s.L.length := by unfold Ck.use; split <;> (try split) <;> simp [touch_len, give_len]
theorem use_N (s : Ck) (f o : Int) : (s.use f o).N ≤ s.N + 3 := by
  have h1 := give_N s f o
  have h2 := touch_N s f
  have h3 := touch_N (s.give f o) f
  unfold Ck.use; split <;> (try split) <;> omega
theorem op_len (s : Ck) (d f o : Int) : (s.op d f o).L.length = s.L.length := by
  unfold Ck.op; repeat' split
  all_goals simp [use_len, gone_len, touch_len, picked_len]
theorem op_N (s : Ck) (d f o : Int) : (s.op d f o).N ≤ s.N + 3 := by
  have h1 := use_N s f o
  have h2 := gone_N s f
  have h3 := touch_N s f
  have h4 := picked_N s
  have h5 := gone_N s.picked s.pickF
  unfold Ck.op; repeat' split
  all_goals omega
set_option maxRecDepth 100000 in
set_option maxHeartbeats 1600000 in
theorem do_any (w : World) (F : List Nat) (p : Nat) (s : Ck) (d f o : Int) (h : CkRep w F p s) (hN : s.N ≤ 900000) (h1 : -9223372036854775808 ≤ o) (h2 : o ≤ 9223372036854775807) :
    Calls Try.prog 8 #[.pointer (some ⟨p, 0, none⟩), .agg #[.int .i64 d, .int .i64 f, .int .i64 o]] w fun e w' => e = .returned (.tuple #[.int .i64 (s.opF d), .bool (s.opB d)]) ∧ CkRep w' F p (s.op d f o) ∧ Keeps F w w' := by
  have hr := residue_any (w.alloc (.cells #[.int .i64 d, .int .i64 f, .int .i64 o] 29)) d 5 (by omega) (by omega)
  have q1 := Int.emod_nonneg d (by omega : (5 : Int) ≠ 0)
  have q2 := Int.emod_lt_of_pos d (by omega : (0 : Int) < 5)
  have kA : Keeps [] w (w.alloc (.cells #[.int .i64 d, .int .i64 f, .int .i64 o] 29)) := (Keeps.refl _ _).alloc _
  have rA := h.keep kA (by simp)
  have bA := Blk.new w 29 #[.int .i64 d, .int .i64 f, .int .i64 o]
  have ng : w.heap.size ∉ F := fun hx => by have := h.lt _ hx; omega
  have h0 : s.op d f o = (if d % 5 = 0 then s.use f o else if d % 5 = 1 then s.gone f else if d % 5 = 2 then s.touch f else if d % 5 = 3 then s.picked else s.picked.gone s.pickF) := rfl
  have h01 : s.opF d = if d % 5 < 3 then 0 else s.pickF := rfl
  have h02 : s.opB d = (decide (3 ≤ d % 5) && s.victim.2) := rfl
  go_enter Try.func8, Try.ntmps8
  go_wp2_with fail
  refine hr.mono ?_
  rintro e w1 ⟨rfl, e1⟩
  rw [← e1] at rA kA bA
  clear hr e1 h
  obtain ⟨g, hg⟩ : ∃ g, g = w.heap.size := ⟨_, rfl⟩
  rw [← hg] at bA ng ⊢
  clear hg
  have c1 : w1.cell? ⟨g, 1, none⟩ = some (.int .i64 f) := bA.cell 1
  have c2 : w1.cell? ⟨g, 2, none⟩ = some (.int .i64 o) := bA.cell 2
  clear bA ng
  have kA : Keeps F w w1 := kA.mono (by simp)
  generalize d % 5 = q at *
  obtain rfl | rfl | rfl | rfl | rfl : q = 0 ∨ q = 1 ∨ q = 2 ∨ q = 3 ∨ q = 4 := by omega
  · rw [if_pos rfl] at h0
    rw [if_pos (by decide)] at h01
    have H := Lib.hid (And.intro h0 (And.intro h01 h02))
    clear h0 h01 h02
    go_wp2_with fail
    refine (use_any _ F p s f o rA hN h1 h2).mono ?_
    rintro e w2 ⟨rfl, r2, k2⟩
    have K := kA.trans k2 (fun x hx => .inl hx)
    go_wp2
    go_ret2
    obtain ⟨a, b, c⟩ := H.out
    rw [a, b, c]
    exact ⟨rfl, r2, K⟩
  · rw [if_neg (by decide)] at h0; rw [if_pos rfl] at h0
    rw [if_pos (by decide)] at h01
    have H := Lib.hid (And.intro h0 (And.intro h01 h02))
    clear h0 h01 h02
    go_wp2_with fail
    refine (gone_any _ F p s f rA (by omega)).mono ?_
    rintro e w2 ⟨rfl, r2, k2⟩
    have K := kA.trans k2 (fun x hx => .inl hx)
    go_wp2
    go_ret2
    obtain ⟨a, b, c⟩ := H.out
    rw [a, b, c]
    exact ⟨rfl, r2, K⟩
  · rw [if_neg (by decide)] at h0; rw [if_neg (by decide)] at h0; rw [if_pos rfl] at h0
    rw [if_pos (by decide)] at h01
    have H := Lib.hid (And.intro h0 (And.intro h01 h02))
    clear h0 h01 h02
    go_wp2_with fail
    refine (touch_any _ F p s f rA (by omega)).mono ?_
    rintro e w2 ⟨rfl, r2, k2⟩
    have K := kA.trans k2 (fun x hx => .inl hx)
    go_wp2
    go_ret2
    obtain ⟨a, b, c⟩ := H.out
    rw [a, b, c]
    exact ⟨rfl, r2, K⟩
  · rw [if_neg (by decide)] at h0; rw [if_neg (by decide)] at h0; rw [if_neg (by decide)] at h0; rw [if_pos rfl] at h0
    rw [if_neg (by decide)] at h01
    have H := Lib.hid (And.intro h0 (And.intro h01 h02))
    clear h0 h01 h02
    go_wp2_with fail
    refine (pick_any _ F p s rA).mono ?_
    rintro e w2 ⟨rfl, r2, k2⟩
    have K := kA.trans k2 (fun x hx => .inl hx)
    go_wp2
    go_ret2
    obtain ⟨a, b, c⟩ := H.out
    rw [a, b, c]
    exact ⟨by simp, r2, K⟩
  · rw [if_neg (by decide)] at h0; rw [if_neg (by decide)] at h0; rw [if_neg (by decide)] at h0; rw [if_neg (by decide)] at h0
    rw [if_neg (by decide)] at h01
    have H := Lib.hid (And.intro h0 (And.intro h01 h02))
    clear h0 h01 h02
    go_wp2_with fail
    refine (pick_any _ F p s rA).mono ?_
    rintro e w2 ⟨rfl, r2, k2⟩
    have K := kA.trans k2 (fun x hx => .inl hx)
    have hN2 : s.picked.N ≤ 1000000 := by rw [picked_N]; omega
    go_wp2_with fail
    refine (gone_any _ F p s.picked s.pickF r2 hN2).mono ?_
    rintro e w3 ⟨rfl, r3, k3⟩
    have K3 := K.trans k3 (fun x hx => .inl hx)
    go_wp2
    go_ret2
    obtain ⟨a, b, c⟩ := H.out
    rw [a, b, c]
    exact ⟨by simp, r3, K3⟩
end Go.Proofs.Ytcikdffahnnbhaa
