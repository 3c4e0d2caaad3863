/- small. -/
import Derived.Test.YteognipfnbocpaaW14
namespace Go.Proofs.Yteognipfnbocpaa
open Go.RowKit
open T12 (E TbRep ent mapM mapN lookX)
open T13 (Tl En TlRep es)

set_option maxRecDepth 100000 in
set_option maxHeartbeats 3200000 in
theorem small_any (w : World) : Calls Try.prog 6 #[] w fun e w' => e = .returned (.bool true) ∧ Keeps [] w w' := by
  go_enter Try.func6, Try.ntmps6
  go_wp2_with fail
  refine (mmw_new w 2 (by omega)).mono ?_
  rintro e w1 ⟨p, rfl, h1⟩
  have c1 := Lib.hid (h1.map (MI.zero (n := 2) (by omega)) (by omega) 7 3 100 false (by omega) (by omega) (by omega) (by omega) (by omega) (by omega))
  have C1 : Hid (Calls Try.prog 18 #[.pointer (some ⟨p, 0, none⟩), .int .i64 7, .int .i64 3, .int .i64 100, .bool false] w1 fun e w' => e = .returned (.int .i64 0) ∧ MmW w w' p q1) := c1
  clear c1 h1
  go_wp2_with fail
  refine C1.out.mono ?_
  rintro e w2 ⟨rfl, h2⟩
  have c2 := h2.acc mq1 (by omega) 0 7 3 false (by omega) (by omega) (by omega) (by omega)
  change Calls _ _ _ _ (fun e w' => e = .returned (.tuple #[.int .i64 a1.f, .bool a1.ok]) ∧ MmW w w' p a1.s) at c2
  rw [f1.1, f1.2] at c2
  have C2 := Lib.hid c2
  clear c2 h2 C1
  go_wp2_with fail
  refine C2.out.mono ?_
  rintro e w3 ⟨rfl, h3⟩
  have c3 := h3.acc (mq1.acc 0 7 3 false) (by omega) 1 7 3 true (by omega) (by omega) (by omega) (by omega)
  change Calls _ _ _ _ (fun e w' => e = .returned (.tuple #[.int .i64 a2.f, .bool a2.ok]) ∧ MmW w w' p a2.s) at c3
  rw [f2] at c3
  have C3 := Lib.hid c3
  clear c3 h3 C2
  go_wp2_with fail
  refine C3.out.mono ?_
  rintro e w4 ⟨rfl, h4⟩
  have c4 := Lib.hid (h4.map ((mq1.acc 0 7 3 false).acc 1 7 3 true) (by omega) 7 3 101 true (by omega) (by omega) (by omega) (by omega) (by omega) (by omega))
  have C4 : Hid (Calls Try.prog 18 #[.pointer (some ⟨p, 0, none⟩), .int .i64 7, .int .i64 3, .int .i64 101, .bool true] w4 fun e w' => e = .returned (.int .i64 0) ∧ MmW w w' p q3) := c4
  clear c4 h4 C3
  go_wp2_with fail
  refine C4.out.mono ?_
  rintro e w5 ⟨rfl, h5⟩
  have c5 := h5.acc mq3 (by omega) 0 7 3 true (by omega) (by omega) (by omega) (by omega)
  change Calls _ _ _ _ (fun e w' => e = .returned (.tuple #[.int .i64 a4.f, .bool a4.ok]) ∧ MmW w w' p a4.s) at c5
  rw [f4.1, f4.2.1] at c5
  have C5 := Lib.hid c5
  clear c5 h5 C4
  go_wp2_with fail
  refine C5.out.mono ?_
  rintro e w6 ⟨rfl, h6⟩
  have c6 := h6.shot
  rw [f4.2.2] at c6
  have C6 := Lib.hid c6
  have c7 := h6.lose (mq3.acc 0 7 3 true) (by omega) 101
  change Calls _ _ _ _ (fun e w' => e = .returned (.int .i64 (sumD 101 a4.s.t (fun _ => false) (addK (addK [] 7) 7) : Nat)) ∧ MmW w w' p q5) at c7
  rw [f5] at c7
  have C7 := Lib.hid c7
  clear c6 c7 h6 C5
  go_wp2_with fail
  refine C6.out.mono ?_
  rintro e w7 ⟨rfl, rfl⟩
  clear C6
  go_wp2_with fail
  refine C7.out.mono ?_
  rintro e w8 ⟨rfl, h8⟩
  have c8 := h8.acc mq5 (by omega) 0 7 3 false (by omega) (by omega) (by omega) (by omega)
  change Calls _ _ _ _ (fun e w' => e = .returned (.tuple #[.int .i64 a6.f, .bool a6.ok]) ∧ MmW w w' p a6.s) at c8
  rw [f6.1] at c8
  have C8 := Lib.hid c8
  clear c8 h8 C7
  go_wp2_with fail
  refine C8.out.mono ?_
  rintro e w9 ⟨rfl, h9⟩
  have c9 := h9.shot
  rw [f6.2] at c9
  have C9 := Lib.hid c9
  have K9 := h9.keeps
  clear c9 h9 C8
  go_wp2_with fail
  refine C9.out.mono ?_
  rintro e w10 ⟨rfl, rfl⟩
  clear C9
  go_wp2_with fail
  go_ret
  exact ⟨rfl, K9⟩
end Go.Proofs.Yteognipfnbocpaa
