/- Texts of elder seats, turned to this one. -/
import Derived.Test.YteognipfnbocpaaGreatW12
namespace Go.Proofs.YteognipfnbocpaaGreat
open Go.RowKit
open T12 (E TbRep ent mapN)
open T13 (Tl En TlRep es)

set_option maxRecDepth 100000 in
set_option maxHeartbeats 1600000 in
theorem do7u (w : World) (F : List Nat) (p : Nat) (s : Mm) (o : Op) (ks : List Int) (P : DoPre w F p s o ks) (hk : o.d % 8 = 7) (hw : o.wr = false) :
    Calls Tryz.prog 7 #[.pointer (some ⟨p, 0, none⟩), o.v] w fun e w' => ∃ v, e = .returned (.tuple #[.int .i64 (opA ks s o), .int .i64 (opB s o), v]) ∧ w'.ownsRow 0 3 1 v (opL s o).length (iv (opL s o)) ∧ MmNext w w' F p (s.op o) ∧ ∀ g ∈ fp v, w.heap.size ≤ g := by
  have k0 : Keeps [] w (w.alloc (.cells #[.int .i64 o.d, .int .i64 o.cpu, .int .i64 o.x, .int .i64 o.pg, .int .i64 o.fr, .bool o.wr] 29)) := (Keeps.refl _ w).alloc _
  have h0 := P.h.keep k0 (by simp)
  have eA : opA ks s o = 0 := by unfold opA; rw [hk]; rfl
  have eB : opB s o = 0 := by unfold opB; rw [hk]; rfl
  have eL : opL s o = s.usedL o.x := by unfold opL; rw [if_pos ⟨hk, hw⟩]
  have eS : s.op o = s.used o.x := by unfold Mm.op; rw [if_neg (by omega), if_neg (by omega), if_neg (by omega), if_neg (by omega), if_neg (by rw [hw]; simp)]
  rw [eA, eB, eL, eS]
  have HC := Lib.hid (used_any _ F p s h0 o.x P.wf.x1 P.wf.x2)
  clear eA eB eL eS h0 k0 P
  obtain ⟨d, cpu, x, pg, fr, wr⟩ := o
  dsimp only at *
  subst hw
  unfold Op.v
  go_enter Tryz.func7, Tryz.ntmps7
  go_wp2_with fail
  refine (pick8 _ _).mono ?_
  rintro e w1 ⟨rfl, rfl⟩
  go_wp2_with fail
  refine HC.out.mono ?_
  rintro e w2 ⟨v, rfl, o2, n2, v2⟩
  have N2 := Lib.hid n2.box
  have O2 := Lib.hid (And.intro o2 v2)
  clear n2 HC o2 v2
  go_wp2
  refine bodyPost_ret (results_tmp3 rfl _ _ _) rfl ?_
  exact ⟨_, rfl, O2.out.1, N2.out, fun g hg => by have := O2.out.2 g hg; simp at this; omega⟩
theorem do_any (w : World) (F : List Nat) (p : Nat) (s : Mm) (o : Op) (ks : List Int) (P : DoPre w F p s o ks) :
    Calls Tryz.prog 7 #[.pointer (some ⟨p, 0, none⟩), o.v] w fun e w' => ∃ v, e = .returned (.tuple #[.int .i64 (opA ks s o), .int .i64 (opB s o), v]) ∧ w'.ownsRow 0 3 1 v (opL s o).length (iv (opL s o)) ∧ MmNext w w' F p (s.op o) ∧ ∀ g ∈ fp v, w.heap.size ≤ g := by
  have h8 : o.d % 8 = 0 ∨ o.d % 8 = 1 ∨ o.d % 8 = 2 ∨ o.d % 8 = 3 ∨ o.d % 8 = 4 ∨ o.d % 8 = 5 ∨ o.d % 8 = 6 ∨ o.d % 8 = 7 := by omega
  rcases h8 with e | e | e | e | e | e | e | e
  · exact do0 w F p s o ks P e
  · exact do1 w F p s o ks P e
  · exact do2 w F p s o ks P e
  · exact do3 w F p s o ks P e
  · exact do4 w F p s o ks P e
  · exact do5 w F p s o ks P e
  · exact do6 w F p s o ks P e
  · cases hw : o.wr with
    | true => exact do7e w F p s o ks P e hw
    | false => exact do7u w F p s o ks P e hw
end Go.Proofs.YteognipfnbocpaaGreat
