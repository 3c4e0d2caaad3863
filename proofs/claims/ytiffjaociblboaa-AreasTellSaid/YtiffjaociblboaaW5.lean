/- shows. -/
import Derived.Test.YtiffjaociblboaaW4
namespace Go.Proofs.Ytiffjaociblboaa
open Go.RowKit

theorem fnd_mem {L : List Ar} {p : Int} {x : Ar} (h : fnd L p = some x) : x ∈ L := List.mem_of_find?_eq_some h
set_option maxRecDepth 100000 in
set_option maxHeartbeats 3200000 in
theorem shows_any (w : World) (A B : Option Addr) (L M : List Ar) (c d : Nat) (p : Int) (h1 : AtL w A L) (h2 : AtL w B M) (v1 : Vds L) (v2 : Vds M) (hs : shw (fnd L p) = shw (fnd M p)) :
    Calls Try.prog 13 #[.slice A L.length c, .slice B M.length d, .int .i64 p] w fun e w' => e = .returned (.bool true) ∧ Keeps [] w w' := by
  have C1 := find_any w A L c p h1 v1
  have C2 := Lib.hid (fun W (k : Keeps [] w W) => find_any W B M d p (h2.keep k) v2)
  cases hx : fnd L p with
  | none =>
    have hy : fnd M p = none := by
      cases hy : fnd M p with
      | none => rfl
      | some y => rw [hx, hy] at hs; cases hs
    rw [show fndV L p = zA by unfold fndV; rw [hx]; rfl, hx] at C1
    have HC1 := Lib.hid C1
    have E2 := Lib.hid (And.intro (show fndV M p = zA by unfold fndV; rw [hy]; rfl) hy)
    clear hs hx hy C1 h1 h2 v1 v2
    unfold Ar.v zA at HC1
    go_enter Try.func13, Try.ntmps13
    go_wp2_with fail
    refine HC1.out.mono ?_
    rintro e w1 ⟨rfl, k1⟩
    have D2 := C2.out _ (k1.alloc (.cells #[.int .i64 0, .int .i64 0, .string ⟨#[]⟩, .int .i64 0, .bool false, .bool false] 24))
    rw [E2.out.1, E2.out.2] at D2
    unfold Ar.v zA at D2
    have HD2 := Lib.hid D2
    have K1 := Lib.hid (k1.alloc (.cells #[.int .i64 0, .int .i64 0, .string ⟨#[]⟩, .int .i64 0, .bool false, .bool false] 24))
    clear D2 k1 HC1
    go_wp2_with fail
    refine HD2.out.mono ?_
    rintro e w2 ⟨rfl, k2⟩
    have K2 := Lib.hid (K1.out.trans k2 (by simp))
    clear k2 HD2
    go_wp2_with fail
    go_ret
    exact ⟨rfl, K2.out.alloc _⟩
  | some x =>
    obtain ⟨y, hy⟩ : ∃ y, fnd M p = some y := by
      cases hy : fnd M p with
      | none => rw [hx, hy] at hs; cases hs
      | some y => exact ⟨y, rfl⟩
    rw [hx, hy] at hs
    have hs' : (x.o, x.f - x.a, x.s, x.w) = (y.o, y.f - y.a, y.s, y.w) := by injection hs
    have hvx := v1 x (fnd_mem hx)
    have hvy := v2 y (fnd_mem hy)
    have q1 := hvx.a0
    have q2 := hvx.an
    have q3 := hvx.n1
    have q4 := hvx.f0
    have q5 := hvx.fn
    have r1 := hvy.a0
    have r2 := hvy.an
    have r3 := hvy.n1
    have r4 := hvy.f0
    have r5 := hvy.fn
    rw [show fndV L p = x by unfold fndV; rw [hx]; rfl, hx] at C1
    have E2 := Lib.hid (And.intro (show fndV M p = y by unfold fndV; rw [hy]; rfl) hy)
    clear hx hy hs hvx hvy h1 h2 v1 v2
    obtain ⟨xa, xn, xo, xf, xs, xw⟩ := x
    obtain ⟨ya, yn, yo, yf, ys, yw⟩ := y
    unfold Ar.v at C1
    dsimp only at *
    injection hs' with e1 hs'
    injection hs' with e2 hs'
    injection hs' with e3 e4
    subst e1 e3 e4
    have HC1 := Lib.hid C1
    have HE := Lib.hid e2
    clear C1 e2
    go_enter Try.func13, Try.ntmps13
    go_wp2_with fail
    refine HC1.out.mono ?_
    rintro e w1 ⟨rfl, k1⟩
    have b1 := Blk.new w1 24 #[.int .i64 xa, .int .i64 xn, .string xo, .int .i64 xf, .bool xs, .bool xw]
    have K1 := Lib.hid (k1.alloc (.cells #[.int .i64 xa, .int .i64 xn, .string xo, .int .i64 xf, .bool xs, .bool xw] 24))
    have D2 := C2.out _ K1.out
    rw [E2.out.1, E2.out.2] at D2
    unfold Ar.v at D2
    have HD2 := Lib.hid D2
    have HB1 := Lib.hid b1
    clear D2 k1 b1 HC1
    go_wp2_with fail
    refine HD2.out.mono ?_
    rintro e w2 ⟨rfl, k2⟩
    have b1 := (HB1.out.keep k2 (by simp)).alloc (.cells #[.int .i64 ya, .int .i64 yn, .string xo, .int .i64 yf, .bool xs, .bool xw] 24)
    have c0 := b1.cell 0
    have c2 := b1.cell 2
    have c3 := b1.cell 3
    have c4 := b1.cell 4
    have c5 := b1.cell 5
    have K2 := Lib.hid (K1.out.trans k2 (by simp))
    have hf : yf - ya = xf - xa := HE.out.symm
    clear k2 b1 HD2 HB1
    go_wp2_with fail
    go_ret
    exact ⟨ret_bool (by simp), K2.out.alloc _⟩
end Go.Proofs.Ytiffjaociblboaa
