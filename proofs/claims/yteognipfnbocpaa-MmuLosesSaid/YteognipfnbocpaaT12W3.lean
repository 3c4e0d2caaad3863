/- The walks of the methods Look and Clear. -/
import Derived.Test.YteognipfnbocpaaT12W2
namespace Go.Proofs.Yteognipfnbocpaa.T12
open Go.RowKit

set_option maxRecDepth 100000 in
set_option maxHeartbeats 400000 in
theorem look_any (w : World) (F : List Nat) (p : Nat) (m : Nat → Option E) (pg : Int) (h : TbRep w F p m) (h1 : -9223372036854775808 ≤ pg) (h2 : pg ≤ 9223372036854775807) :
    Calls Try.prog 26 #[.pointer (some ⟨p, 0, none⟩), .int .i64 pg] w fun e w' => e = .returned (.tuple #[lookV (ent m pg) pg.toNat, .bool (ent m pg).isSome]) ∧ TbRep w' F p m ∧ Keeps [] w w' := by
  obtain ⟨q, h⟩ := h
  have k1 : Keeps [] w (w.alloc (.cells #[.int .i64 0, .int .i64 0, .bool false, .bool false, .bool false] 34)) := (Keeps.refl _ _).alloc _
  have hA := h.keep k1 (by simp)
  have hat := at_any _ F p m q pg hA h1 h2
  have bz : Blk (w.alloc (.cells #[.int .i64 0, .int .i64 0, .bool false, .bool false, .bool false] 34)) w.heap.size 34 #[.int .i64 0, .int .i64 0, .bool false, .bool false, .bool false] := Blk.new _ _ _
  have R0 := Lib.hid (bz.cell 0)
  have R1 := Lib.hid (bz.cell 1)
  have R2 := Lib.hid (bz.cell 2)
  have R3 := Lib.hid (bz.cell 3)
  have R4 := Lib.hid (bz.cell 4)
  have HH := Lib.hid hA
  have HB := Lib.hid bz
  have HK := Lib.hid k1
  clear bz k1 hA
  go_enter Try.func26, Try.ntmps26
  go_wp2_with fail
  refine hat.mono ?_
  clear hat
  rintro e w1 ⟨rfl, ⟨rfl, hm⟩ | ⟨k, s, x, rfl, hk, hq, hm, rfl⟩⟩
  · have HE := Lib.hid (ent_no hm)
    clear hm
    go_wp2
    refine bodyPost_ret (v := .tuple #[.agg #[.int .i64 0, .int .i64 0, .bool false, .bool false, .bool false], .bool false]) (by simp [results, Try.results26, go_sem, R0.out, R1.out, R2.out, R3.out, R4.out]) rfl ?_
    rw [HE.out]
    exact ⟨rfl, ⟨q, HH.out⟩, HK.out⟩
  · have HE := Lib.hid ((ent_nat m k).trans hm)
    obtain ⟨cs, hs⟩ := HH.out.s _ _ (by omega) hq
    have p0 := hs.place (k := k) (j := 0) (by omega)
    have p1 := hs.place (k := k) (j := 1) (by omega)
    have p2 := hs.place (k := k) (j := 2) (by omega)
    have p3 := hs.place (k := k) (j := 3) (by omega)
    have p4 := hs.place (k := k) (j := 4) (by omega)
    rw [hm] at p0 p1 p2 p3 p4
    simp only [cellv, Nat.add_zero] at p0 p1 p2 p3 p4
    have z0 := HB.out.cell 0
    have z1 := HB.out.cell 1
    have z2 := HB.out.cell 2
    have z3 := HB.out.cell 3
    have z4 := HB.out.cell 4
    have f0 := HB.out.frozen 0
    have f1 := HB.out.frozen 1
    have f2 := HB.out.frozen 2
    have f3 := HB.out.frozen 3
    have f4 := HB.out.frozen 4
    have br : Blk (w.alloc (.cells #[.int .i64 k, .int .i64 x.fr, .bool x.wr, .bool x.ac, .bool x.di] 34)) w.heap.size 34 #[.int .i64 k, .int .i64 x.fr, .bool x.wr, .bool x.ac, .bool x.di] := Blk.new _ _ _
    have B0 := Lib.hid (br.cell 0)
    have B1 := Lib.hid (br.cell 1)
    have B2 := Lib.hid (br.cell 2)
    have B3 := Lib.hid (br.cell 3)
    have B4 := Lib.hid (br.cell 4)
    have kk : Keeps [] w (w.alloc (.cells #[.int .i64 k, .int .i64 x.fr, .bool x.wr, .bool x.ac, .bool x.di] 34)) := (Keeps.refl _ _).alloc _
    have HT := Lib.hid (h.keep kk (by simp))
    have HKK := Lib.hid kk
    clear kk br hs hm hq R0 R1 R2 R3 R4
    go_wp2
    refine bodyPost_ret (v := .tuple #[.agg #[.int .i64 k, .int .i64 x.fr, .bool x.wr, .bool x.ac, .bool x.di], .bool true]) (by simp [results, Try.results26, go_sem, B0.out, B1.out, B2.out, B3.out, B4.out]) rfl ?_
    rw [HE.out]
    exact ⟨rfl, ⟨q, HT.out⟩, HKK.out⟩

set_option maxRecDepth 100000 in
set_option maxHeartbeats 400000 in
theorem clear_any (w : World) (F : List Nat) (p : Nat) (m : Nat → Option E) (pg : Int) (h : TbRep w F p m) (h1 : -9223372036854775808 ≤ pg) (h2 : pg ≤ 9223372036854775807) :
    Calls Try.prog 46 #[.pointer (some ⟨p, 0, none⟩), .int .i64 pg] w fun e w' => e = .returned (.bool (clrB m pg)) ∧ TbRep w' F p (clrM m pg) ∧ Keeps F w w' := by
  obtain ⟨q, h⟩ := h
  have hat := at_any _ F p m q pg h h1 h2
  go_enter Try.func46, Try.ntmps46
  go_wp2_with fail
  refine hat.mono ?_
  clear hat
  rintro e w1 ⟨rfl, ⟨rfl, hm⟩ | ⟨k, s, x, rfl, hk, hq, hm, rfl⟩⟩
  · have HE := Lib.hid (ent_no hm)
    clear hm
    go_wp2
    go_ret
    unfold clrB clrM
    rw [HE.out]
    exact ⟨rfl, ⟨q, h⟩, Keeps.refl _ _⟩
  · have HE := Lib.hid ((ent_nat m k).trans hm)
    obtain ⟨cs, hs⟩ := h.s _ _ (by omega) hq
    have p3 := hs.place (k := k) (j := 3) (by omega)
    rw [hm] at p3
    simp only [cellv] at p3
    have f3 := hs.b.frozen (k % 16 * 6 + 3)
    have hso := hs.one (j := 3) (some ⟨x.fr, x.wr, false, x.di⟩) (by omega) (fun i hi hne => by rw [hm]; unfold cellv; split <;> first | rfl | omega)
    obtain ⟨cs', hs'⟩ := hso
    have hne : used (upd m k (some ⟨x.fr, x.wr, false, x.di⟩)) (k / 16) 16 = used m (k / 16) 16 := by
      have := used_upd (m := m) (o := some ⟨x.fr, x.wr, false, x.di⟩) (g := k / 16) (i := k % 16) (n := 16) (Nat.mod_lt _ (by omega))
      rw [Nat.div_add_mod k 16, hm] at this
      simpa using this
    have hpos : 0 < used m (k / 16) 16 := by
      rcases Nat.eq_zero_or_pos (used m (k / 16) 16) with h0 | h0
      · have := (used_zero _ _ _).1 h0 (k % 16) (Nat.mod_lt _ (by omega))
        rw [Nat.div_add_mod k 16, hm] at this
        cases this
      · exact h0
    have K : Keeps [s] w (w.setCell ⟨s, k % 16 * 6 + 3, none⟩ (.bool false)) := (Keeps.refl _ _).setCell (.inl (by simp)) _
    rw [← hne] at hs'
    have HT := Lib.hid (h.put_ (y := 16) hk hq (.inl rfl) (.inr (by omega)) K hs' (fun e he => by cases he; exact h.r k x hm))
    have HK := Lib.hid (K.mono (G := F) (by have := h.fq _ _ (by omega) hq; simpa using this))
    clear hm hq hs hs' hne hpos K h
    go_wp2
    go_ret
    unfold clrB clrM
    rw [HE.out]
    exact ⟨rfl, ⟨q, HT.out⟩, HK.out⟩
end Go.Proofs.Yteognipfnbocpaa.T12
