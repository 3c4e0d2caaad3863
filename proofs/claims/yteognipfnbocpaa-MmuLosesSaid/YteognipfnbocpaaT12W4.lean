/- The walks of the methods Walk, Unmap and Map. -/
import Derived.Test.YteognipfnbocpaaT12W3
import Derived.Deep.DeepCutAuto
namespace Go.Proofs.Yteognipfnbocpaa.T12
open Go.RowKit

/-- An entry that takes the place of an entry: as many places are taken. -/
theorem used_same {m : Nat → Option E} {k : Nat} {x y : E} (hm : m k = some x) : used (upd m k (some y)) (k / 16) 16 = used m (k / 16) 16 := by
  have := used_upd (m := m) (o := some y) (g := k / 16) (i := k % 16) (n := 16) (Nat.mod_lt _ (by omega))
  rw [Nat.div_add_mod k 16, hm] at this
  simpa using this
theorem used_new {m : Nat → Option E} {k : Nat} {y : E} (hm : m k = none) : used (upd m k (some y)) (k / 16) 16 = used m (k / 16) 16 + 1 := by
  have := used_upd (m := m) (o := some y) (g := k / 16) (i := k % 16) (n := 16) (Nat.mod_lt _ (by omega))
  rw [Nat.div_add_mod k 16, hm] at this
  simpa using this
theorem used_gone {m : Nat → Option E} {k : Nat} {x : E} (hm : m k = some x) : used (upd m k none) (k / 16) 16 + 1 = used m (k / 16) 16 := by
  have := used_upd (m := m) (o := none) (g := k / 16) (i := k % 16) (n := 16) (Nat.mod_lt _ (by omega))
  rw [Nat.div_add_mod k 16, hm] at this
  simpa using this
theorem used_pos {m : Nat → Option E} {k : Nat} {x : E} (hm : m k = some x) : 0 < used m (k / 16) 16 := by
  have := used_gone hm
  omega

set_option maxRecDepth 100000 in
set_option maxHeartbeats 800000 in
theorem walk_any (w : World) (F : List Nat) (p : Nat) (m : Nat → Option E) (pg : Int) (wr : Bool) (h : TbRep w F p m) (h1 : -9223372036854775808 ≤ pg) (h2 : pg ≤ 9223372036854775807) :
    Calls Try.prog 43 #[.pointer (some ⟨p, 0, none⟩), .int .i64 pg, .bool wr] w fun e w' => e = .returned (.tuple #[.int .i64 (wlkN m pg wr), .bool (wlkB m pg wr)]) ∧ TbRep w' F p (wlkM m pg wr) ∧ Keeps F w w' := by
  obtain ⟨q, h⟩ := h
  have hat := at_any _ F p m q pg h h1 h2
  go_enter Try.func43, Try.ntmps43
  go_wp2_with fail
  refine hat.mono ?_
  clear hat
  rintro e w1 ⟨rfl, ⟨rfl, hm⟩ | ⟨k, s, x, rfl, hk, hq, hm, rfl⟩⟩
  · have HE := Lib.hid (ent_no hm)
    clear hm
    go_wp2
    go_ret2
    unfold wlkN wlkB wlkM
    rw [HE.out]
    exact ⟨rfl, ⟨q, h⟩, Keeps.refl _ _⟩
  · have HE := Lib.hid ((ent_nat m k).trans hm)
    obtain ⟨cs, hs⟩ := h.s _ _ (by omega) hq
    obtain ⟨x1, x2, x3, x4⟩ := x
    have p1 := hs.place (k := k) (j := 1) (by omega)
    have p2 := hs.place (k := k) (j := 2) (by omega)
    have p3 := hs.place (k := k) (j := 3) (by omega)
    have p4 := hs.place (k := k) (j := 4) (by omega)
    rw [hm] at p1 p2 p3 p4
    simp only [cellv] at p1 p2 p3 p4
    by_cases hb : wr = true ∧ x2 = false
    · obtain ⟨rfl, rfl⟩ := hb
      clear hs hq hm
      go_wp2
      go_ret2
      unfold wlkN wlkB wlkM
      rw [HE.out]
      exact ⟨rfl, ⟨q, h⟩, Keeps.refl _ _⟩
    · have f3 := hs.b.frozen (k % 16 * 6 + 3)
      have f4 := hs.b.frozen (k % 16 * 6 + 4)
      obtain ⟨cs', hs'⟩ := hs.one (j := 3) (some ⟨x1, x2, true, x4⟩) (by omega) (fun i hi hne => by rw [hm]; unfold cellv; split <;> first | rfl | omega)
      obtain ⟨cs2, hs2⟩ := hs'.one (j := 4) (some ⟨x1, x2, true, x4 || wr⟩) (by omega) (fun i hi hne => by rw [upd_same]; unfold cellv; split <;> first | rfl | omega)
      have huu : upd (upd m k (some ⟨x1, x2, true, x4⟩)) k (some ⟨x1, x2, true, x4 || wr⟩) = upd m k (some ⟨x1, x2, true, x4 || wr⟩) := by funext z; unfold upd; split <;> rfl
      rw [huu] at hs2
      have K : Keeps [s] w ((w.setCell ⟨s, k % 16 * 6 + 3, none⟩ (.bool true)).setCell ⟨s, k % 16 * 6 + 4, none⟩ (.bool (x4 || wr))) := ((Keeps.refl _ _).setCell (.inl (by simp)) _).setCell (.inl (by simp)) _
      rw [← used_same (y := ⟨x1, x2, true, x4 || wr⟩) hm] at hs2
      have HT := Lib.hid (h.put_ (y := 16) hk hq (.inl rfl) (.inr (by rw [used_same hm]; exact used_pos hm)) K hs2 (fun e he => by cases he; exact h.r k ⟨x1, x2, x3, x4⟩ hm))
      have HK := Lib.hid (K.mono (G := F) (by have := h.fq _ _ (by omega) hq; simpa using this))
      clear hm hq hs hs' K h huu hs2
      cases x4
      all_goals cases wr
      all_goals cases x2
      all_goals first
        | exact absurd ⟨rfl, rfl⟩ hb
        | (clear hb
           go_wp2
           go_ret2
           unfold wlkN wlkB wlkM
           rw [HE.out]
           exact ⟨rfl, ⟨q, HT.out⟩, HK.out⟩)

set_option maxRecDepth 100000 in
set_option maxHeartbeats 800000 in
theorem unmap_any (w : World) (F : List Nat) (p : Nat) (m : Nat → Option E) (pg : Int) (h : TbRep w F p m) (h1 : -9223372036854775808 ≤ pg) (h2 : pg ≤ 9223372036854775807) :
    Calls Try.prog 31 #[.pointer (some ⟨p, 0, none⟩), .int .i64 pg] w fun e w' => e = .returned (.bool (ent m pg).isSome) ∧ TbRep w' F p (unmM m pg) ∧ Keeps F w w' := by
  obtain ⟨q, h⟩ := h
  have hat := at_any _ F p m q pg h h1 h2
  go_enter Try.func31, Try.ntmps31
  go_wp2_with fail
  refine hat.mono ?_
  clear hat
  rintro e w1 ⟨rfl, ⟨rfl, hm⟩ | ⟨k, s, x, rfl, hk, hq, hm, rfl⟩⟩
  · have HE := Lib.hid (ent_no hm)
    clear hm
    go_wp2
    go_ret
    unfold unmM
    rw [HE.out]
    exact ⟨rfl, ⟨q, h⟩, Keeps.refl _ _⟩
  · have HE := Lib.hid ((ent_nat m k).trans hm)
    have hg : k / 16 < 16 := by omega
    obtain ⟨cs, hs⟩ := h.s _ _ hg hq
    obtain ⟨cp, hb, hz, hc⟩ := h.b
    have hps : p ≠ s := Blk.ne_ hb hs.b (by decide)
    have hpF := h.fp
    have hsF := h.fq _ _ hg hq
    have c0 : w.cell? ⟨p, k / 16, none⟩ = some (.pointer (some ⟨s, 0, none⟩)) := by rw [hb.cell, hc _ hg, hq]; rfl
    have d0 := hb.frozen (k / 16)
    have b0 : (0 : Int) ≤ (k : Int) / 16 := by omega
    have b1 : (k : Int) / 16 < 16 := by omega
    have hp := fun j (hj : j < 6) => hs.place (k := k) (j := j) hj
    rw [hm] at hp
    have p0 := hp 0 (by omega)
    have p1 := hp 1 (by omega)
    have p2 := hp 2 (by omega)
    have p3 := hp 3 (by omega)
    have p4 := hp 4 (by omega)
    have p5 := hp 5 (by omega)
    simp only [cellv, Nat.add_zero] at p0 p1 p2 p3 p4 p5
    have p6 : w.cell? ⟨s, 96, none⟩ = some (.int .i64 (used m (k / 16) 16)) := (hs.b.cell 96).trans hs.u
    have f0 := hs.b.frozen (k % 16 * 6)
    have f1 := hs.b.frozen (k % 16 * 6 + 1)
    have f2 := hs.b.frozen (k % 16 * 6 + 2)
    have f3 := hs.b.frozen (k % 16 * 6 + 3)
    have f4 := hs.b.frozen (k % 16 * 6 + 4)
    have f5 := hs.b.frozen (k % 16 * 6 + 5)
    have f6 := hs.b.frozen 96
    have hu := used_gone hm
    have hle := used_le m (k / 16) 16
    obtain ⟨cs2, hs2⟩ := hs.six none
    obtain ⟨cs3, hs3⟩ := hs2.cnt (used (upd m k none) (k / 16) 16)
    have K : Keeps [s] w (((((((w.setCell ⟨s, k % 16 * 6, none⟩ (cellv none k 0)).setCell ⟨s, k % 16 * 6 + 1, none⟩ (cellv none k 1)).setCell ⟨s, k % 16 * 6 + 2, none⟩ (cellv none k 2)).setCell ⟨s, k % 16 * 6 + 3, none⟩ (cellv none k 3)).setCell ⟨s, k % 16 * 6 + 4, none⟩ (cellv none k 4)).setCell ⟨s, k % 16 * 6 + 5, none⟩ (cellv none k 5)).setCell ⟨s, 96, none⟩ (.int .i64 (used (upd m k none) (k / 16) 16))) :=
      (((((((Keeps.refl _ _).setCell (.inl (by simp)) _).setCell (.inl (by simp)) _).setCell (.inl (by simp)) _).setCell (.inl (by simp)) _).setCell (.inl (by simp)) _).setCell (.inl (by simp)) _).setCell (.inl (by simp)) _
    have HX := h.put_ (y := k / 16) hk hq (.inl rfl) (.inl rfl) K hs3 (fun e he => (nomatch he))
    have HY := fun (hy : 0 < used (upd m k none) (k / 16) 16) => h.put_ (y := 16) hk hq (.inl rfl) (.inr hy) K hs3 (fun e he => (nomatch he))
    have HZ := fun (hall : ∀ i, i < 16 → upd m k none (16 * (k / 16) + i) = none) => HX.lay (y := 16) (o := none) hg (.inr rfl) (Keeps.refl _ _) (fun _ h => h) HX.f (.inr ⟨fun _ => hall, fun _ => rfl⟩) (fun _ h => (nomatch h))
    have hu0 := used_zero (upd m k none) (k / 16) 16
    have HU := Lib.hid hu0
    have HKY := Lib.hid (K.mono (G := F) (by simpa using hsF))
    have HKZ := Lib.hid ((K.mono (G := F) (by simpa using hsF)).setCell (p := ⟨p, k / 16, none⟩) (.inl hpF) (.pointer none))
    simp only [cellv, Option.map_none] at HX HY HZ HKY HKZ
    have HZ := Lib.hid HZ
    have HY := Lib.hid HY
    generalize hw : used m (k / 16) 16 = u at *
    generalize hv : used (upd m k none) (k / 16) 16 = v at *
    obtain rfl : u = v + 1 := hu.symm
    clear hu hw hv hu0 hm hq hs hs2 hs3 K h HX hc hb hp hz
    by_cases hv0 : v = 0
    · subst hv0
      have HZ2 := Lib.hid (HZ.out (HU.out.1 rfl))
      clear HZ HY HU
      go_wp2
      go_ret
      unfold unmM
      rw [HE.out]
      exact ⟨rfl, ⟨_, HZ2.out⟩, HKZ.out⟩
    · have t1 : ((v : Int) == 0) = false := by simp; omega
      go_wp2
      go_ret
      unfold unmM
      rw [HE.out]
      exact ⟨rfl, ⟨_, HY.out (by omega)⟩, HKY.out⟩

/-- The cells of a second-level table without entries. -/
def zc (t : Nat) : Value := if t = 96 then .int .i64 0 else cellv none 0 (t % 6)
def Z97 : Array Value := ((List.range 97).map zc).toArray
theorem z61 (w : World) : (zeroValue 96).run Try.prog w = .ok (.agg Z97) w := by kernel_rfl
theorem sec_new (w : World) (s g : Nat) (m : Nat → Option E) (hm : ∀ i, i < 16 → m (16 * g + i) = none) (hb : Blk w s 96 Z97) :
    SecAt w s m g (used m g 16) Z97 := by
  refine ⟨hb, by simp [Z97], fun i j hi hj => ?_, ?_⟩
  · rw [hm i hi]
    rw [Z97, List.getElem?_toArray, List.getElem?_map, List.getElem?_range (by omega)]
    have h1 : (i * 6 + j) % 6 = j := by omega
    have h2 : i * 6 + j ≠ 96 := by omega
    simp only [Option.map_some, zc, if_neg h2, h1]
    have : j = 0 ∨ j = 1 ∨ j = 2 ∨ j = 3 ∨ j = 4 ∨ j = 5 := by omega
    rcases this with rfl | rfl | rfl | rfl | rfl | rfl <;> rfl
  · rw [(used_zero m g 16).2 hm]
    rw [Z97, List.getElem?_toArray, List.getElem?_map, List.getElem?_range (by omega)]
    rfl

/-- What a Map leaves: its answer, the table, at blocks of F or new ones. -/
def Mapped (w : World) (F : List Nat) (p : Nat) (m : Nat → Option E) (v : Value) (e : Ending) (w' : World) : Prop := ∃ F', e = .returned v ∧ TbRep w' F' p m ∧ Keeps F w w' ∧ ∀ g ∈ F', g ∈ F ∨ w.heap.size ≤ g
theorem TbAt.less {w : World} {F : List Nat} {p : Nat} {m : Nat → Option E} {q : Nat → Option Nat} (h : TbAt 16 w F p m q) (x : Nat) : TbAt x w F p m q :=
  ⟨h.f, h.fp, h.fq, h.b, h.s, fun k hk _ => h.n k hk (by omega), h.d, h.o, h.r⟩
set_option maxRecDepth 100000 in
set_option maxHeartbeats 1600000 in
theorem map_any (w : World) (F : List Nat) (p : Nat) (m : Nat → Option E) (pg fr : Int) (wr : Bool) (h : TbRep w F p m) (h1 : -9223372036854775808 ≤ pg) (h2 : pg ≤ 9223372036854775807) (h3 : -9223372036854775808 ≤ fr) (h4 : fr ≤ 9223372036854775807) :
    Calls Try.prog 39 #[.pointer (some ⟨p, 0, none⟩), .int .i64 pg, .int .i64 fr, .bool wr] w (Mapped w F p (mapM m pg fr wr) (.int .i64 (mapN pg fr))) := by
  by_cases hr : 0 ≤ pg ∧ pg < 256 ∧ 0 ≤ fr
  rotate_left
  · have e1 : mapN pg fr = 3 := by unfold mapN; rw [if_neg hr]
    have e2 : mapM m pg fr wr = m := by unfold mapM; rw [if_neg hr]
    have E1 := Lib.hid e1
    have E2 := Lib.hid e2
    clear e1 e2
    by_cases a0 : 0 ≤ pg
    · by_cases a1 : pg < 256
      · have a2 : fr < 0 := by omega
        clear hr
        go_enter Try.func39, Try.ntmps39
        go_wp2
        go_ret
        rw [E1.out, E2.out]
        exact ⟨F, rfl, h, Keeps.refl _ _, fun g hg => .inl hg⟩
      · clear hr
        go_enter Try.func39, Try.ntmps39
        go_wp2
        go_ret
        rw [E1.out, E2.out]
        exact ⟨F, rfl, h, Keeps.refl _ _, fun g hg => .inl hg⟩
    · clear hr
      go_enter Try.func39, Try.ntmps39
      go_wp2
      go_ret
      rw [E1.out, E2.out]
      exact ⟨F, rfl, h, Keeps.refl _ _, fun g hg => .inl hg⟩
  · have e1 : mapN pg fr = 0 := by unfold mapN; rw [if_pos hr]
    have e2 : mapM m pg fr wr = upd m pg.toNat (some ⟨fr, wr, false, false⟩) := by unfold mapM; rw [if_pos hr]
    obtain ⟨a0, a1, a2⟩ := hr
    obtain ⟨k, rfl⟩ := Int.eq_ofNat_of_zero_le a0
    rw [Int.toNat_natCast] at e2
    have E1 := Lib.hid e1
    have E2 := Lib.hid e2
    clear e1 e2
    obtain ⟨q, h⟩ := h
    have hk : k < 256 := by omega
    have hg : k / 16 < 16 := by omega
    obtain ⟨cp, hb, hz, hc⟩ := h.b
    have hpF := h.fp
    have c0 : w.cell? ⟨p, k / 16, none⟩ = some (.pointer ((q (k / 16)).map fun s => ⟨s, 0, none⟩)) := by rw [hb.cell, hc _ hg]
    have d0 := hb.frozen (k / 16)
    have b0 : (0 : Int) ≤ (k : Int) / 16 := by omega
    have b1 : (k : Int) / 16 < 16 := by omega
    have b2 : (0 : Int) ≤ (k : Int) % 16 := by omega
    have b3 : (k : Int) % 16 < 16 := by omega
    have hz61 := z61
    have HC := Lib.hid hc
    clear hz hc
    go_enter Try.func39, Try.ntmps39
    go_upto_if 29 with fail
    go_cut [9] (fun s9 w1 => ∃ (s : Nat) (q1 : Nat → Option Nat) (F1 : List Nat), s9 = .pointer (some ⟨s, 0, none⟩) ∧ q1 (k / 16) = some s ∧ TbAt (k / 16) w1 F1 p m q1 ∧ Keeps F w w1 ∧ ∀ g ∈ F1, g ∈ F ∨ w.heap.size ≤ g)
    case first =>
      cases hq : q (k / 16) with
      | none =>
        have hnone : ∀ i, i < 16 → m (16 * (k / 16) + i) = none := (h.n _ hg (by omega)).1 hq
        have hn := Blk.new w 96 Z97
        have hs := sec_new (w.alloc (.cells Z97 96)) w.heap.size (k / 16) m hnone hn
        have HL := h.lay (y := k / 16) (o := some w.heap.size) (F' := w.heap.size :: F) hg (.inl rfl) ((Keeps.refl [] w).alloc (.cells Z97 96)) (fun t ht => by simp [ht]) (fun t ht => by
          rcases List.mem_cons.1 ht with rfl | ht
          · exact hn.lt
          · have := h.f t ht; simp; omega) (.inl rfl) (fun s e => by cases e; exact ⟨Nat.le_refl _, by simp, _, hs⟩)
        have HK : Keeps F w ((w.alloc (.cells Z97 96)).setCell ⟨p, k / 16, none⟩ (.pointer ((some w.heap.size).map fun s => ⟨s, 0, none⟩))) := ((Keeps.refl F w).alloc _).setCell (.inl hpF) _
        have HL := Lib.hid HL
        have HK := Lib.hid HK
        have c1 : (w.alloc (.cells Z97 96)).cell? ⟨p, k / 16, none⟩ = some (.pointer none) := by rw [(hb.alloc _).cell, HC.out _ hg, hq]; rfl
        have d1 := (hb.alloc (.cells Z97 96)).frozen (k / 16)
        rw [hq] at c0
        clear hs hn hb hnone hq
        simp only [Option.map_none] at c0
        go_wp2_with fail
        go_meet
        case rel => exact ⟨w.heap.size, _, _, rfl, if_pos rfl, HL.out, HK.out, by simp; intro g hg; exact .inl hg⟩
      | some s =>
        rw [hq] at c0
        have hq := Lib.hid hq
        go_wp2_with fail
        go_meet
        case rel => exact ⟨s, q, F, rfl, hq.out, h.less _, Keeps.refl _ _, fun g hg => .inl hg⟩
    case rest =>
      obtain ⟨s, q1, F1, rfl, hq1, g1, K1, hF1⟩ := hcut
      clear hb HC c0 d0 h q b0 b1
      obtain ⟨cs, hs⟩ := g1.s _ _ hg hq1
      have hsF := g1.fq _ _ hg hq1
      have hsw := hF1 s hsF
      have hp := fun j (hj : j < 6) => hs.place (k := k) (j := j) hj
      have p0 := hp 0 (by omega)
      have p1 := hp 1 (by omega)
      have p2 := hp 2 (by omega)
      have p3 := hp 3 (by omega)
      have p4 := hp 4 (by omega)
      have p5 := hp 5 (by omega)
      have p6 : wc.cell? ⟨s, 96, none⟩ = some (.int .i64 (used m (k / 16) 16)) := (hs.b.cell 96).trans hs.u
      have f0 := hs.b.frozen (k % 16 * 6)
      have f1 := hs.b.frozen (k % 16 * 6 + 1)
      have f2 := hs.b.frozen (k % 16 * 6 + 2)
      have f3 := hs.b.frozen (k % 16 * 6 + 3)
      have f4 := hs.b.frozen (k % 16 * 6 + 4)
      have f5 := hs.b.frozen (k % 16 * 6 + 5)
      have f6 := hs.b.frozen 96
      have hle := used_le m (k / 16) 16
      cases hm : m k with
      | none =>
        have hu := used_new (y := ⟨fr, wr, false, false⟩) hm
        obtain ⟨cs2, hs2⟩ := hs.cnt (used m (k / 16) 16 + 1)
        obtain ⟨cs3, hs3⟩ := hs2.six (some ⟨fr, wr, false, false⟩)
        rw [← hu] at hs3
        have K : Keeps [s] wc (((((((wc.setCell ⟨s, 96, none⟩ (.int .i64 (used (upd m k (some ⟨fr, wr, false, false⟩)) (k / 16) 16 : Nat))).setCell ⟨s, k % 16 * 6, none⟩ (cellv (some ⟨fr, wr, false, false⟩) k 0)).setCell ⟨s, k % 16 * 6 + 1, none⟩ (cellv (some ⟨fr, wr, false, false⟩) k 1)).setCell ⟨s, k % 16 * 6 + 2, none⟩ (cellv (some ⟨fr, wr, false, false⟩) k 2)).setCell ⟨s, k % 16 * 6 + 3, none⟩ (cellv (some ⟨fr, wr, false, false⟩) k 3)).setCell ⟨s, k % 16 * 6 + 4, none⟩ (cellv (some ⟨fr, wr, false, false⟩) k 4)).setCell ⟨s, k % 16 * 6 + 5, none⟩ (cellv (some ⟨fr, wr, false, false⟩) k 5)) :=
          (((((((Keeps.refl _ _).setCell (.inl (by simp)) _).setCell (.inl (by simp)) _).setCell (.inl (by simp)) _).setCell (.inl (by simp)) _).setCell (.inl (by simp)) _).setCell (.inl (by simp)) _).setCell (.inl (by simp)) _
        have HX := g1.put_ (y := 16) hk hq1 (.inr rfl) (.inr (by omega)) K hs3 (fun e he => by cases he; exact ⟨a2, h4⟩)
        have HK := K1.trans K (by simpa using hsw)
        rw [hu] at HX HK
        rw [hm] at p0 p1 p2 p3 p4 p5
        simp only [cellv, Nat.add_zero, Option.isSome_some, Int.natCast_add, Int.natCast_one] at p0 p1 p2 p3 p4 p5 HX HK
        have HX := Lib.hid HX
        have HK := Lib.hid HK
        have HF := Lib.hid hF1
        generalize used m (k / 16) 16 = u at *
        clear hu hs hs2 hs3 K g1 K1 hq1 hp hm hF1
        go_wp2
        go_ret
        rw [E1.out, E2.out]
        exact ⟨F1, rfl, ⟨_, HX.out⟩, HK.out, HF.out⟩
      | some x =>
        have hu := used_same (y := ⟨fr, wr, false, false⟩) hm
        have hup := used_pos hm
        obtain ⟨cs3, hs3⟩ := hs.six (some ⟨fr, wr, false, false⟩)
        rw [← hu] at hs3
        have K : Keeps [s] wc ((((((wc.setCell ⟨s, k % 16 * 6, none⟩ (cellv (some ⟨fr, wr, false, false⟩) k 0)).setCell ⟨s, k % 16 * 6 + 1, none⟩ (cellv (some ⟨fr, wr, false, false⟩) k 1)).setCell ⟨s, k % 16 * 6 + 2, none⟩ (cellv (some ⟨fr, wr, false, false⟩) k 2)).setCell ⟨s, k % 16 * 6 + 3, none⟩ (cellv (some ⟨fr, wr, false, false⟩) k 3)).setCell ⟨s, k % 16 * 6 + 4, none⟩ (cellv (some ⟨fr, wr, false, false⟩) k 4)).setCell ⟨s, k % 16 * 6 + 5, none⟩ (cellv (some ⟨fr, wr, false, false⟩) k 5)) :=
          ((((((Keeps.refl _ _).setCell (.inl (by simp)) _).setCell (.inl (by simp)) _).setCell (.inl (by simp)) _).setCell (.inl (by simp)) _).setCell (.inl (by simp)) _).setCell (.inl (by simp)) _
        have HX := g1.put_ (y := 16) hk hq1 (.inr rfl) (.inr (by omega)) K hs3 (fun e he => by cases he; exact ⟨a2, h4⟩)
        have HK := K1.trans K (by simpa using hsw)
        rw [hm] at p0 p1 p2 p3 p4 p5
        simp only [cellv, Nat.add_zero, Option.isSome_some] at p0 p1 p2 p3 p4 p5 HX HK
        have HX := Lib.hid HX
        have HK := Lib.hid HK
        have HF := Lib.hid hF1
        clear hu hs hs3 K g1 K1 hq1 hp hm hF1 p6 hle
        go_wp2
        go_ret
        rw [E1.out, E2.out]
        exact ⟨F1, rfl, ⟨_, HX.out⟩, HK.out, HF.out⟩
end Go.Proofs.Yteognipfnbocpaa.T12
