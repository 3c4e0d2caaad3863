/- The reference's Access. -/
import Derived.Test.YteognipfnbocpaaGreatQ6
import Derived.StillTailTactics
namespace Go.Proofs.YteognipfnbocpaaGreat
open Go.RowKit
open T12 (E TbRep RfRep ent ents cells5 mapM mapN wlkM wlkB wlkN unmM clrM clrB lookX)
open T13 (Tl En TlRep es Nd)

structure RAcc where
  s : Rm
  f : Int
  ok : Bool
def raccK (s : Rm) (i : Nat) (k : Tl) (x pg : Int) (wr : Bool) : RAcc :=
  let s1 : Rm := ({ s with C := s.C.set i (k.look x pg wr) } : Rm).setTab x (wlkM (s.tab x) pg wr)
  if (k.lookR x pg wr).2 then ⟨s1, (k.lookR x pg wr).1, true⟩
  else if wlkB (s.tab x) pg wr then ⟨{ s1 with C := s1.C.set i ((k.look x pg wr).fill ⟨x, pg, wlkN (s.tab x) pg wr, (lookX (wlkM (s.tab x) pg wr) pg).2.wr⟩) }, wlkN (s.tab x) pg wr, true⟩
  else ⟨s1, 0, false⟩
def Rm.acc (s : Rm) (cpu x pg : Int) (wr : Bool) : RAcc :=
  if cpu < 0 then ⟨s, 0, false⟩ else match s.C[cpu.toNat]? with
    | none => ⟨s, 0, false⟩
    | some k => raccK s cpu.toNat k x pg wr
theorem racc_no {s : Rm} {cpu : Int} (h : cpu < 0 ∨ (s.C.length : Int) ≤ cpu) (x pg : Int) (wr : Bool) : s.acc cpu x pg wr = ⟨s, 0, false⟩ := by
  unfold Rm.acc
  split
  · rfl
  · rw [List.getElem?_eq_none (by omega)]
theorem racc_at {s : Rm} {i : Nat} {k : Tl} (h : s.C[i]? = some k) (x pg : Int) (wr : Bool) : s.acc i x pg wr = raccK s i k x pg wr := by
  unfold Rm.acc
  rw [if_neg (by omega), Int.toNat_natCast, h]
theorem racc_bad (w : World) (F : List Nat) (p : Nat) (r : Rm) (h : RmRep w F p r) (cpu x pg : Int) (wr : Bool) (hi : cpu < 0 ∨ (r.C.length : Int) ≤ cpu) :
    Calls Tryz.prog 31 #[.pointer (some ⟨p, 0, none⟩), .int .i64 cpu, .int .i64 x, .int .i64 pg, .bool wr] w fun e w' => e = .returned (.tuple #[.int .i64 0, .bool false]) ∧ w = w' := by
  obtain ⟨L, A1, A2, A3, c1, c2, c3, qs, cs, h⟩ := h
  have k2 := h.bp.cell 2
  clear h
  generalize r.C.length = N at *
  by_cases h0 : cpu < 0
  · go_enter Tryz.func31, Tryz.ntmps31
    go_wp2
    go_ret2
    exact ⟨rfl, rfl⟩
  · have h1 : (N : Int) ≤ cpu := by omega
    clear hi
    go_enter Tryz.func31, Tryz.ntmps31
    go_wp2
    go_ret2
    exact ⟨rfl, rfl⟩
set_option maxRecDepth 100000 in
set_option maxHeartbeats 3200000 in
theorem racc_some (w : World) (F : List Nat) (p : Nat) (r : Rm) (h : RmRep w F p r) (i : Nat) (k : Tl) (x pg : Int) (wr : Bool) (hi : r.C[i]? = some k) (hk : k.n ≤ 1000) (hd : Nd k.L) (_hC : r.C.length ≤ 64) :
    Calls Tryz.prog 31 #[.pointer (some ⟨p, 0, none⟩), .int .i64 i, .int .i64 x, .int .i64 pg, .bool wr] w fun e w' => e = .returned (.tuple #[.int .i64 (raccK r i k x pg wr).f, .bool (raccK r i k x pg wr).ok]) ∧ RmN w F w' p (raccK r i k x pg wr).s := by
  have hil : i < r.C.length := (List.getElem?_eq_some_iff.1 hi).1
  have HT := Lib.hid ((RmN.start h).table x)
  obtain ⟨L, A1, A2, A3, c1, c2, c3, qs, cs, h⟩ := h
  have k2 := h.bp.cell 2
  have hii : (i : Int) < (r.C.length : Int) := by omega
  obtain ⟨a, ha⟩ : ∃ a, a = raccK r i k x pg wr := ⟨_, rfl⟩
  rw [← ha]
  have HA2 := Lib.hid ha
  obtain ⟨m, hm⟩ : ∃ m, r.tab x = m := ⟨_, rfl⟩
  rw [hm] at HT
  have HM := Lib.hid hm
  have HD := Lib.hid (And.intro hi (And.intro hk hd))
  clear h ha hm hi hk hd
  go_enter Tryz.func31, Tryz.ntmps31
  go_wp2_with fail
  refine HT.out.mono ?_
  rintro e w1 ⟨q, rfl, f1, k1⟩
  obtain ⟨g, c3', H, rc, e2, y2, t2, hpl, hcl⟩ := f1.cache HD.out.1
  have CL0 := T13.rlook_any w1 H rc k x pg wr HD.out.2.1 t2
  obtain ⟨k1', hk1⟩ : ∃ k', k.look x pg wr = k' := ⟨_, rfl⟩
  obtain ⟨⟨fr, hit⟩, hR⟩ : ∃ z, k.lookR x pg wr = z := ⟨_, rfl⟩
  rw [hk1, hR] at CL0
  have CL := Lib.hid CL0
  have HCL := Lib.hid hcl
  have HR := Lib.hid hR
  have HK1 := Lib.hid hk1
  clear CL0 hR hk1 t2 hcl f1 HT k1
  go_wp2_with fail
  refine CL.out.mono ?_
  rintro e w2 ⟨rfl, n2⟩
  have f2 := HCL.out _ _ n2
  have W2 := Lib.hid (f2.walk pg wr)
  clear f2 n2 CL HCL e2 y2
  cases hit with
  | true =>
    have HE : Hid (a = ⟨({ r with C := r.C.set i k1' } : Rm).setTab x (wlkM m pg wr), fr, true⟩) := Lib.hid (by rw [HA2.out]; unfold raccK; rw [HR.out, HK1.out, HM.out]; rfl)
    clear HA2
    go_wp2_with fail
    refine W2.out.mono ?_
    rintro e w3 ⟨rfl, f3⟩
    have F3 := Lib.hid f3.toN
    clear f3 W2
    go_wp2
    go_ret2
    rw [HE.out]
    exact ⟨rfl, F3.out⟩
  | false =>
    cases hB : wlkB m pg wr with
    | false =>
      have HE : Hid (a = ⟨({ r with C := r.C.set i k1' } : Rm).setTab x (wlkM m pg wr), 0, false⟩) := Lib.hid (by rw [HA2.out]; unfold raccK; rw [HR.out, HK1.out, HM.out, hB]; rfl)
      have W3 := W2.out
      rw [hB] at W3
      have W4 := Lib.hid W3
      clear HA2 hB W2 W3
      go_wp2_with fail
      refine W4.out.mono ?_
      rintro e w3 ⟨rfl, f3⟩
      have F3 := Lib.hid f3.toN
      clear f3 W4
      go_wp2
      go_ret2
      rw [HE.out]
      exact ⟨rfl, F3.out⟩
    | true =>
      generalize hm2 : wlkM m pg wr = m2 at *
      generalize hn2 : wlkN m pg wr = n2 at *
      have HE : Hid (a = ⟨{ ({ r with C := r.C.set i k1' } : Rm).setTab x m2 with C := (({ r with C := r.C.set i k1' } : Rm).setTab x m2).C.set i (k1'.fill ⟨x, pg, n2, (lookX m2 pg).2.wr⟩) }, n2, true⟩) := Lib.hid (by rw [HA2.out]; unfold raccK; rw [HR.out, HK1.out, HM.out, hm2, hn2, hB]; rfl)
      have W3 := W2.out
      rw [hB] at W3
      have W4 := Lib.hid W3
      have hi2 : ((({ r with C := r.C.set i k1' } : Rm).setTab x m2).C)[i]? = some k1' := by
        rw [rset_C]
        show (r.C.set i k1')[i]? = _
        rw [List.getElem?_set, if_pos rfl, if_pos hil]
      have hl2 : (({ r with C := r.C.set i k1' } : Rm).setTab x m2).C.length = r.C.length := by
        rw [rset_C]; exact List.length_set
      have hk1 : k1'.n ≤ 1000 := by
        rw [← HK1.out]
        have : (k.look x pg wr).n = k.n := by unfold Tl.look; split <;> rfl
        rw [this]
        exact HD.out.2.1
      have hd1 : Nd k1'.L := by rw [← HK1.out]; exact HD.out.2.2.look
      have HX := Lib.hid (And.intro hi2 (And.intro hk1 (And.intro hd1 hl2)))
      clear HA2 hB W2 W3 hm2 hn2 hi2 hk1 hd1 hl2
      go_wp2_with fail
      refine W4.out.mono ?_
      rintro e w3 ⟨rfl, f3⟩
      have T3 := Lib.hid (f3.tlook pg)
      clear f3 W4
      unfold pteV at T3
      generalize lookX m2 pg = lx at *
      go_wp2_with fail
      refine T3.out.mono ?_
      rintro e w4 ⟨rfl, f4, -⟩
      have f5 := f4.same ((Keeps.refl [] w4).alloc (.cells #[.int .i64 lx.1, .int .i64 lx.2.fr, .bool lx.2.wr, .bool lx.2.ac, .bool lx.2.di] 42))
      have b5 := Blk.new w4 42 #[.int .i64 lx.1, .int .i64 lx.2.fr, .bool lx.2.wr, .bool lx.2.ac, .bool lx.2.di]
      clear f4 T3
      go_upto_region 12 with fail
      obtain ⟨xb, hxb⟩ : ∃ b, b = w4.heap.size := ⟨_, rfl⟩
      rw [← hxb] at b5 ⊢
      generalize w4.alloc (.cells #[.int .i64 lx.1, .int .i64 lx.2.fr, .bool lx.2.wr, .bool lx.2.ac, .bool lx.2.di] 42) = w5 at *
      obtain ⟨g5, c5, H5, rc5, e5, y5, t5, hpl5, hcl5⟩ := (f5.same ((Keeps.refl [] w5).drew)).cache HX.out.1
      rw [HX.out.2.2.2] at e5
      have e5' : w5.cell? ⟨p, 2, none⟩ = some (.slice (some ⟨g5, 0, none⟩) r.C.length c5) := e5
      have y5' : w5.cell? ⟨g5, i, none⟩ = some (.pointer (some ⟨rc5, 0, none⟩)) := y5
      have z5 := b5.cell 2
      have CF := Lib.hid (T13.rfill_any w5.drew H5 rc5 k1' ⟨x, pg, n2, lx.2.wr⟩ HX.out.2.1 HX.out.2.2.1 t5)
      have HCL5 := Lib.hid hcl5
      have i0 : (0 : Int) ≤ i := by omega
      clear f5 b5 hxb t5 hcl5
      go_still_tail 12, (by kernel_rfl)
      change wpList _ _ _ _ _ w5.drew
      generalize w5.drew = w6 at *
      go_wp2_with fail
      refine CF.out.mono ?_
      rintro e w7 ⟨rfl, n7⟩
      have F3 := Lib.hid (HCL5.out _ _ n7).toN
      clear n7 CF HCL5
      go_wp2
      go_ret2
      rw [HE.out]
      exact ⟨rfl, F3.out⟩
theorem racc_any (w : World) (F : List Nat) (p : Nat) (r : Rm) (h : RmRep w F p r) (cpu x pg : Int) (wr : Bool) (hk : ∀ k ∈ r.C, k.n ≤ 1000 ∧ Nd k.L) (hC : r.C.length ≤ 64) :
    Calls Tryz.prog 31 #[.pointer (some ⟨p, 0, none⟩), .int .i64 cpu, .int .i64 x, .int .i64 pg, .bool wr] w fun e w' => e = .returned (.tuple #[.int .i64 (r.acc cpu x pg wr).f, .bool (r.acc cpu x pg wr).ok]) ∧ RmN w F w' p (r.acc cpu x pg wr).s := by
  by_cases h0 : cpu < 0 ∨ (r.C.length : Int) ≤ cpu
  · rw [racc_no h0]
    refine (racc_bad w F p r h cpu x pg wr h0).mono ?_
    rintro e w1 ⟨rfl, rfl⟩
    exact ⟨rfl, RmN.start h⟩
  · obtain ⟨j, rfl⟩ : ∃ j : Nat, cpu = j := ⟨cpu.toNat, by omega⟩
    have hj : j < r.C.length := by omega
    have hjs := List.getElem?_eq_getElem hj
    rw [racc_at hjs]
    exact racc_some w F p r h j _ x pg wr hjs (hk _ (List.getElem_mem hj)).1 (hk _ (List.getElem_mem hj)).2 hC
end Go.Proofs.YteognipfnbocpaaGreat
