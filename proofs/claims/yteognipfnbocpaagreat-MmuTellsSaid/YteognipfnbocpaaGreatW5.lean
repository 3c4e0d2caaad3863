/- Texts of elder seats, turned to this one. -/
import Derived.Test.YteognipfnbocpaaGreatW4
namespace Go.Proofs.YteognipfnbocpaaGreat
open Go.RowKit
open T12 (E TbRep ent mapM mapN wlkM wlkB wlkN unmM clrM clrB lookX)
open T13 (Tl En TlRep es)

/-- What Access leaves, and what it tells. -/
structure Acc where
  s : Mm
  f : Int
  ok : Bool
def accK (s : Mm) (i : Nat) (k : Tl) (x pg : Int) (wr : Bool) : Acc :=
  let s1 : Mm := ({ s with C := s.C.set i (k.look x pg wr) } : Mm).setTab x (wlkM (s.tab x) pg wr)
  if (k.lookR x pg wr).2 then ⟨s1, (k.lookR x pg wr).1, true⟩
  else if wlkB (s.tab x) pg wr then ⟨{ s1 with C := s1.C.set i ((k.look x pg wr).fill ⟨x, pg, wlkN (s.tab x) pg wr, (lookX (wlkM (s.tab x) pg wr) pg).2.wr⟩) }, wlkN (s.tab x) pg wr, true⟩
  else ⟨s1, 0, false⟩
def Mm.acc (s : Mm) (cpu x pg : Int) (wr : Bool) : Acc :=
  if cpu < 0 then ⟨s, 0, false⟩ else match s.C[cpu.toNat]? with
    | none => ⟨s, 0, false⟩
    | some k => accK s cpu.toNat k x pg wr
theorem acc_no {s : Mm} {cpu : Int} (h : cpu < 0 ∨ (s.C.length : Int) ≤ cpu) (x pg : Int) (wr : Bool) : s.acc cpu x pg wr = ⟨s, 0, false⟩ := by
  unfold Mm.acc
  split
  · rfl
  · rw [List.getElem?_eq_none (by omega)]
theorem acc_at {s : Mm} {i : Nat} {k : Tl} (h : s.C[i]? = some k) (x pg : Int) (wr : Bool) : s.acc i x pg wr = accK s i k x pg wr := by
  unfold Mm.acc
  rw [if_neg (by omega), Int.toNat_natCast, h]
theorem acc_badcpu (w : World) (F : List Nat) (p : Nat) (s : Mm) (h : MmRep w F p s) (cpu x pg : Int) (wr : Bool) (hi : cpu < 0 ∨ (s.C.length : Int) ≤ cpu) :
    Calls Tryz.prog 22 #[.pointer (some ⟨p, 0, none⟩), .int .i64 cpu, .int .i64 x, .int .i64 pg, .bool wr] w fun e w' => e = .returned (.tuple #[.int .i64 0, .bool false]) ∧ w = w' := by
  obtain ⟨L, b, nb, q, A, cap, c, h, hn⟩ := h
  have c1 := h.bp.cell 1
  clear h
  generalize s.C.length = N at *
  by_cases h0 : cpu < 0
  · go_enter Tryz.func22, Tryz.ntmps22
    go_wp2
    go_ret2
    exact ⟨rfl, rfl⟩
  · have h1 : (N : Int) ≤ cpu := by omega
    go_enter Tryz.func22, Tryz.ntmps22
    go_wp2
    go_ret2
    exact ⟨rfl, rfl⟩
theorem MmNext.undrew {w w' : World} {F : List Nat} {p : Nat} {s : Mm} (h : MmNext w.drew w' F p s) : MmNext w w' F p s := by
  obtain ⟨F', h1, h2, h3⟩ := h
  exact ⟨F', h1, ((Keeps.refl F w).drew).trans h2 (fun g hg => .inl hg), h3⟩
set_option maxRecDepth 100000 in
set_option maxHeartbeats 3200000 in
theorem acc_some (w : World) (F : List Nat) (p : Nat) (s : Mm) (h : MmRep w F p s) (i : Nat) (k : Tl) (x pg : Int) (wr : Bool) (hi : s.C[i]? = some k) (hkn : k.n ≤ 1000) (hC : s.C.length ≤ 64) (h1 : -9223372036854775808 ≤ x) (h2 : x ≤ 9223372036854775807) (h3 : -9223372036854775808 ≤ pg) (h4 : pg ≤ 9223372036854775807) :
    Calls Tryz.prog 22 #[.pointer (some ⟨p, 0, none⟩), .int .i64 i, .int .i64 x, .int .i64 pg, .bool wr] w fun e w' => e = .returned (.tuple #[.int .i64 (accK s i k x pg wr).f, .bool (accK s i k x pg wr).ok]) ∧ MmNext w w' F p (accK s i k x pg wr).s := by
  obtain ⟨L, b, nb, q, A, cap, c, h, hn⟩ := h
  have c1 := h.bp.cell 1
  have hil : i < s.C.length := (List.getElem?_eq_some_iff.1 hi).1
  obtain ⟨G0, rc, hrc, -, -⟩ := h.cs i k hi
  obtain ⟨A', cap', hv, -, -, hA⟩ := own_shape h.bo
  injection hv with e1 _ e3
  subst e1 e3
  obtain ⟨g, rfl⟩ := hA (by omega)
  have x0 := own_cell h.bo (j := i) (u := .pointer (some ⟨rc, 0, none⟩)) (by rw [List.getElem?_map, hrc]; rfl)
  have kd : Keeps [] w w.drew := (Keeps.refl [] w).drew
  have HT := Lib.hid (table_foc w.drew (h.keep kd (by simp)) hn x h1 h2)
  have HW : Hid (∀ W, Keeps [] w W → W.cell? ⟨p, 1, none⟩ = some (.slice (some ⟨g, 0, none⟩) s.C.length cap) ∧ W.cell? ⟨g, i, none⟩ = some (.pointer (some ⟨rc, 0, none⟩))) := Lib.hid (fun W hW => ⟨(h.bp.keep hW (by simp)).cell 1, own_cell (own_keep h.bo hW (by simp)) (j := i) (u := .pointer (some ⟨rc, 0, none⟩)) (by rw [List.getElem?_map, hrc]; rfl)⟩)
  have j0 : (0 : Int) ≤ i := by omega
  have jd : (i : Int) < s.C.length := by omega
  have HI := Lib.hid (And.intro hi hrc)
  have HKN := Lib.hid hkn
  have c1d := (HW.out _ kd).1
  have x0d := (HW.out _ kd).2
  obtain ⟨a, ha⟩ : ∃ a, a = accK s i k x pg wr := ⟨_, rfl⟩
  rw [← ha]
  have HA2 : Hid (a = accK s i k x pg wr) := Lib.hid ha
  clear h hA hi hrc ha hkn
  generalize hm : s.tab x = m at *
  have HM := Lib.hid hm
  clear hm
  have hN : s.C.length = s.C.length := rfl
  clear hN
  go_enter Tryz.func22, Tryz.ntmps22
  go_wp2_with fail
  go_region_held3 (fun w' => w'.cell? ⟨p, 1, none⟩ = some (.slice (some ⟨g, 0, none⟩) s.C.length cap) ∧ w'.cell? ⟨g, i, none⟩ = some (.pointer (some ⟨rc, 0, none⟩)))
    (first
      | exact HW.out _ kd
      | exact HW.out _ K1)
    ((go_at_call 40; refine HT.out.mono ?_; rintro e w1 ⟨r, rfl, f1, k1⟩; have K1 := kd.trans k1 (by simp)))
  have CL := Lib.hid (f1.clook HI.out.1 HI.out.2 HKN.out x pg wr)
  clear f1 k1 K1 HT HW c1d x0d kd
  rename_i hHeld
  clear hHeld
  generalize hR : k.lookR x pg wr = R at *
  generalize hK1 : k.look x pg wr = k1 at *
  obtain ⟨fr, hit⟩ := R
  have HR := Lib.hid hR
  have HK1 := Lib.hid hK1
  clear hR hK1
  go_wp2_with fail
  refine CL.out.mono ?_
  rintro e w2 ⟨rfl, f2⟩
  clear CL
  have W2 := Lib.hid (f2.walk pg wr h3 h4)
  clear f2
  cases hit with
  | true =>
    have HE : Hid (a = ⟨({ s with C := s.C.set i k1 } : Mm).setTab x (wlkM m pg wr), fr, true⟩) := Lib.hid (by rw [HA2.out]; unfold accK; rw [HR.out, HK1.out, HM.out]; rfl)
    clear HA2
    go_wp2_with fail
    refine W2.out.mono ?_
    rintro e w3 ⟨rfl, f3⟩
    have F3 := Lib.hid f3.next.undrew
    clear f3 W2
    go_wp2
    go_ret2
    rw [HE.out]
    exact ⟨rfl, F3.out⟩
  | false =>
    cases hB : wlkB m pg wr with
    | false =>
      have HE : Hid (a = ⟨({ s with C := s.C.set i k1 } : Mm).setTab x (wlkM m pg wr), 0, false⟩) := Lib.hid (by rw [HA2.out]; unfold accK; rw [HR.out, HK1.out, HM.out, hB]; rfl)
      have W3 := W2.out
      rw [hB] at W3
      have W4 := Lib.hid W3
      clear HA2 hB W2 W3
      go_wp2_with fail
      refine W4.out.mono ?_
      rintro e w3 ⟨rfl, f3⟩
      have F3 := Lib.hid f3.next.undrew
      clear f3 W4
      go_wp2
      go_ret2
      rw [HE.out]
      exact ⟨rfl, F3.out⟩
    | true =>
      generalize hm2 : wlkM m pg wr = m2 at *
      generalize hn2 : wlkN m pg wr = n2 at *
      have HE : Hid (a = ⟨{ ({ s with C := s.C.set i k1 } : Mm).setTab x m2 with C := (({ s with C := s.C.set i k1 } : Mm).setTab x m2).C.set i (k1.fill ⟨x, pg, n2, (lookX m2 pg).2.wr⟩) }, n2, true⟩) := Lib.hid (by rw [HA2.out]; unfold accK; rw [HR.out, HK1.out, HM.out, hm2, hn2, hB]; rfl)
      have W3 := W2.out
      rw [hB] at W3
      have W4 := Lib.hid W3
      have hi2 : ((({ s with C := s.C.set i k1 } : Mm).setTab x m2).C)[i]? = some k1 := by
        rw [setTab_C]
        show (s.C.set i k1)[i]? = _
        rw [List.getElem?_set, if_pos rfl, if_pos hil]
      have hk1 : k1.n ≤ 1000 := by
        rw [← HK1.out]
        have : (k.look x pg wr).n = k.n := by unfold Tl.look; split <;> rfl
        rw [this]
        exact HKN.out
      have HX := Lib.hid (And.intro hi2 hk1)
      clear HA2 hB W2 W3 hm2 hn2 hi2 hk1
      go_wp2_with fail
      refine W4.out.mono ?_
      rintro e w3 ⟨rfl, f3⟩
      have T3 := Lib.hid (f3.tlook pg h3 h4)
      clear f3 W4
      unfold pteV at T3
      generalize lookX m2 pg = lx at *
      go_wp2_with fail
      refine T3.out.mono ?_
      rintro e w4 ⟨rfl, f4, -⟩
      have f5 := f4.same ((Keeps.refl [] w4).alloc (.cells #[.int .i64 lx.1, .int .i64 lx.2.fr, .bool lx.2.wr, .bool lx.2.ac, .bool lx.2.di] 42))
      have C5 := Lib.hid (f5.cfill HX.out.1 HI.out.2 HX.out.2 ⟨x, pg, n2, lx.2.wr⟩)
      clear f4 f5 T3
      go_wp2_with fail
      refine C5.out.mono ?_
      rintro e w5 ⟨rfl, f6⟩
      have F3 := Lib.hid f6.next.undrew
      clear f6 C5
      go_wp2
      go_ret2
      rw [HE.out]
      exact ⟨rfl, F3.out⟩
theorem MmRep.next {w w' : World} {F : List Nat} {p : Nat} {s : Mm} (h : MmRep w' F p s) (hk : Keeps F w w') : MmNext w w' F p s := ⟨F, h, hk, fun _ hg => .inl hg⟩
theorem acc_any (w : World) (F : List Nat) (p : Nat) (s : Mm) (h : MmRep w F p s) (ok : Ok s) (cpu x pg : Int) (wr : Bool) (h1 : -9223372036854775808 ≤ x) (h2 : x ≤ 9223372036854775807) (h3 : -9223372036854775808 ≤ pg) (h4 : pg ≤ 9223372036854775807) :
    Calls Tryz.prog 22 #[.pointer (some ⟨p, 0, none⟩), .int .i64 cpu, .int .i64 x, .int .i64 pg, .bool wr] w fun e w' => e = .returned (.tuple #[.int .i64 (s.acc cpu x pg wr).f, .bool (s.acc cpu x pg wr).ok]) ∧ MmNext w w' F p (s.acc cpu x pg wr).s := by
  by_cases h0 : cpu < 0 ∨ (s.C.length : Int) ≤ cpu
  · rw [acc_no h0]
    refine (acc_badcpu w F p s h cpu x pg wr h0).mono ?_
    rintro e w1 ⟨rfl, rfl⟩
    exact ⟨rfl, h.next (Keeps.refl _ _)⟩
  · obtain ⟨j, rfl⟩ : ∃ j : Nat, cpu = j := ⟨cpu.toNat, by omega⟩
    have hj : j < s.C.length := by omega
    have hjs := List.getElem?_eq_getElem hj
    rw [acc_at hjs]
    exact acc_some w F p s h j _ x pg wr hjs (ok.k _ (List.getElem_mem hj)) ok.c h1 h2 h3 h4
end Go.Proofs.YteognipfnbocpaaGreat
