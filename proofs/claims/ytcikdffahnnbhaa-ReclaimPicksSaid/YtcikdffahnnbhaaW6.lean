/- The walk of pass. -/
import Derived.Test.YtcikdffahnnbhaaW5
namespace Go.Proofs.Ytcikdffahnnbhaa
open Go.RowKit

def untouch (x : Fr) : Fr := { x with t := false }
def Ck.L1 (s : Ck) : List Fr := s.L.set s.h { s.L.getD s.h fr0 with m := false }
def Ck.pass (s : Ck) : Ck := if s.h + 1 < s.L.length then { s with L := s.L1, h := s.h + 1 }
  else { s with L := s.L1.map untouch, h := 0, nw := fun _ => 0, bf := s.nw }
section
variable {w w2 : World} {F : List Nat} {p : Nat} {s : Ck} {g cap bu bn bb : Nat}
theorem CkAt.setH (h : CkAt w F p s g cap bu bn bb) {k : Nat} (hk : k < s.L.length) : CkAt (w.setCell ⟨p, 1, none⟩ (.int .i64 k)) F p { s with h := k } g cap bu bn bb := by
  obtain ⟨o1, o2, o3, o4, o5, o6⟩ := h.off
  have kk : Keeps [p] w (w.setCell ⟨p, 1, none⟩ (.int .i64 k)) := (Keeps.refl _ _).setCell (.inl (by simp)) _
  exact ⟨h.f, h.b.set_ 1 _, own_keep h.o kk (by simpa using h.pg.symm), h.l0, h.l1, hk, h.mu.keep kk (by simpa using o1.symm), h.mn.keep kk (by simpa using o2.symm), h.mb.keep kk (by simpa using o3.symm), h.n1, h.n2, h.n3, h.ru, h.rn, h.rb, h.ro⟩
theorem CkAt.setHH (h : CkAt w F p s g cap bu bn bb) {k : Nat} (hk : k < s.L.length) (v : Value) : CkAt ((w.setCell ⟨p, 1, none⟩ v).setCell ⟨p, 1, none⟩ (.int .i64 k)) F p { s with h := k } g cap bu bn bb := by
  obtain ⟨o1, o2, o3, o4, o5, o6⟩ := h.off
  have kk : Keeps [p] w ((w.setCell ⟨p, 1, none⟩ v).setCell ⟨p, 1, none⟩ (.int .i64 k)) := ((Keeps.refl _ _).setCell (.inl (by simp)) _).setCell (.inl (by simp)) _
  exact ⟨h.f, (h.b.set_ 1 v).set_ 1 _, own_keep h.o kk (by simpa using h.pg.symm), h.l0, h.l1, hk, h.mu.keep kk (by simpa using o1.symm), h.mn.keep kk (by simpa using o2.symm), h.mb.keep kk (by simpa using o3.symm), h.n1, h.n2, h.n3, h.ru, h.rn, h.rb, h.ro⟩
theorem CkAt.swapM (h : CkAt w F p s g cap bu bn bb) : CkAt ((w.setCell ⟨p, 3, none⟩ (.map (some bb))).setCell ⟨p, 4, none⟩ (.map (some bn))) F p { s with nw := s.bf, bf := s.nw } g cap bu bb bn := by
  obtain ⟨o1, o2, o3, o4, o5, o6⟩ := h.off
  have kk : Keeps [p] w ((w.setCell ⟨p, 3, none⟩ (.map (some bb))).setCell ⟨p, 4, none⟩ (.map (some bn))) := ((Keeps.refl _ _).setCell (.inl (by simp)) _).setCell (.inl (by simp)) _
  exact ⟨fun x => by rw [h.f]; constructor <;> (intro hx; rcases hx with h | h | h | h | h <;> simp [h]), (h.b.set_ 3 _).set_ 4 _, own_keep h.o kk (by simpa using h.pg.symm), h.l0, h.l1, h.hh, h.mu.keep kk (by simpa using o1.symm), h.mb.keep kk (by simpa using o3.symm), h.mn.keep kk (by simpa using o2.symm), h.n2, h.n1, h.n3.symm, h.ru, h.rb, h.rn, h.ro⟩
end
/-- The first i frames are untouched. -/
def unt (L : List Fr) (i : Nat) : List Fr := (L.take i).map untouch ++ L.drop i
theorem unt_len (L : List Fr) (i : Nat) : (unt L i).length = L.length := by simp [unt]; omega
theorem unt_zero (L : List Fr) : unt L 0 = L := by simp [unt]
theorem unt_all (L : List Fr) : unt L L.length = L.map untouch := by simp [unt]
theorem unt_get {L : List Fr} {i : Nat} (h : i < L.length) : (unt L i)[i]'(by rw [unt_len]; exact h) = L[i] := by
  simp only [unt]
  rw [List.getElem_append_right (by simp; omega)]
  simp [Nat.min_eq_left (Nat.le_of_lt h)]
theorem unt_succ {L : List Fr} {i : Nat} (h : i < L.length) : (unt L i).set i (untouch L[i]) = unt L (i + 1) := by
  unfold unt
  rw [List.set_append_right _ _ (by simp; omega), List.take_succ_eq_append_getElem h, List.map_append, List.append_assoc]
  congr 1
  rw [show i - (List.map untouch (List.take i L)).length = 0 by simp; omega, List.drop_eq_getElem_cons h]
  rfl
theorem L1_len (s : Ck) : s.L1.length = s.L.length := by simp [Ck.L1]

set_option maxRecDepth 100000 in
set_option maxHeartbeats 3200000 in
theorem pass_any (w : World) (F : List Nat) (p : Nat) (s : Ck) (h : CkRep w F p s) :
    Calls Try.prog 21 #[.pointer (some ⟨p, 0, none⟩)] w fun e w' => e = .returned (.tuple #[]) ∧ CkRep w' F p s.pass ∧ Keeps F w w' := by
  obtain ⟨g, cap, bu, bn, bb, h⟩ := h
  have hk := h.hh
  have hl := h.l1
  have hgF : g ∈ F := by rw [h.f]; simp
  have hpF : p ∈ F := by rw [h.f]; simp
  have hbF : bb ∈ F := by rw [h.f]; simp
  have hpg := h.pg
  have hgp := h.pg.symm
  have c0 := h.e0
  have c1 := h.e1
  have p1 := h.cellj hk (j := 1) (by omega) (v := .bool s.L[s.h].m) rfl
  have f1 := own_free h.o (s.h * 4 + 1)
  have fp1 := h.b.frozen 1
  have fp3 := h.b.frozen 3
  have fp4 := h.b.frozen 4
  have hi0 : (0 : Int) ≤ (s.h : Int) := by omega
  have hi1 : (s.h : Int) < (s.L.length : Int) := by omega
  have hget : s.L.getD s.h fr0 = s.L[s.h] := by simp [List.getD, hk]
  have g1 := h.setL hk (j := 1) (by omega) (v := .bool false) (x := { s.L[s.h] with m := false }) rfl (h.ro _ hk)
  have hL1 : s.L.set s.h { s.L[s.h] with m := false } = s.L1 := by unfold Ck.L1; rw [hget]
  rw [hL1] at g1
  by_cases hend : s.h + 1 < s.L.length
  · have hi2 : (s.h : Int) + 1 < (s.L.length : Int) := by omega
    have g2 := g1.setH (k := s.h + 1) (by rw [L1_len]; exact hend)
    have HU := Lib.hid (show s.pass = { s with L := s.L1, h := s.h + 1 } from if_pos hend)
    rw [Int.natCast_add, Int.natCast_one] at g2
    have H2 := Lib.hid g2
    have HK := Lib.hid (((Keeps.refl F w).setCell (p := ⟨g, s.h * 4 + 1, none⟩) (.inl hgF) (.bool false)).setCell (p := ⟨p, 1, none⟩) (.inl hpF) (.int .i64 (s.h + 1)))
    clear g1 g2 hL1 h hget
    generalize s.h = k at *
    go_enter Try.func21, Try.ntmps21
    go_wp2_with fail
    go_region
    go_wp2_with fail
    go_region
    go_wp2
    refine bodyPost_ret (v := .tuple #[]) (by simp [results, Try.results21, go_sem]) rfl ?_
    rw [HU.out]
    exact ⟨rfl, ⟨_, _, _, _, _, H2.out.drew.drew⟩, HK.out.drew.drew⟩
  · have hi2 : (s.h : Int) + 1 = (s.L.length : Int) := by omega
    have t2 : decide ((s.h : Int) + 1 < (s.L.length : Int)) = false := by simp; omega
    have hlen : 0 < s.L1.length := by rw [L1_len]; omega
    have g2 := (g1.setHH (k := 0) hlen (.int .i64 ((s.h : Int) + 1))).drew.drew
    rw [← unt_zero s.L1] at g2
    have K2 := (((((Keeps.refl F w).setCell (p := ⟨g, s.h * 4 + 1, none⟩) (.inl hgF) (.bool false)).setCell (p := ⟨p, 1, none⟩) (.inl hpF) (.int .i64 ((s.h : Int) + 1))).setCell (p := ⟨p, 1, none⟩) (.inl hpF) (.int .i64 (0 : Nat))).drew).drew
    have HU := Lib.hid (show s.pass = { s with L := s.L1.map untouch, h := 0, nw := fun _ => 0, bf := s.nw } from if_neg hend)
    have HI := Lib.hid hi2
    have HL := Lib.hid (L1_len s)
    have g2 : CkAt ((((w.setCell ⟨g, s.h * 4 + 1, none⟩ (.bool false)).setCell ⟨p, 1, none⟩ (.int .i64 ((s.h : Int) + 1))).setCell ⟨p, 1, none⟩ (.int .i64 (0 : Nat))).drew.drew) F p ⟨unt s.L1 0, 0, s.us, s.nw, s.bf, s.N⟩ g cap bu bn bb := g2
    clear hL1 h hget hi2 g1
    generalize s.L1 = L1 at *
    generalize s.h = k at *
    go_enter Try.func21, Try.ntmps21
    go_wp2_with fail
    go_region
    go_wp2_with fail
    go_region
    go_wp2_with fail
    go_loopw [2, 38] (fun _ i wr => ∃ j : Nat, j ≤ s.L.length ∧ i = .int .i64 j ∧ CkAt wr F p ⟨unt L1 j, 0, s.us, s.nw, s.bf, s.N⟩ g cap bu bn bb ∧ Keeps F w wr) (fun _ i _ => s.L.length - (intOf i).toNat)
    case atStart => exact ⟨0, by omega, rfl, g2, K2⟩
    case round =>
      clear g2 K2 c0 c1 p1 f1 fp1
      obtain ⟨j, hj, rfl, G, K⟩ := hrel
      have hul : (unt L1 j).length = s.L.length := by rw [unt_len, HL.out]
      have e0 := G.e0
      simp only [hul] at e0
      by_cases hlt : j < s.L.length
      · have hjl : j < (unt L1 j).length := by omega
        have hjl2 : j < L1.length := by rw [HL.out]; exact hlt
        have p2 := G.cellj (i := j) hjl (j := 2) (by omega) (v := .bool L1[j].t) (by simp only [unt_get hjl2]; rfl)
        have f2 := own_free G.o (j * 4 + 2)
        have hj0 : (0 : Int) ≤ (j : Int) := by omega
        have hj1 : (j : Int) < (s.L.length : Int) := by omega
        have g3 := G.setL (k := j) hjl (j := 2) (by omega) (v := .bool false) (x := untouch L1[j]) (by simp only [unt_get hjl2]; rfl) (by have := G.ro j hjl; simp only [unt_get hjl2] at this; exact this)
        simp only [unt_succ hjl2] at g3
        have H3 := Lib.hid g3
        have HK3 := Lib.hid (K.setCell (p := ⟨g, j * 4 + 2, none⟩) (.inl hgF) (.bool false))
        clear g3 G K hul
        go_wp2
        go_roundw
        case rel => exact ⟨j + 1, by omega, by go_num, H3.out, HK3.out⟩
        case measure => simp [intOf]; omega
      · obtain rfl : j = s.L.length := by omega
        have e3 := G.e3
        have e4 := G.e4
        have f3 := G.b.frozen 3
        have f4 := G.b.frozen 4
        have g3 := G.swapM.drew
        have d3 := g3.e3
        obtain ⟨w2, q2, m2, k2⟩ := g3.mn.clear Try.underlying43
        have g4 := g3.setN (u := fun _ => 0) k2 (m2.mono (Nat.zero_le _)) (fun x => ⟨by simp, by simp⟩)
        have hua : unt L1 s.L.length = L1.map untouch := by rw [← HL.out, unt_all]
        rw [hua] at g4
        have H4 := Lib.hid g4
        have HK4 := Lib.hid ((((K.setCell (p := ⟨p, 3, none⟩) (.inl hpF) (.map (some bb))).setCell (p := ⟨p, 4, none⟩) (.inl hpF) (.map (some bn))).drew).trans k2 (fun x hx => .inl (by rw [List.mem_singleton.1 hx]; exact hbF)))
        clear g3 g4 G K hul hua k2 m2 fp3 fp4
        go_wp2_with fail
        go_region
        go_wp2
        go_end0
        rw [HU.out]
        exact ⟨rfl, ⟨_, _, _, _, _, H4.out⟩, HK4.out⟩
end Go.Proofs.Ytcikdffahnnbhaa
