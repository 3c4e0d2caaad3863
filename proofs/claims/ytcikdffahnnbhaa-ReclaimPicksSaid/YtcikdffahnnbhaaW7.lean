/- The walk of victim. -/
import Derived.Test.YtcikdffahnnbhaaW6
namespace Go.Proofs.Ytcikdffahnnbhaa
open Go.RowKit

/-- The frame that is looked at in round i. -/
def Ck.at (s : Ck) (i : Nat) : Nat := (s.h + i) % s.L.length
def Ck.fr (s : Ck) (i : Nat) : Fr := s.L.getD (s.at i) fr0
/-- The first unmarked used frame, and the first used one, of the first i rounds (-1: none). -/
def Ck.vst (s : Ck) : Nat → Int × Int
  | 0 => (-1, -1)
  | i + 1 => if (s.fr i).u then (if !(s.fr i).m && decide ((s.vst i).1 < 0) then (s.at i : Int) else (s.vst i).1, if (s.vst i).2 < 0 then (s.at i : Int) else (s.vst i).2) else s.vst i
def Ck.stop (s : Ck) (i : Nat) : Bool := (s.fr i).u && !(s.fr i).m && s.over (s.fr i).o
def Ck.victim (s : Ck) : Int × Bool := match (List.range s.L.length).find? s.stop with
  | some i => (s.at i, true)
  | none => if 0 ≤ (s.vst s.L.length).1 then ((s.vst s.L.length).1, true) else (max (s.vst s.L.length).2 0, decide (0 ≤ (s.vst s.L.length).2))
theorem Ck.at_lt {s : Ck} (h : 0 < s.L.length) (i : Nat) : s.at i < s.L.length := Nat.mod_lt _ h
theorem Ck.fr_get {s : Ck} (h : 0 < s.L.length) (i : Nat) : s.fr i = s.L[s.at i]'(Ck.at_lt h i) := by unfold Ck.fr; simp [List.getD, Ck.at_lt h i]
theorem Ck.victim_stop {s : Ck} {k : Nat} (hk : k < s.L.length) (h0 : ∀ i, i < k → s.stop i = false) (h1 : s.stop k = true) : s.victim = ((s.at k : Int), true) := by
  have : (List.range s.L.length).find? s.stop = some k := by
    rw [List.find?_range_eq_some]
    exact ⟨h1, by simpa using hk, fun j hj => by simp [h0 j hj]⟩
  unfold Ck.victim
  rw [this]
theorem Ck.victim_none {s : Ck} (h0 : ∀ i, i < s.L.length → s.stop i = false) : s.victim = if 0 ≤ (s.vst s.L.length).1 then ((s.vst s.L.length).1, true) else (max (s.vst s.L.length).2 0, decide (0 ≤ (s.vst s.L.length).2)) := by
  have : (List.range s.L.length).find? s.stop = none := by
    rw [List.find?_eq_none]
    intro i hi
    simp [h0 i (List.mem_range.1 hi)]
  unfold Ck.victim
  rw [this]
theorem Ck.vst_lt {s : Ck} (h : 0 < s.L.length) (i : Nat) : (-1 ≤ (s.vst i).1 ∧ (s.vst i).1 < s.L.length) ∧ (-1 ≤ (s.vst i).2 ∧ (s.vst i).2 < s.L.length) := by
  induction i with
  | zero => simp [Ck.vst]; omega
  | succ i ih =>
    have ha := Ck.at_lt h i
    unfold Ck.vst
    split
    · refine ⟨?_, ?_⟩
      · simp only []; split <;> omega
      · simp only []; split <;> omega
    · exact ih

set_option maxRecDepth 100000 in
set_option maxHeartbeats 3200000 in
theorem victim_any (w : World) (F : List Nat) (p : Nat) (s : Ck) (h : CkRep w F p s) :
    Calls Try.prog 20 #[.pointer (some ⟨p, 0, none⟩)] w fun e w' => e = .returned (.tuple #[.int .i64 s.victim.1, .bool s.victim.2]) ∧ CkRep w' F p s ∧ Keeps [] w w' := by
  have hrep := h
  obtain ⟨g, cap, bu, bn, bb, h⟩ := h
  have hl0 := h.l0
  have hl := h.l1
  have hh := h.hh
  have c0 := h.e0
  go_enter Try.func20, Try.ntmps20
  go_wp2
  go_loopw [4, 5, 6, 7, 8, 14] (fun a b _ _ _ i wr => ∃ k : Nat, k ≤ s.L.length ∧ i = .int .i64 k ∧ a = .int .i64 (s.vst k).1 ∧ b = .int .i64 (s.vst k).2 ∧ (∀ i, i < k → s.stop i = false) ∧ Keeps [] w wr) (fun _ _ _ _ _ i _ => s.L.length - (intOf i).toNat)
  case atStart => exact ⟨0, by omega, rfl, rfl, rfl, by simp, Keeps.refl _ _⟩
  case round =>
    obtain ⟨k, hk, rfl, rfl, rfl, hst, K⟩ := hrel
    obtain ⟨⟨v1, v2⟩, ⟨v3, v4⟩⟩ := Ck.vst_lt hl0 k
    by_cases hlt : k < s.L.length
    · have G := h.keep K (by simp)
      have ha := Ck.at_lt hl0 k
      have e0 := G.e0
      have e1 := G.e1
      have hf := Lib.hid (Ck.fr_get hl0 k)
      have q0 : wr.cell? ⟨g, (s.h + k) % s.L.length * 4, none⟩ = some (.bool (s.fr k).u) := G.cellj ha (j := 0) (by omega) (v := .bool (s.fr k).u) (by rw [hf.out]; rfl)
      have q1 : wr.cell? ⟨g, (s.h + k) % s.L.length * 4 + 1, none⟩ = some (.bool (s.fr k).m) := G.cellj ha (j := 1) (by omega) (v := .bool (s.fr k).m) (by rw [hf.out]; rfl)
      have q2 : wr.cell? ⟨g, (s.h + k) % s.L.length * 4 + 2, none⟩ = some (.bool (s.fr k).t) := G.cellj ha (j := 2) (by omega) (v := .bool (s.fr k).t) (by rw [hf.out]; rfl)
      have q3 : wr.cell? ⟨g, (s.h + k) % s.L.length * 4 + 3, none⟩ = some (.int .i64 (s.fr k).o) := G.cellj ha (j := 3) (by omega) (v := .int .i64 (s.fr k).o) (by rw [hf.out]; rfl)
      have w1 : IntKind.i64.wrap ((s.h : Int) + (k : Int)) = (s.h : Int) + (k : Int) := by rw [IntKind.wrap_i64]; omega
      have HA : Hid (((s.at k : Nat) : Int) = ((s.h : Int) + (k : Int)) % (s.L.length : Int)) := Lib.hid (by unfold Ck.at; simp)
      have hv2 : ((s.h : Int) + (k : Int)) % (s.L.length : Int) < (s.L.length : Int) := Int.emod_lt_of_pos _ (by omega)
      have hv1 : (0 : Int) ≤ ((s.h : Int) + (k : Int)) % (s.L.length : Int) := Int.emod_nonneg _ (by omega)
      have hov := fun W (hW : CkRep W F p s) => over_any W F p s (s.fr k).o hW (by rw [hf.out]; exact (h.ro _ ha).1) (by rw [hf.out]; exact (h.ro _ ha).2)
      have HOV := Lib.hid hov
      have HK := Lib.hid K
      have HREP := Lib.hid hrep
      have HST := Lib.hid hst
      have hsv : Hid (s.vst (k + 1) = if (s.fr k).u then (if !(s.fr k).m && decide ((s.vst k).1 < 0) then (s.at k : Int) else (s.vst k).1, if (s.vst k).2 < 0 then (s.at k : Int) else (s.vst k).2) else s.vst k) := Lib.hid rfl
      have hss : Hid (s.stop k = ((s.fr k).u && !(s.fr k).m && s.over (s.fr k).o)) := Lib.hid rfl
      have HVS := Lib.hid (fun h1 => Ck.victim_stop hlt hst h1)
      rw [HA.out] at hsv HVS
      clear G K hov hst ha hf h hrep HA
      generalize hva : (s.vst k).1 = va at *
      generalize hvb : (s.vst k).2 = vb at *
      have HVA := Lib.hid hva
      have HVB := Lib.hid hvb
      clear hva hvb
      generalize s.fr k = x at *
      obtain ⟨x1, x2, x3, x4⟩ := x
      simp only [] at q0 q1 q2 q3
      cases x1
      · have HV2 : Hid (s.vst (k + 1) = (va, vb)) := Lib.hid (by rw [hsv.out]; simp; rw [← HVA.out, ← HVB.out])
        have HSS : Hid (s.stop k = false) := Lib.hid (by rw [hss.out]; rfl)
        go_wp2_with fail
        go_region
        go_wp2
        go_roundw
        case rel => exact ⟨k + 1, by omega, by go_num, by rw [HV2.out], by rw [HV2.out], (fun i hi => by
          by_cases e : i = k
          · subst e; exact HSS.out
          · exact HST.out i (by omega)), (by first | exact (HK.out.alloc _).drew | exact HK.out.drew.alloc _ | exact HK7.out)⟩
        case measure => simp [intOf]; omega
      · cases x2
        · have bx : Blk (wr.drew.alloc (.cells #[.bool true, .bool false, .bool x3, .int .i64 x4] 48)) wr.heap.size 48 #[.bool true, .bool false, .bool x3, .int .i64 x4] := Blk.new wr.drew _ _
          have HBX := Lib.hid bx
          clear bx
          cases ho : s.over x4
          all_goals
            rw [ho] at hss HOV
          · have HSS : Hid (s.stop k = false) := Lib.hid (by rw [hss.out]; rfl)
            have HO := Lib.hid ho
            clear ho
            have HV2 : Hid (s.vst (k + 1) = (if va < 0 then ((s.h : Int) + (k : Int)) % (s.L.length : Int) else va, if vb < 0 then ((s.h : Int) + (k : Int)) % (s.L.length : Int) else vb)) := Lib.hid (by rw [hsv.out]; simp)
            by_cases ha : va < 0
            all_goals by_cases hb : vb < 0
            all_goals
              have HAA := Lib.hid ha
              have HBB := Lib.hid hb
              clear ha hb
              go_wp2_with fail
              go_region
              go_wp2_with fail
              refine (HOV.out _ (HREP.out.keep (by first | exact (HK.out.alloc _).drew | exact HK.out.drew.alloc _) (by simp))).mono ?_
              rintro e w5 ⟨rfl, r5, k5⟩
              have b5 := HBX.out.keep k5 (by simp)
              have z1 : w5.cell? ⟨wr.heap.size, 1, none⟩ = some (.bool false) := b5.cell 1
              have HK7 : Hid (Keeps [] w w5) := Lib.hid ((by first | exact (HK.out.alloc _).drew | exact HK.out.drew.alloc _ : Keeps [] w (wr.drew.alloc (.cells #[.bool true, .bool false, .bool x3, .int .i64 x4] 48))).trans k5 (by simp))
              have ha := HAA.out
              have hb := HBB.out
              clear b5 k5 r5
              go_wp2
              go_roundw
              case rel => exact ⟨k + 1, by omega, by go_num, by rw [HV2.out]; first | rw [if_pos HAA.out] | rw [if_neg (Int.not_lt.2 HAA.out)], by rw [HV2.out]; first | rw [if_pos HBB.out] | rw [if_neg (Int.not_lt.2 HBB.out)], (fun i hi => by
                by_cases e : i = k
                · subst e; exact HSS.out
                · exact HST.out i (by omega)), HK7.out⟩
              case measure => simp [intOf]; omega
          · have HR := Lib.hid (HVS.out (by rw [hss.out]; rfl))
            clear ho
            go_wp2_with fail
            go_region
            go_wp2_with fail
            refine (HOV.out _ (HREP.out.keep (by first | exact (HK.out.alloc _).drew | exact HK.out.drew.alloc _) (by simp))).mono ?_
            rintro e w5 ⟨rfl, r5, k5⟩
            have HK7 : Hid (Keeps [] w w5) := Lib.hid ((by first | exact (HK.out.alloc _).drew | exact HK.out.drew.alloc _ : Keeps [] w (wr.drew.alloc (.cells #[.bool true, .bool false, .bool x3, .int .i64 x4] 48))).trans k5 (by simp))
            clear k5
            go_wp2
            go_ret2
            rw [HR.out]
            exact ⟨rfl, r5, HK7.out⟩
        · by_cases hb : vb < 0
          · have HV2 : Hid (s.vst (k + 1) = (va, ((s.h : Int) + (k : Int)) % (s.L.length : Int))) := Lib.hid (by rw [hsv.out]; simp [hb])
            have HSS : Hid (s.stop k = false) := Lib.hid (by rw [hss.out]; rfl)
            go_wp2_with fail
            go_region
            go_wp2
            go_roundw
            case rel => exact ⟨k + 1, by omega, by go_num, by rw [HV2.out], by rw [HV2.out], (fun i hi => by
              by_cases e : i = k
              · subst e; exact HSS.out
              · exact HST.out i (by omega)), (by first | exact (HK.out.alloc _).drew | exact HK.out.drew.alloc _ | exact HK7.out)⟩
            case measure => simp [intOf]; omega
          · have HV2 : Hid (s.vst (k + 1) = (va, vb)) := Lib.hid (by rw [hsv.out]; simp [hb])
            have HSS : Hid (s.stop k = false) := Lib.hid (by rw [hss.out]; rfl)
            go_wp2_with fail
            go_region
            go_wp2
            go_roundw
            case rel => exact ⟨k + 1, by omega, by go_num, by rw [HV2.out], by rw [HV2.out], (fun i hi => by
              by_cases e : i = k
              · subst e; exact HSS.out
              · exact HST.out i (by omega)), (by first | exact (HK.out.alloc _).drew | exact HK.out.drew.alloc _ | exact HK7.out)⟩
            case measure => simp [intOf]; omega
    · obtain rfl : k = s.L.length := by omega
      have HR := Lib.hid (Ck.victim_none hst)
      have HREP := Lib.hid (hrep.keep K (by simp))
      have HK := Lib.hid K
      clear hst K h hrep
      generalize (s.vst s.L.length).1 = va at *
      generalize (s.vst s.L.length).2 = vb at *
      by_cases hv : 0 ≤ va
      · have HRR := Lib.hid (HR.out.trans (if_pos hv))
        go_wp2
        go_ret2
        rw [HRR.out]
        exact ⟨rfl, HREP.out, HK.out⟩
      · have HRR := Lib.hid (HR.out.trans (if_neg hv))
        by_cases hb : 0 ≤ vb
        · have e1 : max vb 0 = vb := by omega
          have e2 : decide (0 ≤ vb) = true := by simpa using hb
          rw [e1, e2] at HRR
          clear e1 e2
          go_wp2
          all_goals go_ret2
          all_goals rw [HRR.out]
          all_goals exact ⟨by first | rfl | (congr; omega), HREP.out, HK.out⟩
        · have e1 : max vb 0 = 0 := by omega
          have e2 : decide (0 ≤ vb) = false := by simpa using hb
          rw [e1, e2] at HRR
          clear e1 e2
          go_wp2
          all_goals go_ret2
          all_goals rw [HRR.out]
          all_goals exact ⟨by first | rfl | (congr; omega), HREP.out, HK.out⟩
end Go.Proofs.Ytcikdffahnnbhaa
