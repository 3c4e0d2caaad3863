/- The reference's link: the walks, the rest. -/
import Derived.Test.YtipmhhhhfnpdgaaR1
namespace Go.Proofs.Ytipmhhhhfnpdgaa
open Go.RowKit

theorem add_of_plain (b o n : Nat) : (⟨b, o, none⟩ : Addr).add n = ⟨b, o + n, none⟩ := by unfold Addr.add; split <;> simp_all

set_option maxRecDepth 100000 in
set_option maxHeartbeats 2000000 in
theorem remove_any (w : World) (F : List Nat) (p : Nat) (s : Lk) (k : Nat) (hkl : k < s.L.length) (h : LkRep 51 w F p s) :
    Calls Try.prog 36 #[.pointer (some ⟨p, 0, none⟩), .int .i64 k] w fun e w' => e = .returned (.tuple #[]) ∧ Next 51 w w' F p ⟨s.L.eraseIdx k, s.cut⟩ := by
  obtain ⟨A, cap, h⟩ := h
  have c0 : w.cell? ⟨p, 0, none⟩ = some (.slice A s.L.length cap) := h.b.cell 0
  have hm := h.m
  have hpl := h.b.lt
  obtain ⟨_, _, hv, hcap, hmax, hA⟩ := own_shape h.o
  obtain ⟨rfl, -, rfl⟩ : A = _ ∧ s.L.length = _ ∧ cap = _ := by injection hv with h1 h2 h3; exact ⟨h1, rfl, h3⟩
  clear hv
  obtain ⟨g, rfl⟩ := hA (by omega)
  have hwr : IntKind.i64.wrap ((k : Int) + 1) = (k : Int) + 1 := by rw [IntKind.wrap_i64]; omega
  have hp0 : (0 : Int) ≤ (k : Int) + 1 := by omega
  have hp1 : (k : Int) + 1 ≤ (s.L.length : Int) := by omega
  have hp2 : ((k : Int) + 1).toNat = k + 1 := by omega
  have hp3 : (k : Int) ≤ (s.L.length : Int) := by omega
  have hp4 : (k : Int) ≤ (cap : Int) := by omega
  have hp5 : (0 : Int) ≤ (k : Int) := by omega
  have HG := Lib.hid h
  have hk1 : Keeps [] w (w.alloc (.cells #[] 31)).drew := ((Keeps.refl _ _).alloc _).drew
  have HE : Hid ((w.alloc (.cells #[] 31)).drew.ownsRow 0 31 2 (.slice (some ⟨w.heap.size, 0, none⟩) 0 0) 0 []) := own_drew (own_of_blk (Blk.new w 31 #[]) (by omega) (by omega) rfl rfl)
  have hR := reads_own (own_keep h.o hk1 (by simp))
  have HR : Hid (Reads (w.alloc (.cells #[] 31)).drew (w.alloc (.cells #[] 31)).drew.heap.size 2 (some ⟨g, 0, none⟩) k (pc (s.L.take k))) := by
    refine ⟨by rw [pc_len, List.length_take]; congr 1; omega, fun h0 => ?_⟩
    obtain ⟨ad, e, hb, hc⟩ := hR.2 (by omega)
    refine ⟨ad, e, hb, fun j u hu => hc j u ?_⟩
    rw [← pc_take] at hu
    rw [List.getElem?_take] at hu
    split at hu
    · exact hu
    · cases hu
  have HK := Lib.hid hk1
  have HI := Lib.hid info31
  have P1 := Lib.hid (pc_one (s.L.take k))
  have P2 := Lib.hid (pc_one (s.L.drop (k + 1)))
  have h63 : 0 + k ≤ maxLen := by unfold maxLen; omega
  have h64 : (0 + k) + (s.L.length - (k + 1)) ≤ maxLen := by unfold maxLen; omega
  have hcut : ∀ W1 : World, Keeps [] w W1 → Reads W1 W1.heap.size 2 (if cap = k + 1 then some ⟨g, 0, none⟩ else some ⟨g, (k + 1) * 2, none⟩) (s.L.length - (k + 1)) (pc (s.L.drop (k + 1))) := by
    intro W1 hk
    have hr1 := reads_own (own_keep h.o hk (by simp))
    have := hr1.cut (k := k + 1) (by omega) hcap
    rw [pc_drop] at this
    have e : (if cap = k + 1 then some (⟨g, 0, none⟩ : Addr) else some ⟨g, (k + 1) * 2, none⟩) = (if cap = k + 1 then some ⟨g, 0, none⟩ else (some ⟨g, 0, none⟩ : Option Addr).map (·.add ((k + 1) * 2))) := by
      split
      · rfl
      · simp [add_of_plain]
    rw [e]
    exact this
  have HC := Lib.hid hcut
  have hl : (s.L.eraseIdx k).length ≤ 500 := by rw [List.length_eraseIdx_of_lt hkl]; omega
  have HL := Lib.hid hl
  have HW : Hid (∀ (v : Value) (W : World), W.ownsRow 0 31 2 v ((0 + k) + (s.L.length - (k + 1))) (([] ++ pc (s.L.take k)) ++ pc (s.L.drop (k + 1))) → W.ownsRow 0 31 2 v (s.L.eraseIdx k).length (pc (s.L.eraseIdx k))) := by
    intro v W h
    rw [List.length_eraseIdx_of_lt hkl, pc_erase, pc_take, pc_drop]
    have e : (0 + k) + (s.L.length - (k + 1)) = s.L.length - 1 := by omega
    rw [e, List.nil_append] at h
    exact h
  obtain ⟨A2, hA2⟩ : ∃ A2 : Option Addr, (if cap = k + 1 then some (⟨g, 0, none⟩ : Addr) else some ⟨g, (k + 1) * 2, none⟩) = A2 := ⟨_, rfl⟩
  clear h hk1 hR hcut hl
  go_enter Try.func36, Try.ntmps36
  go_wp2_with fail
  go_region_law (first
      | (refine step_app (by rfl) (.tmp 12) (.tmp 19) 27 (by rfl) 31 (.agg #[.int .i64 0, .string E0]) 2 24 Try.underlying27 HI.out rfl (by omega) v1 (0 + k) ([] ++ pc (s.L.take k)) (by simp [Act.eval, Act.put]) ho1 _ A2 (s.L.length - (k + 1)) (cap - (k + 1)) (pc (s.L.drop (k + 1))) (by simp [Act.eval, Act.put]) (hA2 ▸ HC.out _ kk1) P2.out h64 (by omega) (fun v2 w2 ho2 hk2 hf2 => ?_); have kk := fresh_store (L' := s.L.eraseIdx k) HG.out (HW.out _ _ ho2) (kk1.trans hk2 (fun g hg => .inr (ff1 g hg))) (fun g hg => (hf2 g hg).elim (ff1 g) (fun h => Nat.le_trans kk1.size h)) HL.out; obtain ⟨A3, cap3, rfl, d0, d1, hsz, hn⟩ := kk; have HN := Lib.hid hn; clear hn)
      | (refine step_app (by rfl) (.tmp 5) (.tmp 11) 27 (by rfl) 31 (.agg #[.int .i64 0, .string E0]) 2 24 Try.underlying27 HI.out rfl (by omega) (.slice (some ⟨w.heap.size, 0, none⟩) 0 0) 0 [] (by simp [Act.eval, Act.put]) HE.out _ (some ⟨g, 0, none⟩) k cap (pc (s.L.take k)) (by simp [Act.eval, Act.put]) HR.out P1.out h63 (by omega) (fun v1 w1 ho1 hk1 hf1 => ?_); have kk1 := HK.out.trans hk1 (by simp); have cc1 := (HG.out.b.keep kk1 (by simp)).cell 0; have ff1 : ∀ g ∈ fp v1, w.heap.size ≤ g := (fun g hg => (hf1 g hg).elim (fun h => Nat.le_of_eq (List.mem_singleton.1 h).symm) (fun h => Nat.le_trans HK.out.size h))))
  all_goals
    go_wp2
    go_end0
    exact ⟨rfl, HN.out⟩
end Go.Proofs.Ytipmhhhhfnpdgaa
