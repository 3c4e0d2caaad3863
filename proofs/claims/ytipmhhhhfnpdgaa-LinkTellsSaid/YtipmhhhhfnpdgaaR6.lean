/- The reference's Copy. -/
import Derived.Test.YtipmhhhhfnpdgaaR3
namespace Go.Proofs.Ytipmhhhhfnpdgaa
open Go.RowKit

set_option maxHeartbeats 1000000 in
theorem rcopy_any (w : World) (F : List Nat) (p : Nat) (s : Lk) (h : LkRep 51 w F p s) :
    Calls Try.prog 23 #[.pointer (some ⟨p, 0, none⟩)] w fun e w' => ∃ F' p', e = .returned (.pointer (some ⟨p', 0, none⟩)) ∧ LkRep 51 w' F' p' s ∧ Keeps [] w w' ∧ ∀ g ∈ F', w.heap.size ≤ g := by
  obtain ⟨A, cap, h⟩ := h
  have c0 : w.cell? ⟨p, 0, none⟩ = some (.slice A s.L.length cap) := h.b.cell 0
  have c1 : w.cell? ⟨p, 1, none⟩ = some (.bool s.cut) := h.b.cell 1
  have hl := h.b.lt
  have hm := h.m
  have h1 := pc_one s.L
  have hown : (w.alloc (.cells #[] 31)).drew.ownsRow 0 31 2 (.slice (some ⟨w.heap.size, 0, none⟩) 0 0) 0 [] := own_drew (own_of_blk (Blk.new w 31 #[]) (by omega) (by omega) rfl rfl)
  have hk0 : Keeps [] w (w.alloc (.cells #[] 31)).drew := ((Keeps.refl [] _).alloc _).drew
  have hrd := reads_own (own_keep h.o hk0 (by simp))
  have h63 : 0 + s.L.length ≤ maxLen := by unfold maxLen; omega
  have hby : (0 + s.L.length) * 24 ≤ 140737488355328 := by omega
  have H1 := Lib.hid h1
  have HO := Lib.hid hown
  have HR := Lib.hid hrd
  have HK := Lib.hid hk0
  have HI := Lib.hid info31
  have HB := Lib.hid h.b
  clear h1 hown hrd hk0 h
  go_enter Try.func23, Try.ntmps23
  go_wp2_with fail
  go_region_held3 (fun w' => w'.cell? ⟨p, 0, none⟩ = some (.slice A s.L.length cap) ∧ w'.cell? ⟨p, 1, none⟩ = some (.bool s.cut))
    (first
      | go_keep
      | (go_split_ands
         exact ⟨((HB.out.keep HK.out (by simp)).keep hk' (by simp; omega)).cell 0, ((HB.out.keep HK.out (by simp)).keep hk' (by simp; omega)).cell 1⟩))
    ((refine step_app (by rfl) (.tmp 3) (.tmp 7) 27 (by rfl) 31 (.agg #[.int .i64 0, .string E0]) 2 24 Try.underlying27 HI.out rfl (by omega) (.slice (some ⟨w.heap.size, 0, none⟩) 0 0) 0 [] (by rfl) HO.out _ A s.L.length cap (pc s.L) (by rfl) HR.out H1.out h63 hby ?_; intro v' w' ho' hk' hf'; obtain ⟨A1, cap1, rfl, -, -, -⟩ := own_shape ho'))
  go_wp2
  go_ret
  have ho2 : w'.ownsRow 0 31 2 (.slice A1 s.L.length cap1) s.L.length (pc s.L) := by simpa using ho'
  have hf2 : ∀ g ∈ fp (.slice A1 s.L.length cap1), w.heap.size ≤ g := by
    intro g hg
    rcases hf' g (by simpa using hg) with h2 | h2
    · have : g = w.heap.size := by simpa using h2
      omega
    · have := HK.out.size
      omega
  have hs : w.heap.size ≤ w'.heap.size := Nat.le_trans HK.out.size hk'.size
  refine ⟨w'.heap.size :: fp (.slice A1 s.L.length cap1), w'.heap.size, rfl, ⟨A1, cap1, rfl, Blk.new _ _ _, ?_, hm, by decide⟩, ?_, ?_⟩
  · exact own_keep ho2 ((Keeps.refl [] _).alloc _) (by simp)
  · exact (HK.out.trans hk' (by simp)).alloc _
  · intro g hg
    rcases List.mem_cons.1 hg with rfl | hg
    · exact hs
    · exact hf2 g hg
end Go.Proofs.Ytipmhhhhfnpdgaa
