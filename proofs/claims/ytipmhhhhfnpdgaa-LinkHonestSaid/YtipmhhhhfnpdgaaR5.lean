/- One operation of a law: do, model. -/
import Derived.Test.YtipmhhhhfnpdgaaR4
namespace Go.Proofs.Ytipmhhhhfnpdgaa
open Go.RowKit

/-- Which operation an Op is. -/
def opk (d : Int) : Int := bits .and .i64 d 7
/-- What an operation returns, and what it leaves. -/
def Lk.step (s : Lk) (d m : Int) (b : ByteArray) : (Pk × Int) × Lk :=
  if opk d = 3 then (((s.deliver m).1, (s.deliver m).2.1), (s.deliver m).2.2)
  else if opk d = 4 then (((0, E0), (s.deliver m).2.1), (s.deliver m).2.2)
  else if opk d = 5 then (((0, E0), (s.double m).1), (s.double m).2)
  else if opk d = 6 then (((0, E0), 0), ⟨[], true⟩)
  else if opk d = 7 then (((0, E0), 0), ⟨s.L, false⟩)
  else (((0, E0), (s.send m b).1), (s.send m b).2)
section
variable {s : Lk} {d m : Int} {b : ByteArray}
theorem step3 (h : opk d = 3) : s.step d m b = (((s.deliver m).1, (s.deliver m).2.1), (s.deliver m).2.2) := if_pos h
theorem step4 (h : opk d = 4) : s.step d m b = (((0, E0), (s.deliver m).2.1), (s.deliver m).2.2) := by unfold Lk.step; rw [if_neg (by omega), if_pos h]
theorem step5 (h : opk d = 5) : s.step d m b = (((0, E0), (s.double m).1), (s.double m).2) := by unfold Lk.step; rw [if_neg (by omega), if_neg (by omega), if_pos h]
theorem step6 (h : opk d = 6) : s.step d m b = (((0, E0), 0), ⟨[], true⟩) := by unfold Lk.step; rw [if_neg (by omega), if_neg (by omega), if_neg (by omega), if_pos h]
theorem step7 (h : opk d = 7) : s.step d m b = (((0, E0), 0), ⟨s.L, false⟩) := by unfold Lk.step; rw [if_neg (by omega), if_neg (by omega), if_neg (by omega), if_neg (by omega), if_pos h]
theorem step0 (h3 : ¬opk d = 3) (h4 : ¬opk d = 4) (h5 : ¬opk d = 5) (h6 : ¬opk d = 6) (h7 : ¬opk d = 7) : s.step d m b = (((0, E0), (s.send m b).1), (s.send m b).2) := by
  unfold Lk.step; rw [if_neg h3, if_neg h4, if_neg h5, if_neg h6, if_neg h7]
end

set_option maxRecDepth 100000 in
set_option maxHeartbeats 4000000 in
theorem do_any (w : World) (F : List Nat) (p : Nat) (s : Lk) (d m : Int) (b : ByteArray) (h : LkRep 53 w F p s) :
    Calls Try.prog 19 #[.pointer (some ⟨p, 0, none⟩), .agg #[.int .i64 d, .int .i64 m, .string b]] w fun e w' =>
      e = .returned (.tuple #[.agg #[.int .i64 (s.step d m b).1.1.1, .string (s.step d m b).1.1.2], .int .i64 (s.step d m b).1.2]) ∧ Next 53 w w' F p (s.step d m b).2 := by
  have kk : Keeps [] w ((w.alloc (.cells #[.int .i64 d, .int .i64 m, .string b] 44)).alloc (.cells #[.int .i64 0, .string E0] 31)) := ((Keeps.refl _ _).alloc _).alloc _
  have hA := h.keep kk (by simp)
  have hlt := h.lt
  have bA := (Blk.new w 44 #[.int .i64 d, .int .i64 m, .string b]).alloc (.cells #[.int .i64 0, .string E0] 31)
  have bR : Blk ((w.alloc (.cells #[.int .i64 d, .int .i64 m, .string b] 44)).alloc (.cells #[.int .i64 0, .string E0] 31)) (w.heap.size + 1) 31 #[.int .i64 0, .string E0] := by
    have := Blk.new (w.alloc (.cells #[.int .i64 d, .int .i64 m, .string b] 44)) 31 #[.int .i64 0, .string E0]
    simpa using this
  -- what stands after the method: the two boxes as they were, and the end
  have fin : ∀ (w1 : World) (s' : Lk) (x : Int) (y : ByteArray), Next 53 ((w.alloc (.cells #[.int .i64 d, .int .i64 m, .string b] 44)).alloc (.cells #[.int .i64 0, .string E0] 31)) w1 F p s' →
      w1.cell? ⟨w.heap.size + 1, 0, none⟩ = some (.int .i64 0) ∧ w1.cell? ⟨w.heap.size + 1, 1, none⟩ = some (.string E0) ∧ w1.frozen? ⟨w.heap.size + 1, 0, none⟩ = false ∧ w1.frozen? ⟨w.heap.size + 1, 1, none⟩ = false ∧
      w.heap.size + 1 < w1.heap.size ∧
      Hid (((w1.setCell ⟨w.heap.size + 1, 0, none⟩ (.int .i64 x)).setCell ⟨w.heap.size + 1, 1, none⟩ (.string y)).cell? ⟨w.heap.size + 1, 0, none⟩ = some (.int .i64 x)) ∧
      Hid (((w1.setCell ⟨w.heap.size + 1, 0, none⟩ (.int .i64 x)).setCell ⟨w.heap.size + 1, 1, none⟩ (.string y)).cell? ⟨w.heap.size + 1, 1, none⟩ = some (.string y)) ∧
      Hid (Next 53 w ((w1.setCell ⟨w.heap.size + 1, 0, none⟩ (.int .i64 x)).setCell ⟨w.heap.size + 1, 1, none⟩ (.string y)) F p s') := by
    intro w1 s' x y hn
    obtain ⟨F', hr, hk, hf⟩ := hn
    have hF : w.heap.size + 1 ∉ F := fun hx => by have := hlt _ hx; omega
    have b1 := bR.keep hk hF
    have br := (b1.set_ 0 (.int .i64 x)).set_ 1 (.string y)
    refine ⟨b1.cell 0, b1.cell 1, b1.frozen 0, b1.frozen 1, ?_, br.cell 0, br.cell 1, F', ?_, ?_, ?_⟩
    · have := hk.size; simp at this; omega
    · have hk3 : Keeps [w.heap.size + 1] w1 ((w1.setCell ⟨w.heap.size + 1, 0, none⟩ (.int .i64 x)).setCell ⟨w.heap.size + 1, 1, none⟩ (.string y)) := ((Keeps.refl _ _).setCell (by simp) _).setCell (by simp) _
      refine hr.keep hk3 (fun g hg hx => ?_)
      simp at hx
      subst hx
      rcases hf _ hg with h | h
      · exact hF h
      · simp at h
        omega
    · exact (((kk.mono (G := F) (by simp)).trans hk (fun g hg => .inl hg)).setCell (.inr (by simp)) _).setCell (.inr (by simp)) _
    · intro g hg
      rcases hf g hg with h | h
      · exact .inl h
      · simp at h
        exact .inr (by omega)
  have FIN := Lib.hid fin
  clear fin kk bA bR
  by_cases hv3 : opk d = 3
  · have H := Lib.hid (show s.step d m b = _ from step3 hv3)
    have t3 : (bits .and .i64 d 7 == 3) = true := by simp [show bits .and .i64 d 7 = 3 from hv3]
    clear hv3
    go_enter Try.func19, Try.ntmps19
    go_wp2_with fail
    refine (deliver_any _ F p s m hA).mono ?_
    rintro e w1 ⟨rfl, hw, hk⟩
    have hn := Next.same hw hk
    clear hw hk
    obtain ⟨z0, z1, y0, y1, sz, X0, X1, X2⟩ := FIN.out w1 _ ((s.deliver m).1.1) ((s.deliver m).1.2) hn
    clear FIN hn
    go_wp2
    refine bodyPost_ret (v := .tuple #[.agg #[.int .i64 ((s.deliver m).1.1), .string ((s.deliver m).1.2)], .int .i64 ((s.deliver m).2.1)]) (by simp [results, Try.results19, go_sem, X0.out, X1.out]) rfl ?_
    rw [H.out]
    exact ⟨rfl, X2.out⟩
  by_cases hv4 : opk d = 4
  · have H := Lib.hid (show s.step d m b = _ from step4 hv4)
    have t3 : (bits .and .i64 d 7 == 3) = false := by simp [show bits .and .i64 d 7 = 4 from hv4]
    have t4 : (bits .and .i64 d 7 == 4) = true := by simp [show bits .and .i64 d 7 = 4 from hv4]
    clear hv4
    go_enter Try.func19, Try.ntmps19
    go_wp2_with fail
    refine (drop_any _ F p s m hA).mono ?_
    rintro e w1 ⟨rfl, hw, hk⟩
    have hn := Next.same hw hk
    clear hw hk
    obtain ⟨z0, z1, y0, y1, sz, X0, X1, X2⟩ := FIN.out w1 _ (0) (⟨#[]⟩) hn
    clear FIN hn
    go_wp2
    refine bodyPost_ret (v := .tuple #[.agg #[.int .i64 (0), .string (⟨#[]⟩)], .int .i64 ((s.deliver m).2.1)]) (by simp [results, Try.results19, go_sem, X0.out, X1.out]) rfl ?_
    rw [H.out]
    exact ⟨rfl, X2.out⟩
  by_cases hv5 : opk d = 5
  · have H := Lib.hid (show s.step d m b = _ from step5 hv5)
    have t3 : (bits .and .i64 d 7 == 3) = false := by simp [show bits .and .i64 d 7 = 5 from hv5]
    have t4 : (bits .and .i64 d 7 == 4) = false := by simp [show bits .and .i64 d 7 = 5 from hv5]
    have t5 : (bits .and .i64 d 7 == 5) = true := by simp [show bits .and .i64 d 7 = 5 from hv5]
    clear hv5
    go_enter Try.func19, Try.ntmps19
    go_wp2_with fail
    refine (double_any _ F p s m hA).mono ?_
    rintro e w1 ⟨rfl, hn⟩
    obtain ⟨z0, z1, y0, y1, sz, X0, X1, X2⟩ := FIN.out w1 _ (0) (⟨#[]⟩) hn
    clear FIN hn
    go_wp2
    refine bodyPost_ret (v := .tuple #[.agg #[.int .i64 (0), .string (⟨#[]⟩)], .int .i64 ((s.double m).1)]) (by simp [results, Try.results19, go_sem, X0.out, X1.out]) rfl ?_
    rw [H.out]
    exact ⟨rfl, X2.out⟩
  by_cases hv6 : opk d = 6
  · have H := Lib.hid (show s.step d m b = _ from step6 hv6)
    have t3 : (bits .and .i64 d 7 == 3) = false := by simp [show bits .and .i64 d 7 = 6 from hv6]
    have t4 : (bits .and .i64 d 7 == 4) = false := by simp [show bits .and .i64 d 7 = 6 from hv6]
    have t5 : (bits .and .i64 d 7 == 5) = false := by simp [show bits .and .i64 d 7 = 6 from hv6]
    have t6 : (bits .and .i64 d 7 == 6) = true := by simp [show bits .and .i64 d 7 = 6 from hv6]
    clear hv6
    go_enter Try.func19, Try.ntmps19
    go_wp2_with fail
    refine (cut_any _ F p s hA).mono ?_
    rintro e w1 ⟨rfl, F', hw, hk, hf⟩
    have hn : Next 53 _ w1 F p ⟨[], true⟩ := ⟨F', hw, hk, fun g hg => .inl (hf g hg)⟩
    clear hw hk hf
    obtain ⟨z0, z1, y0, y1, sz, X0, X1, X2⟩ := FIN.out w1 _ (0) (⟨#[]⟩) hn
    clear FIN hn
    go_wp2
    refine bodyPost_ret (v := .tuple #[.agg #[.int .i64 (0), .string (⟨#[]⟩)], .int .i64 (0)]) (by simp [results, Try.results19, go_sem, X0.out, X1.out]) rfl ?_
    rw [H.out]
    exact ⟨rfl, X2.out⟩
  by_cases hv7 : opk d = 7
  · have H := Lib.hid (show s.step d m b = _ from step7 hv7)
    have t3 : (bits .and .i64 d 7 == 3) = false := by simp [show bits .and .i64 d 7 = 7 from hv7]
    have t4 : (bits .and .i64 d 7 == 4) = false := by simp [show bits .and .i64 d 7 = 7 from hv7]
    have t5 : (bits .and .i64 d 7 == 5) = false := by simp [show bits .and .i64 d 7 = 7 from hv7]
    have t6 : (bits .and .i64 d 7 == 6) = false := by simp [show bits .and .i64 d 7 = 7 from hv7]
    have t7 : (bits .and .i64 d 7 == 7) = true := by simp [show bits .and .i64 d 7 = 7 from hv7]
    clear hv7
    go_enter Try.func19, Try.ntmps19
    go_wp2_with fail
    refine (join_any _ F p s hA).mono ?_
    rintro e w1 ⟨rfl, hw, hk⟩
    have hn := Next.same hw hk
    clear hw hk
    obtain ⟨z0, z1, y0, y1, sz, X0, X1, X2⟩ := FIN.out w1 _ (0) (⟨#[]⟩) hn
    clear FIN hn
    go_wp2
    refine bodyPost_ret (v := .tuple #[.agg #[.int .i64 (0), .string (⟨#[]⟩)], .int .i64 (0)]) (by simp [results, Try.results19, go_sem, X0.out, X1.out]) rfl ?_
    rw [H.out]
    exact ⟨rfl, X2.out⟩
  have H := Lib.hid (show s.step d m b = _ from step0 hv3 hv4 hv5 hv6 hv7)
  have t3 : (bits .and .i64 d 7 == 3) = false := by simp; exact hv3
  have t4 : (bits .and .i64 d 7 == 4) = false := by simp; exact hv4
  have t5 : (bits .and .i64 d 7 == 5) = false := by simp; exact hv5
  have t6 : (bits .and .i64 d 7 == 6) = false := by simp; exact hv6
  have t7 : (bits .and .i64 d 7 == 7) = false := by simp; exact hv7
  clear hv3 hv4 hv5 hv6 hv7
  go_enter Try.func19, Try.ntmps19
  go_wp2_with fail
  refine (send_any _ F p s m b hA).mono ?_
  rintro e w1 ⟨rfl, hn⟩
  obtain ⟨z0, z1, y0, y1, sz, X0, X1, X2⟩ := FIN.out w1 _ (0) (⟨#[]⟩) hn
  clear FIN hn
  go_wp2
  refine bodyPost_ret (v := .tuple #[.agg #[.int .i64 (0), .string (⟨#[]⟩)], .int .i64 ((s.send m b).1)]) (by simp [results, Try.results19, go_sem, X0.out, X1.out]) rfl ?_
  rw [H.out]
  exact ⟨rfl, X2.out⟩

set_option maxRecDepth 100000 in
set_option maxHeartbeats 4000000 in
theorem model_any (w : World) (F : List Nat) (p : Nat) (s : Lk) (d m : Int) (b : ByteArray) (h : LkRep 51 w F p s) :
    Calls Try.prog 24 #[.pointer (some ⟨p, 0, none⟩), .agg #[.int .i64 d, .int .i64 m, .string b]] w fun e w' =>
      e = .returned (.tuple #[.agg #[.int .i64 (s.step d m b).1.1.1, .string (s.step d m b).1.1.2], .int .i64 (s.step d m b).1.2]) ∧ Next 51 w w' F p (s.step d m b).2 := by
  have kk : Keeps [] w ((w.alloc (.cells #[.int .i64 d, .int .i64 m, .string b] 44)).alloc (.cells #[.int .i64 0, .string E0] 31)) := ((Keeps.refl _ _).alloc _).alloc _
  have hA := h.keep kk (by simp)
  have hlt := h.lt
  have bA := (Blk.new w 44 #[.int .i64 d, .int .i64 m, .string b]).alloc (.cells #[.int .i64 0, .string E0] 31)
  have bR : Blk ((w.alloc (.cells #[.int .i64 d, .int .i64 m, .string b] 44)).alloc (.cells #[.int .i64 0, .string E0] 31)) (w.heap.size + 1) 31 #[.int .i64 0, .string E0] := by
    have := Blk.new (w.alloc (.cells #[.int .i64 d, .int .i64 m, .string b] 44)) 31 #[.int .i64 0, .string E0]
    simpa using this
  -- what stands after the method: the two boxes as they were, and the end
  have fin : ∀ (w1 : World) (s' : Lk) (x : Int) (y : ByteArray), Next 51 ((w.alloc (.cells #[.int .i64 d, .int .i64 m, .string b] 44)).alloc (.cells #[.int .i64 0, .string E0] 31)) w1 F p s' →
      w1.cell? ⟨w.heap.size + 1, 0, none⟩ = some (.int .i64 0) ∧ w1.cell? ⟨w.heap.size + 1, 1, none⟩ = some (.string E0) ∧ w1.frozen? ⟨w.heap.size + 1, 0, none⟩ = false ∧ w1.frozen? ⟨w.heap.size + 1, 1, none⟩ = false ∧
      w.heap.size + 1 < w1.heap.size ∧
      Hid (((w1.setCell ⟨w.heap.size + 1, 0, none⟩ (.int .i64 x)).setCell ⟨w.heap.size + 1, 1, none⟩ (.string y)).cell? ⟨w.heap.size + 1, 0, none⟩ = some (.int .i64 x)) ∧
      Hid (((w1.setCell ⟨w.heap.size + 1, 0, none⟩ (.int .i64 x)).setCell ⟨w.heap.size + 1, 1, none⟩ (.string y)).cell? ⟨w.heap.size + 1, 1, none⟩ = some (.string y)) ∧
      Hid (Next 51 w ((w1.setCell ⟨w.heap.size + 1, 0, none⟩ (.int .i64 x)).setCell ⟨w.heap.size + 1, 1, none⟩ (.string y)) F p s') := by
    intro w1 s' x y hn
    obtain ⟨F', hr, hk, hf⟩ := hn
    have hF : w.heap.size + 1 ∉ F := fun hx => by have := hlt _ hx; omega
    have b1 := bR.keep hk hF
    have br := (b1.set_ 0 (.int .i64 x)).set_ 1 (.string y)
    refine ⟨b1.cell 0, b1.cell 1, b1.frozen 0, b1.frozen 1, ?_, br.cell 0, br.cell 1, F', ?_, ?_, ?_⟩
    · have := hk.size; simp at this; omega
    · have hk3 : Keeps [w.heap.size + 1] w1 ((w1.setCell ⟨w.heap.size + 1, 0, none⟩ (.int .i64 x)).setCell ⟨w.heap.size + 1, 1, none⟩ (.string y)) := ((Keeps.refl _ _).setCell (by simp) _).setCell (by simp) _
      refine hr.keep hk3 (fun g hg hx => ?_)
      simp at hx
      subst hx
      rcases hf _ hg with h | h
      · exact hF h
      · simp at h
        omega
    · exact (((kk.mono (G := F) (by simp)).trans hk (fun g hg => .inl hg)).setCell (.inr (by simp)) _).setCell (.inr (by simp)) _
    · intro g hg
      rcases hf g hg with h | h
      · exact .inl h
      · simp at h
        exact .inr (by omega)
  have FIN := Lib.hid fin
  clear fin kk bA bR
  by_cases hv3 : opk d = 3
  · have H := Lib.hid (show s.step d m b = _ from step3 hv3)
    have t3 : (bits .and .i64 d 7 == 3) = true := by simp [show bits .and .i64 d 7 = 3 from hv3]
    clear hv3
    go_enter Try.func24, Try.ntmps24
    go_wp2_with fail
    refine (rdeliver_any _ F p s m hA).mono ?_
    rintro e w1 ⟨rfl, hn⟩
    obtain ⟨z0, z1, y0, y1, sz, X0, X1, X2⟩ := FIN.out w1 _ ((s.deliver m).1.1) ((s.deliver m).1.2) hn
    clear FIN hn
    go_wp2
    refine bodyPost_ret (v := .tuple #[.agg #[.int .i64 ((s.deliver m).1.1), .string ((s.deliver m).1.2)], .int .i64 ((s.deliver m).2.1)]) (by simp [results, Try.results24, go_sem, X0.out, X1.out]) rfl ?_
    rw [H.out]
    exact ⟨rfl, X2.out⟩
  by_cases hv4 : opk d = 4
  · have H := Lib.hid (show s.step d m b = _ from step4 hv4)
    have t3 : (bits .and .i64 d 7 == 3) = false := by simp [show bits .and .i64 d 7 = 4 from hv4]
    have t4 : (bits .and .i64 d 7 == 4) = true := by simp [show bits .and .i64 d 7 = 4 from hv4]
    clear hv4
    go_enter Try.func24, Try.ntmps24
    go_wp2_with fail
    refine (rdrop_any _ F p s m hA).mono ?_
    rintro e w1 ⟨rfl, hn⟩
    obtain ⟨z0, z1, y0, y1, sz, X0, X1, X2⟩ := FIN.out w1 _ (0) (⟨#[]⟩) hn
    clear FIN hn
    go_wp2
    refine bodyPost_ret (v := .tuple #[.agg #[.int .i64 (0), .string (⟨#[]⟩)], .int .i64 ((s.deliver m).2.1)]) (by simp [results, Try.results24, go_sem, X0.out, X1.out]) rfl ?_
    rw [H.out]
    exact ⟨rfl, X2.out⟩
  by_cases hv5 : opk d = 5
  · have H := Lib.hid (show s.step d m b = _ from step5 hv5)
    have t3 : (bits .and .i64 d 7 == 3) = false := by simp [show bits .and .i64 d 7 = 5 from hv5]
    have t4 : (bits .and .i64 d 7 == 4) = false := by simp [show bits .and .i64 d 7 = 5 from hv5]
    have t5 : (bits .and .i64 d 7 == 5) = true := by simp [show bits .and .i64 d 7 = 5 from hv5]
    clear hv5
    go_enter Try.func24, Try.ntmps24
    go_wp2_with fail
    refine (rdouble_any _ F p s m hA).mono ?_
    rintro e w1 ⟨rfl, hn⟩
    obtain ⟨z0, z1, y0, y1, sz, X0, X1, X2⟩ := FIN.out w1 _ (0) (⟨#[]⟩) hn
    clear FIN hn
    go_wp2
    refine bodyPost_ret (v := .tuple #[.agg #[.int .i64 (0), .string (⟨#[]⟩)], .int .i64 ((s.double m).1)]) (by simp [results, Try.results24, go_sem, X0.out, X1.out]) rfl ?_
    rw [H.out]
    exact ⟨rfl, X2.out⟩
  by_cases hv6 : opk d = 6
  · have H := Lib.hid (show s.step d m b = _ from step6 hv6)
    have t3 : (bits .and .i64 d 7 == 3) = false := by simp [show bits .and .i64 d 7 = 6 from hv6]
    have t4 : (bits .and .i64 d 7 == 4) = false := by simp [show bits .and .i64 d 7 = 6 from hv6]
    have t5 : (bits .and .i64 d 7 == 5) = false := by simp [show bits .and .i64 d 7 = 6 from hv6]
    have t6 : (bits .and .i64 d 7 == 6) = true := by simp [show bits .and .i64 d 7 = 6 from hv6]
    clear hv6
    go_enter Try.func24, Try.ntmps24
    go_wp2_with fail
    refine (rcut_any _ F p s hA).mono ?_
    rintro e w1 ⟨rfl, F', hw, hk, hf⟩
    have hn : Next 51 _ w1 F p ⟨[], true⟩ := ⟨F', hw, hk, fun g hg => .inl (hf g hg)⟩
    clear hw hk hf
    obtain ⟨z0, z1, y0, y1, sz, X0, X1, X2⟩ := FIN.out w1 _ (0) (⟨#[]⟩) hn
    clear FIN hn
    go_wp2
    refine bodyPost_ret (v := .tuple #[.agg #[.int .i64 (0), .string (⟨#[]⟩)], .int .i64 (0)]) (by simp [results, Try.results24, go_sem, X0.out, X1.out]) rfl ?_
    rw [H.out]
    exact ⟨rfl, X2.out⟩
  by_cases hv7 : opk d = 7
  · have H := Lib.hid (show s.step d m b = _ from step7 hv7)
    have t3 : (bits .and .i64 d 7 == 3) = false := by simp [show bits .and .i64 d 7 = 7 from hv7]
    have t4 : (bits .and .i64 d 7 == 4) = false := by simp [show bits .and .i64 d 7 = 7 from hv7]
    have t5 : (bits .and .i64 d 7 == 5) = false := by simp [show bits .and .i64 d 7 = 7 from hv7]
    have t6 : (bits .and .i64 d 7 == 6) = false := by simp [show bits .and .i64 d 7 = 7 from hv7]
    have t7 : (bits .and .i64 d 7 == 7) = true := by simp [show bits .and .i64 d 7 = 7 from hv7]
    clear hv7
    go_enter Try.func24, Try.ntmps24
    go_wp2_with fail
    refine (rjoin_any _ F p s hA).mono ?_
    rintro e w1 ⟨rfl, hw, hk⟩
    have hn := Next.same hw hk
    clear hw hk
    obtain ⟨z0, z1, y0, y1, sz, X0, X1, X2⟩ := FIN.out w1 _ (0) (⟨#[]⟩) hn
    clear FIN hn
    go_wp2
    refine bodyPost_ret (v := .tuple #[.agg #[.int .i64 (0), .string (⟨#[]⟩)], .int .i64 (0)]) (by simp [results, Try.results24, go_sem, X0.out, X1.out]) rfl ?_
    rw [H.out]
    exact ⟨rfl, X2.out⟩
  have H := Lib.hid (show s.step d m b = _ from step0 hv3 hv4 hv5 hv6 hv7)
  have t3 : (bits .and .i64 d 7 == 3) = false := by simp; exact hv3
  have t4 : (bits .and .i64 d 7 == 4) = false := by simp; exact hv4
  have t5 : (bits .and .i64 d 7 == 5) = false := by simp; exact hv5
  have t6 : (bits .and .i64 d 7 == 6) = false := by simp; exact hv6
  have t7 : (bits .and .i64 d 7 == 7) = false := by simp; exact hv7
  clear hv3 hv4 hv5 hv6 hv7
  go_enter Try.func24, Try.ntmps24
  go_wp2_with fail
  refine (rsend_any _ F p s m b hA).mono ?_
  rintro e w1 ⟨rfl, hn⟩
  obtain ⟨z0, z1, y0, y1, sz, X0, X1, X2⟩ := FIN.out w1 _ (0) (⟨#[]⟩) hn
  clear FIN hn
  go_wp2
  refine bodyPost_ret (v := .tuple #[.agg #[.int .i64 (0), .string (⟨#[]⟩)], .int .i64 ((s.send m b).1)]) (by simp [results, Try.results24, go_sem, X0.out, X1.out]) rfl ?_
  rw [H.out]
  exact ⟨rfl, X2.out⟩
end Go.Proofs.Ytipmhhhhfnpdgaa
