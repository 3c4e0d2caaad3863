/- Texts of elder seats, turned to this one. -/
import Derived.Test.YteognipfnbocpaaGreatW6
namespace Go.Proofs.YteognipfnbocpaaGreat
open Go.RowKit
open T12 (E TbRep ent mapM mapN wlkM wlkB wlkN unmM clrM clrB lookX)
open T13 (Tl En TlRep es)

theorem setTab_same (s : Mm) (x : Int) : s.setTab x (s.tab x) = s := by
  unfold Mm.setTab
  split
  · rfl
  · rename_i m hm
    have e : updT s.t x (some (s.tab x)) = s.t := by
      funext y
      unfold updT
      split
      · rename_i hy
        subst hy
        unfold Mm.tab
        rw [hm]
        rfl
      · rfl
    rw [e]
def Mm.putTab (s : Mm) (x : Int) (m : Pg) : Mm := { s with t := updT s.t x (some m), k := s.k + 1 }
theorem putTab_set (s : Mm) (x : Int) (m : Pg) : (s.setTab x m).putTab x m = s.putTab x m := by
  unfold Mm.putTab
  unfold Mm.setTab
  split
  · rfl
  · have e : updT (updT s.t x (some m)) x (some m) = updT s.t x (some m) := by
      funext y
      unfold updT
      split <;> rfl
    rw [← e]
    simp only [e]
theorem MmAt.again {w w' : World} {F : List Nat} {p : Nat} {s : Mm} {L : Nat → Option Lb} {b nb : Nat} {q : Int → Option Nat} {A : Option Addr} {cap : Nat} {c : List Nat} (h : MmAt w F p s L b nb q A cap c) {nb' : Nat} (hk : Keeps [b] w w') (hm : PMap w' b nb' q) : MmAt w' F p s L b nb' q A cap c := by
  have off : ∀ g l, L g = some l → l ≠ .me → g ∉ [b] := fun g l h1 h2 h3 => by
    rw [List.mem_singleton.1 h3, h.lb] at h1
    injection h1 with h1
    exact h2 h1.symm
  refine ⟨fun g l hg => Nat.lt_of_lt_of_le (h.lt g l hg) hk.size, h.inF, h.bp.keep hk (by simpa using h.p_b.symm), hm, own_keep h.bo hk (fun g hg h1 => h.b_A (by rw [List.mem_singleton.1 h1] at hg; exact hg)), h.lp, h.lb, h.lA, h.qn, fun y k hy => ?_, fun i k hi => ?_, h.ix, fun g hg => Nat.lt_of_lt_of_le (h.fl g hg) hk.size⟩
  · obtain ⟨G1, r1, h1, h2, h3⟩ := h.qs y k hy
    exact ⟨G1, r1, h1, h2.keep hk (fun g hg => off g _ (h3 g hg) (by simp)), h3⟩
  · obtain ⟨G1, r1, h1, h2, h3⟩ := h.cs i k hi
    exact ⟨G1, r1, h1, h2.keep hk (fun g hg => off g _ (h3 g hg) (by simp)), h3⟩
/-- The table in the hand is laid into the map. -/
theorem Foc.put {c : List Nat} {w : World} {F : List Nat} {p : Nat} {s : Mm} {x : Int} {G : List Nat} {r : Nat} {m : Pg} (h : Foc c w F p s x G r m) (h1 : -9223372036854775808 ≤ x) (h2 : x ≤ 9223372036854775807) (hk : s.k ≤ 1000000) :
    ∃ b w' F', w.cell? ⟨p, 0, none⟩ = some (.map (some b)) ∧ (Instr.mapUpdate 57 (.map (some b)) (.int .i64 x) (.pointer (some ⟨r, 0, none⟩))).run Tryz.prog w = .ok () w' ∧ MmRep w' F' p (s.putTab x m) ∧ Keeps F w w' ∧ ∀ g ∈ F', g ∈ F ∨ g ∈ G := by
  obtain ⟨L, b, nb, q, A, cap, h, hn, h0, hx⟩ := h
  obtain ⟨w', hrun, hm, hkb⟩ := h.bm.upd (p := r) h1 h2 (by unfold maxLen; omega) Tryz.underlying57
  have hbF : b ∈ F := h.inF _ _ h.lb
  have hkF : Keeps F w w' := hkb.mono (fun g hg => by rw [List.mem_singleton.1 hg]; exact hbF)
  rcases hx with ⟨hx, hq, hG⟩ | ⟨hx, hG⟩
  · have eq : updP q x (some r) = q := by
      funext y
      unfold updP
      split
      · rename_i hy; rw [hy, hq]
      · rfl
    rw [eq] at hm
    have et : updT s.t x (some m) = s.t := by
      funext y
      unfold updT
      split
      · rename_i hy; rw [hy, hx]
      · rfl
    have ep : s.putTab x m = { s with k := s.k + 1 } := by unfold Mm.putTab; rw [et]
    rw [ep]
    have ha := h.again hkb hm
    refine ⟨b, w', F, h.bp.cell 0, hrun, ⟨L, b, nb + 1, q, A, cap, c, ?_, by show nb + 1 ≤ s.k + 1; omega⟩, hkF, fun g hg => .inl hg⟩
    exact ⟨ha.lt, ha.inF, ha.bp, ha.bm, ha.bo, ha.lp, ha.lb, ha.lA, ha.qn, ha.qs, ha.cs, ha.ix, ha.fl⟩
  · have hGn : ∀ g ∈ G, L g = none := fun g hg => by
      cases hl : L g with
      | none => rfl
      | some l => exact absurd (h.inF _ _ hl) (hG g hg)
    have hGb : ∀ g ∈ G, g ∉ [b] := fun g hg h3 => by rw [List.mem_singleton.1 h3] at hg; exact hG b hg hbF
    have hl := h.lay hx hGn hkb hm (h0.keep hkb hGb) h1 h2
    refine ⟨b, w', G ++ F, h.bp.cell 0, hrun, ⟨relab L G (.tb x), b, nb + 1, updP q x (some r), A, cap, c, ?_, by show nb + 1 ≤ s.k + 1; omega⟩, hkF, fun g hg => (List.mem_append.1 hg).symm⟩
    exact ⟨hl.lt, hl.inF, hl.bp, hl.bm, hl.bo, hl.lp, hl.lb, hl.lA, hl.qn, hl.qs, hl.cs, hl.ix, hl.fl⟩
theorem FocN.put {c : List Nat} {w0 w : World} {F0 : List Nat} {p : Nat} {s : Mm} {x : Int} {r : Nat} {m : Pg} (h : FocN c w0 F0 w p s x r m) (h1 : -9223372036854775808 ≤ x) (h2 : x ≤ 9223372036854775807) (hk : s.k ≤ 1000000) :
    ∃ b w', w.cell? ⟨p, 0, none⟩ = some (.map (some b)) ∧ (Instr.mapUpdate 57 (.map (some b)) (.int .i64 x) (.pointer (some ⟨r, 0, none⟩))).run Tryz.prog w = .ok () w' ∧ MmNext w0 w' F0 p (s.putTab x m) := by
  obtain ⟨F, G, h, hkk, hF, hG⟩ := h
  obtain ⟨b, w', F', g1, g2, g3, g4, g5⟩ := h.put h1 h2 hk
  exact ⟨b, w', g1, g2, F', g3, hkk.trans g4 hF, fun g hg => (g5 g hg).elim (hF g) (hG g)⟩
theorem FocN.map {c : List Nat} {w0 w : World} {F0 : List Nat} {p : Nat} {s : Mm} {x : Int} {r : Nat} {m : Pg} (h : FocN c w0 F0 w p s x r m) (pg fr : Int) (wr : Bool) (h1 : -9223372036854775808 ≤ pg) (h2 : pg ≤ 9223372036854775807) (h3 : -9223372036854775808 ≤ fr) (h4 : fr ≤ 9223372036854775807) :
    Calls Tryz.prog 45 #[.pointer (some ⟨r, 0, none⟩), .int .i64 pg, .int .i64 fr, .bool wr] w fun e w' => e = .returned (.int .i64 (mapN pg fr)) ∧ FocN c w0 F0 w' p (s.setTab x (mapM m pg fr wr)) x r (mapM m pg fr wr) := by
  obtain ⟨F, G, h, hk, hF, hG⟩ := h
  have ht : TbRep w G r m := by obtain ⟨L, b, nb, q, A, cap, _, _, h0, _⟩ := h; exact h0
  refine (T12.map_any w G r m pg fr wr ht h1 h2 h3 h4).mono ?_
  rintro e w1 ⟨G', rfl, t1, k1, hG'⟩
  obtain ⟨F', f1, f2⟩ := h.turn k1 t1 hG'
  have := hk.size
  have hG2 : ∀ g ∈ G', g ∈ F0 ∨ w0.heap.size ≤ g := fun g hg => (hG' g hg).elim (hG g) (fun h => .inr (by omega))
  exact ⟨rfl, F', G', f1, hk.trans k1 hG, fun g hg => (f2 g hg).elim (hF g) (hG2 g), hG2⟩
def Mm.map (s : Mm) (x pg fr : Int) (wr : Bool) : Mm := if 0 ≤ pg ∧ pg < 256 ∧ 0 ≤ fr then (s.putTab x (mapM (s.tab x) pg fr wr)).shoot (fun e => e.is x pg) else s
theorem Ok.putTab {s : Mm} (h : Ok s) (hk : s.k ≤ 900000) (x : Int) (m : Pg) : Ok (s.putTab x m) := ⟨h.c, h.k, h.n0, h.n1, by show s.k + 1 ≤ _; omega⟩
set_option maxRecDepth 100000 in
set_option maxHeartbeats 3200000 in
theorem map_any (w : World) (F : List Nat) (p : Nat) (s : Mm) (h : MmRep w F p s) (ok : Ok s) (hkk : s.k ≤ 900000) (x pg fr : Int) (wr : Bool) (h1 : -9223372036854775808 ≤ x) (h2 : x ≤ 9223372036854775807) (h3 : -9223372036854775808 ≤ pg) (h4 : pg ≤ 9223372036854775807) (h5 : -9223372036854775808 ≤ fr) (h6 : fr ≤ 9223372036854775807) :
    Calls Tryz.prog 21 #[.pointer (some ⟨p, 0, none⟩), .int .i64 x, .int .i64 pg, .int .i64 fr, .bool wr] w fun e w' => e = .returned (.int .i64 (mapN pg fr)) ∧ MmNext w w' F p (s.map x pg fr wr) := by
  have hlt := h.lt
  obtain ⟨L, b, nb, q, A, cap, c, h, hn⟩ := h
  have kb : Keeps [] w ((w.alloc (.cells #[.int .i64 x] 3)).alloc (.cells #[.int .i64 pg] 3)) := ((Keeps.refl _ w).alloc _).alloc _
  have HT := Lib.hid (table_foc _ (h.keep kb (by simp)) hn x h1 h2)
  have B1 : Blk ((w.alloc (.cells #[.int .i64 x] 3)).alloc (.cells #[.int .i64 pg] 3)) w.heap.size 3 #[.int .i64 x] := (Blk.new w 3 _).alloc _
  have B2 : Blk ((w.alloc (.cells #[.int .i64 x] 3)).alloc (.cells #[.int .i64 pg] 3)) (w.heap.size + 1) 3 #[.int .i64 pg] := by
    have := Blk.new (w.alloc (.cells #[.int .i64 x] 3)) 3 #[.int .i64 pg]
    rw [show (w.alloc (.cells #[.int .i64 x] 3)).heap.size = w.heap.size + 1 by simp] at this
    exact this
  have HB1 := Lib.hid B1
  have HB2 := Lib.hid B2
  have HK := Lib.hid kb
  have OK := Lib.hid ok
  have HKK := Lib.hid hkk
  have hn1 : w.heap.size ∉ F := fun hg => by have := hlt _ hg; omega
  have hn2 : w.heap.size + 1 ∉ F := fun hg => by have := hlt _ hg; omega
  have hz : ((w.alloc (.cells #[.int .i64 x] 3)).alloc (.cells #[.int .i64 pg] 3)).heap.size = w.heap.size + 2 := by simp
  have HZ := Lib.hid hz
  clear h kb B1 B2 ok hlt hkk hz
  by_cases hr : 0 ≤ pg ∧ pg < 256 ∧ 0 ≤ fr
  rotate_left
  · have e1 : mapN pg fr = 3 := by unfold mapN; rw [if_neg hr]
    have e2 : s.map x pg fr wr = s := by unfold Mm.map; rw [if_neg hr]
    have e3 : mapM (s.tab x) pg fr wr = s.tab x := by unfold mapM; rw [if_neg hr]
    rw [e2, e1]
    have HE := Lib.hid (And.intro e1 e3)
    clear hr e1 e2 e3
    go_enter Tryz.func21, Tryz.ntmps21
    go_wp2_with fail
    refine HT.out.mono ?_
    rintro e w1 ⟨r, rfl, f1, k1⟩
    have M1 := f1.map pg fr wr h3 h4 h5 h6
    rw [HE.out.1, HE.out.2, setTab_same] at M1
    have M2 := Lib.hid M1
    have x1 := (HB1.out.keep k1 (by simp)).cell 0
    have x2 := (HB2.out.keep k1 (by simp)).cell 0
    clear f1 M1 HT
    go_wp2_with fail
    refine M2.out.mono ?_
    rintro e w2 ⟨rfl, f2⟩
    have N2 := Lib.hid (f2.next.then (w0 := w) (F := F) (fun g hg => .inl hg) (HK.out.mono (by simp)))
    clear f2 M2
    go_wp2
    go_ret
    exact ⟨rfl, N2.out⟩
  · have e1 : mapN pg fr = 0 := by unfold mapN; rw [if_pos hr]
    have e2 : s.map x pg fr wr = (s.putTab x (mapM (s.tab x) pg fr wr)).shoot (fun e => e.is x pg) := by unfold Mm.map; rw [if_pos hr]
    rw [e2, e1]
    have HE := Lib.hid e1
    clear hr e1 e2
    generalize s.tab x = m0 at *
    go_enter Tryz.func21, Tryz.ntmps21
    go_wp2_with fail
    refine HT.out.mono ?_
    rintro e w1 ⟨r, rfl, f1, k1⟩
    have M1 := f1.map pg fr wr h3 h4 h5 h6
    rw [HE.out] at M1
    generalize hm2 : mapM m0 pg fr wr = m2 at *
    have HM2 := Lib.hid hm2
    clear hm2
    have M2 := Lib.hid M1
    have x1 := (HB1.out.keep k1 (by simp)).cell 0
    have x2 := (HB2.out.keep k1 (by simp)).cell 0
    clear f1 M1 HT
    go_wp2_with fail
    refine M2.out.mono ?_
    rintro e w2 ⟨rfl, f2⟩
    have k2 := f2.keeps
    have fd := f2.same ((Keeps.refl [] w2).drew)
    have kd := fd.keeps
    obtain ⟨bm, w3, c0, hrun, n3⟩ := fd.put h1 h2 (by rw [setTab_k]; have := HKK.out; omega)
    rw [putTab_set] at n3
    have y1 := (HB1.out.keep kd hn1).cell 0
    have y2 := (HB2.out.keep kd hn2).cell 0
    have y0 := (HB1.out.keep k2 hn1).cell 0
    obtain ⟨F3, m3, k3, hF3⟩ := n3
    have hb1 : w.heap.size ∉ F3 ∧ w.heap.size + 1 ∉ F3 := by
      constructor
      · intro hg
        rcases hF3 _ hg with h | h
        · exact hn1 h
        · rw [HZ.out] at h; omega
      · intro hg
        rcases hF3 _ hg with h | h
        · exact hn2 h
        · rw [HZ.out] at h; omega
    have D1 := HB1.out.keep k3 hn1
    have D2 := HB2.out.keep k3 hn2
    have SH := Lib.hid (shoot_any w3 F3 p _ m3 (OK.out.putTab HKK.out x m2) 47 #[.pointer (some ⟨w.heap.size, 0, none⟩), .pointer (some ⟨w.heap.size + 1, 0, none⟩)] (fun e => e.is x pg) enters47 (map_rb F3 w3 _ _ x pg D1 D2 hb1.1 hb1.2))
    have K3 := Lib.hid (HK.out.mono (G := F) (by simp) |>.trans k3 (fun g hg => .inl hg))
    have HF3 : Hid (∀ g ∈ F3, g ∈ F ∨ w.heap.size ≤ g) := Lib.hid (fun g hg => (hF3 g hg).imp id (fun h => by rw [HZ.out] at h; omega))
    have HBF := Lib.hid hb1
    clear f2 fd M2 k2 kd m3 k3 hF3 hb1 D1 D2 k1
    go_wp2_with fail
    go_region
    all_goals
      go_wp2_with fail
      refine SH.out.mono ?_
      rintro e w4 ⟨rfl, n4⟩
      go_wp2
      go_ret
      rw [HM2.out]
      exact ⟨rfl, n4.then HF3.out K3.out⟩
end Go.Proofs.YteognipfnbocpaaGreat
