/- CompressLiterals: the walk. -/
import Derived.Test.YtcoecpglnabbpaaR1
import Derived.Test.YtcoecpglnabbpaaL3
namespace Go.Proofs.Ytcoecpglnabbpaa
open Go.RowKit

theorem and_31 (n : Int) : bits .and .i64 n 31 = n % 32 := and_mask n 5 (by omega)
theorem st_app (a b : Bs) : st (a ++ b) = st a ++ st b := by
  apply ByteArray.ext
  rw [ByteArray.data_append]
  show (a ++ b).toArray = a.toArray ++ b.toArray
  simp
theorem u8_cut2 (k : Nat) : (k : Int) % 256 = ((UInt8.ofNat k).toNat : Int) := by
  simp [UInt8.toNat_ofNat']
/-- A row of bytes of one's own. -/
structure RO (w : World) (out : Bs) (v : Value) (W : World) : Prop where
  o : W.ownsRow 0 5 1 v out.length (bc out)
  f : ∀ g ∈ fp v, w.heap.size ≤ g
  k : Keeps [] w W
theorem RO.app {w W W' : World} {out : Bs} {v v' : Value} {b : UInt8} {N : Nat} (h : RO w out v W) (o : W'.ownsRow 0 5 1 v' (out.length + 1) (bc out ++ [.int .u8 b.toNat])) (hk : Keeps (fp v) (W.alloc (.cells #[.int .u8 b.toNat] 5)) W') (hf : ∀ g ∈ fp v', g ∈ fp v ∨ N ≤ g) (hN : W.heap.size ≤ N) :
    RO w (out ++ [b]) v' W' := by
  refine ⟨?_, fun g hg => (hf g hg).elim (h.f g) (fun h1 => ?_), (h.k.alloc _).trans hk (fun g hg => .inr (h.f g hg))⟩
  · unfold bc at o ⊢
    rw [List.length_append, Lib.byteCells_append]
    exact o
  · have := h.k.size
    omega
theorem RO.app2 {w W W' : World} {out : Bs} {g n c : Nat} {v' : Value} {b : UInt8} {N : Nat} (h : RO w out (.slice (some ⟨g, 0, none⟩) n c) W) (o : W'.ownsRow 0 5 1 v' (out.length + 1) (bc out ++ [.int .u8 b.toNat])) (hk : Keeps [g] (W.alloc (.cells #[.int .u8 b.toNat] 5)) W') (hf : ∀ x ∈ fp v', x = g ∨ N ≤ x) (hN : W.heap.size ≤ N) :
    RO w (out ++ [b]) v' W' := h.app o (by simpa using hk) (by simpa using hf) hN
theorem RO.keep {w W W' : World} {out : Bs} {v : Value} (h : RO w out v W) (k : Keeps [] W W') : RO w out v W' := ⟨own_keep h.o k (by simp), h.f, h.k.trans k (by simp)⟩

theorem own_take {w : World} {e g cap n m : Nat} {xs : List Value} (h : w.ownsRow 0 e 1 (.slice (some ⟨g, 0, none⟩) n cap) n xs) (hm : m ≤ n) : w.ownsRow 0 e 1 (.slice (some ⟨g, 0, none⟩) m cap) m (xs.take m) := by
  obtain ⟨cur, hb, h1, h2, h3, h4⟩ := own_blk h
  refine own_of_blk hb (by omega) h2 h3 ?_
  rw [← h4, List.take_take]
  congr 1
  omega
theorem run_cut {w : World} {g cap n m : Nat} {l : Bs} (h : w.ownsRow 0 5 1 (.slice (some ⟨g, 0, none⟩) n cap) n (bc l)) (hm : m ≤ n) : (convert 27 9 (.slice (some ⟨g, 0, none⟩) m cap)).run Try.prog w = .ok (.string (st (l.take m))) w := by
  have h1 := own_take h hm
  have e : (bc l).take m = bc (l.take m) := by simp [bc, Lib.byteCells]
  rw [e] at h1
  exact run_str h1
/-- What region 14 reads. -/
def S14 (g m cv : Nat) (out : Bs) (w : World) : Prop := w.ownsRow 0 5 1 (.slice (some ⟨g, 0, none⟩) 64 cv) 64 (bc out) ∧ (convert 27 9 (.slice (some ⟨g, 0, none⟩) m cv)).run Try.prog w = .ok (.string (st (out.take m))) w

set_option maxRecDepth 100000 in
set_option maxHeartbeats 6400000 in
theorem lits_any (w : World) (s : ByteArray) (n : Int) (hs : s.size ≤ 140737488351232) :
    Calls Try.prog 6 #[.string s, .int .i64 n] w fun e w' => e = .returned (.bool true) ∧ Keeps [] w w' := by
  have HI := Lib.hid info5
  go_enter Try.func6, Try.ntmps6
  go_wp2_with fail
  refine (small_any _).mono ?_
  rintro e w1 ⟨rfl, k1⟩
  go_wp2_with fail
  go_loopw [6, 7] (fun v i wr => ∃ (k : Nat) (out : Bs), i = .int .i64 k ∧ Way s.size k out ∧ RO w out v wr) (fun _ i _ => s.size + 66 - (intOf i).toNat)
  case atStart => exact ⟨0, [], rfl, Way.start _, World.ownsRow_nil _ _ _ _, by simp, k1⟩
  case round =>
    clear k1
    obtain ⟨k, out, rfl, I, R⟩ := hrel
    have hk := I.le
    have ho := I.l
    by_cases hgo : out.length < 64
    · have tg : decide ((out.length : Int) < 64) = true := by simp; omega
      obtain ⟨c, hc⟩ : ∃ c, c = UInt8.ofNat k := ⟨_, rfl⟩
      have huc := u8_cut2 k
      rw [← hc] at huc
      have HC := Lib.hid hc
      clear hc
      by_cases hlt : k < s.size
      · have hx := byte_lt s[k]
        obtain ⟨Av, cv, rfl, -, -, hA⟩ := own_shape R.o
        rcases List.eq_nil_or_concat out with h0 | ⟨pr, b, hb⟩
        · have t0 : ((out.length : Int) == 0) = true := by rw [h0]; rfl
          have hne : out.getLast? ≠ some s[k] := by rw [h0]; simp
          clear hA h0
          have HW := Lib.hid (I.put (c := s[k]) hgo hne (.inl hlt))
          have HR := Lib.hid R
          have HO := Lib.hid (own_keep R.o ((Keeps.refl [] _).alloc (.cells #[.int .u8 s[k].toNat] 5)) (by simp))
          clear I R hgo hne
          go_wp2_with (at_builtin; refine wpList_app _ rfl (.tmp 42) (.tmp 44) _ rfl 5 (.int .u8 0) 1 1 Try.underlying27 HI.out rfl (by omega) (.slice Av out.length cv) _ _ rfl HO.out _ _ _ _ [.int .u8 s[k].toNat] rfl (reads_one _ _ 5) (by simp [Value.oneCell']) (by unfold maxLen; omega) (by omega) ?_)
          intro v6 w6 o6 k6 f6
          have HF := Lib.hid (HR.out.app o6 k6 f6 (by first | exact Nat.le_succ _ | (simp; done)))
          clear o6 k6 f6 HO HR
          go_wp2_with fail
          go_roundw
          case rel => exact ⟨k + 1, _, by go_num, HW.out, HF.out⟩
          case measure => simp [intOf]; omega
        · rw [List.concat_eq_append] at hb
          have hlast : out.getLast? = some b := by rw [hb]; simp
          have hm1 : 1 ≤ out.length := by rw [hb]; simp
          obtain ⟨g, rfl⟩ := hA (by omega)
          have hcell : R.o = R.o := rfl
          have x0 := own_cell R.o (j := out.length - 1) (u := .int .u8 b.toNat) (by rw [hb]; simp [bc, Lib.byteCells])
          have jt : ((out.length : Int) - 1).toNat = out.length - 1 := by omega
          have jp : (0 : Int) ≤ (out.length : Int) - 1 := by omega
          have j0 : ((out.length : Int) == 0) = false := by rw [beq_eq_false_iff_ne]; omega
          clear hcell hA hb
          by_cases hbc : b = s[k]
          · have HW := Lib.hid (I.skip (c := s[k]) (by rw [hlast, hbc]) (.inl hlt))
            have HR := Lib.hid R
            have te : ((b.toNat : Int) != (s[k].toNat : Int)) = false := by rw [hbc]; simp
            clear I R hgo hbc hlast
            go_wp2_with fail
            go_roundw
            case rel => exact ⟨k + 1, _, by go_num, HW.out, HR.out⟩
            case measure => simp [intOf]; omega
          · have hne : out.getLast? ≠ some s[k] := by rw [hlast]; simpa using hbc
            have te : ((b.toNat : Int) != (s[k].toNat : Int)) = true := by
              simp only [bne_iff_ne, ne_eq]
              intro h
              exact hbc (UInt8.toNat_inj.1 (by omega))
            clear hbc hlast
            have HW := Lib.hid (I.put (c := s[k]) hgo hne (.inl hlt))
            have HR := Lib.hid R
            have HO := Lib.hid (own_keep R.o ((Keeps.refl [] _).alloc (.cells #[.int .u8 s[k].toNat] 5)) (by simp))
            clear I R hgo hne
            go_wp2_with (at_builtin; refine wpList_app _ rfl (.tmp 42) (.tmp 44) _ rfl 5 (.int .u8 0) 1 1 Try.underlying27 HI.out rfl (by omega) (.slice (some ⟨g, 0, none⟩) out.length cv) _ _ rfl HO.out _ _ _ _ [.int .u8 s[k].toNat] rfl (reads_one _ _ 5) (by simp [Value.oneCell']) (by unfold maxLen; omega) (by omega) ?_)
            intro v6 w6 o6 k6 f6
            have HF := Lib.hid (HR.out.app2 o6 (by simpa using k6) (by simpa using f6) (by first | exact Nat.le_succ _ | (simp; done)))
            clear o6 k6 f6 HO HR
            go_wp2_with fail
            go_roundw
            case rel => exact ⟨k + 1, _, by go_num, HW.out, HF.out⟩
            case measure => simp [intOf]; omega
      · have hx := byte_lt c
        obtain ⟨Av, cv, rfl, -, -, hA⟩ := own_shape R.o
        rcases List.eq_nil_or_concat out with h0 | ⟨pr, b, hb⟩
        · have t0 : ((out.length : Int) == 0) = true := by rw [h0]; rfl
          have hne : out.getLast? ≠ some c := by rw [h0]; simp
          clear hA h0
          have HW := Lib.hid (I.put (c := c) hgo hne (.inr HC.out))
          have HR := Lib.hid R
          have HO := Lib.hid (own_keep R.o ((Keeps.refl [] _).alloc (.cells #[.int .u8 c.toNat] 5)) (by simp))
          clear I R hgo hne
          go_wp2_with (at_builtin; refine wpList_app _ rfl (.tmp 42) (.tmp 44) _ rfl 5 (.int .u8 0) 1 1 Try.underlying27 HI.out rfl (by omega) (.slice Av out.length cv) _ _ rfl HO.out _ _ _ _ [.int .u8 c.toNat] rfl (reads_one _ _ 5) (by simp [Value.oneCell']) (by unfold maxLen; omega) (by omega) ?_)
          intro v6 w6 o6 k6 f6
          have HF := Lib.hid (HR.out.app o6 k6 f6 (by first | exact Nat.le_succ _ | (simp; done)))
          clear o6 k6 f6 HO HR
          go_wp2_with fail
          go_roundw
          case rel => exact ⟨k + 1, _, by go_num, HW.out, HF.out⟩
          case measure => simp [intOf]; omega
        · rw [List.concat_eq_append] at hb
          have hlast : out.getLast? = some b := by rw [hb]; simp
          have hm1 : 1 ≤ out.length := by rw [hb]; simp
          obtain ⟨g, rfl⟩ := hA (by omega)
          have hcell : R.o = R.o := rfl
          have x0 := own_cell R.o (j := out.length - 1) (u := .int .u8 b.toNat) (by rw [hb]; simp [bc, Lib.byteCells])
          have jt : ((out.length : Int) - 1).toNat = out.length - 1 := by omega
          have jp : (0 : Int) ≤ (out.length : Int) - 1 := by omega
          have j0 : ((out.length : Int) == 0) = false := by rw [beq_eq_false_iff_ne]; omega
          clear hcell hA hb
          by_cases hbc : b = c
          · have HW := Lib.hid (I.skip (c := c) (by rw [hlast, hbc]) (.inr HC.out))
            have HR := Lib.hid R
            have te : ((b.toNat : Int) != (c.toNat : Int)) = false := by rw [hbc]; simp
            clear I R hgo hbc hlast
            go_wp2_with fail
            go_roundw
            case rel => exact ⟨k + 1, _, by go_num, HW.out, HR.out⟩
            case measure => simp [intOf]; omega
          · have hne : out.getLast? ≠ some c := by rw [hlast]; simpa using hbc
            have te : ((b.toNat : Int) != (c.toNat : Int)) = true := by
              simp only [bne_iff_ne, ne_eq]
              intro h
              exact hbc (UInt8.toNat_inj.1 (by omega))
            clear hbc hlast
            have HW := Lib.hid (I.put (c := c) hgo hne (.inr HC.out))
            have HR := Lib.hid R
            have HO := Lib.hid (own_keep R.o ((Keeps.refl [] _).alloc (.cells #[.int .u8 c.toNat] 5)) (by simp))
            clear I R hgo hne
            go_wp2_with (at_builtin; refine wpList_app _ rfl (.tmp 42) (.tmp 44) _ rfl 5 (.int .u8 0) 1 1 Try.underlying27 HI.out rfl (by omega) (.slice (some ⟨g, 0, none⟩) out.length cv) _ _ rfl HO.out _ _ _ _ [.int .u8 c.toNat] rfl (reads_one _ _ 5) (by simp [Value.oneCell']) (by unfold maxLen; omega) (by omega) ?_)
            intro v6 w6 o6 k6 f6
            have HF := Lib.hid (HR.out.app2 o6 (by simpa using k6) (by simpa using f6) (by first | exact Nat.le_succ _ | (simp; done)))
            clear o6 k6 f6 HO HR
            go_wp2_with fail
            go_roundw
            case rel => exact ⟨k + 1, _, by go_num, HW.out, HF.out⟩
            case measure => simp [intOf]; omega
    · obtain ⟨Av, cv, rfl, hcap, -, hA⟩ := own_shape R.o
      have h64 : out.length = 64 := by omega
      have tg : decide ((out.length : Int) < 64) = false := by simp; omega
      obtain ⟨g, rfl⟩ := hA (by omega)
      have h31 := and_31 n
      obtain ⟨m, hm⟩ : ∃ m : Nat, 1 + n % 32 = m := ⟨(1 + n % 32).toNat, by omega⟩
      have hm1 : 1 ≤ m := by omega
      have hm2 : m ≤ 32 := by omega
      have HA := Lib.hid I.a
      have HNO := Lib.hid (packR_none (pack_adj I.a h64))
      have hrun := run_str R.o
      have hb : (bc out)[m - 1]? = some (.int .u8 (out.getD (m - 1) 0).toNat) := by
        simp [bc, Lib.byteCells, List.getElem?_eq_getElem (l := out) (i := m - 1) (by omega)]
      obtain ⟨b, hbd⟩ : ∃ b, b = out.getD (m - 1) 0 := ⟨_, rfl⟩
      rw [← hbd] at hb
      have hu1 := u8_succ b
      have jt : ((m : Int) - 1).toNat = m - 1 := by omega
      have jp : (0 : Int) ≤ (m : Int) - 1 := by omega
      have HP := Lib.hid (fun W => pack_st W (st out))
      have HR := Lib.hid R
      have HB := Lib.hid hb
      have HBD := Lib.hid hbd
      have HT : Hid (packR (out.take m ++ List.replicate (64 - m) (b + 1)) = (UInt8.ofNat m :: (out.take m ++ [UInt8.ofNat (128 + (64 - m)), b + 1]), true)) := Lib.hid (packR_some (pack_tail (b := b) (I.a.take m) (by rw [List.length_take]; omega) hm1 hm2 (by
        rw [List.getLast?_take, if_neg (by omega), List.getElem?_eq_getElem (by omega), hbd]
        simp [List.getD_eq_getElem?_getD, List.getElem?_eq_getElem (l := out) (i := m - 1) (by omega)]) (fun h => by
          have h2 := u8_ne b
          rw [h] at h2
          exact h2 rfl)))
      have h64c : (out.length : Int) = 64 := by omega
      have H64 := Lib.hid h64
      have hb1 : bys (st out) = out := rfl
      rw [hb1] at HP
      clear hA ho hk I R hgo hb hbd h64 hb1
      go_wp2_with fail
      refine (HP.out _).mono ?_
      rw [HNO.out]
      rintro e w2 ⟨rfl, k2⟩
      have HR2 := Lib.hid (HR.out.keep k2)
      have x1 := own_cell HR2.out.o (j := m - 1) HB.out
      clear hrun HR k2
      go_wp2_with fail
      have hcv : m ≤ cv := by have := hcap; omega
      have hcvI : (m : Int) ≤ cv := by omega
      have jm0 : (0 : Int) ≤ m := by omega
      have jn0 : (0 : Int) ≤ 64 - (m : Int) := by omega
      obtain ⟨s1, hs1⟩ : ∃ t : ByteArray, t = st (out.take m) := ⟨_, rfl⟩
      obtain ⟨s2, hs2⟩ : ∃ t : ByteArray, t = st (List.replicate (64 - m) (b + 1)) := ⟨_, rfl⟩
      have z1 : s1.size ≤ 64 := by rw [hs1, st_size, List.length_take]; omega
      have z2 : s2.size ≤ 64 := by rw [hs2, st_size, List.length_replicate]; omega
      have HM : Hid (∀ W, Calls Try.prog 12 #[.int .u8 (b + 1).toNat, .int .i64 (64 - (m : Int))] W fun e w' => e = .returned (.string s2) ∧ Keeps [] W w') := Lib.hid (fun W => by
        have := many_st W (b + 1) (64 - m) (by omega)
        rw [show ((64 - m : Nat) : Int) = 64 - (m : Int) by omega, ← hs2] at this
        exact this)
      have HPP : Hid (∀ W, Calls Try.prog 8 #[.string (s1 ++ s2)] W fun e w' => e = .returned (.tuple #[.string (st (UInt8.ofNat m :: (out.take m ++ [UInt8.ofNat (128 + (64 - m)), b + 1]))), .bool true]) ∧ Keeps [] W w') := Lib.hid (fun W => by
        have := pack_st W (s1 ++ s2)
        rw [str_app, hs1, hs2, bys_st, bys_st, HT.out] at this
        rw [hs1, hs2]
        exact this)
      have HRC : Hid (∀ W, Keeps [] w2 W → W.ownsRow 0 5 1 (.slice (some ⟨g, 0, none⟩) 64 cv) 64 (bc out) ∧ (convert 27 9 (.slice (some ⟨g, 0, none⟩) m cv)).run Try.prog W = .ok (.string s1) W) := Lib.hid (fun W hk => by
        have h1 := own_keep HR2.out.o hk (by simp)
        rw [H64.out] at h1
        exact ⟨h1, by rw [hs1]; exact run_cut h1 (by omega)⟩)
      have kd : Keeps [] w2 w2.drew := (Keeps.refl [] w2).drew
      have HXX : Hid (st (UInt8.ofNat m :: (out.take m ++ [UInt8.ofNat (128 + (64 - m)), b + 1])) = st [UInt8.ofNat m] ++ s1 ++ st [UInt8.ofNat (128 + (64 - m)), b + 1]) := Lib.hid (by
        rw [hs1, ← st_app, ← st_app]
        rfl)
      have HC64 : Hid (64 ≤ cv) := Lib.hid (by omega)
      rw [HXX.out] at HPP
      obtain ⟨X1, hX1⟩ : ∃ t : ByteArray, t = st [UInt8.ofNat m] := ⟨_, rfl⟩
      obtain ⟨X3, hX3⟩ : ∃ t : ByteArray, t = st [UInt8.ofNat (128 + (64 - m)), b + 1] := ⟨_, rfl⟩
      rw [← hX1, ← hX3] at HPP
      have y1 : X1.size ≤ 64 := by rw [hX1, st_size]; simp
      have y3 : X3.size ≤ 64 := by rw [hX3, st_size]; simp
      have HX1 : Hid (∀ W g', W.ownsRow 0 5 1 (.slice (some ⟨g', 0, none⟩) 1 1) 1 [.int .u8 ((UInt8.ofNat m).toNat : Int)] → (convert 27 9 (.slice (some ⟨g', 0, none⟩) 1 1)).run Try.prog W = .ok (.string X1) W) := Lib.hid (fun W g' h => by
        rw [hX1]; exact run_str (l := [UInt8.ofNat m]) h)
      have HX3 : Hid (∀ W g', W.ownsRow 0 5 1 (.slice (some ⟨g', 0, none⟩) 2 2) 2 [.int .u8 ((UInt8.ofNat (128 + (64 - m))).toNat : Int), .int .u8 ((b + 1).toNat : Int)] → (convert 27 9 (.slice (some ⟨g', 0, none⟩) 2 2)).run Try.prog W = .ok (.string X3) W) := Lib.hid (fun W g' h => by
        rw [hX3]; exact run_str (l := [UInt8.ofNat (128 + (64 - m)), b + 1]) h)
      have hu2 : IntKind.u8.wrap (192 - (m : Int)) = ((UInt8.ofNat (128 + (64 - m))).toNat : Int) := by
        have := u8_cut (128 + (64 - m))
        rw [show ((128 + (64 - m) : Nat) : Int) = 192 - (m : Int) by omega] at this
        exact this
      have HU := Lib.hid (And.intro (u8_cut m) hu2)
      have HK0 := Lib.hid HR2.out.k
      clear x1 HT HP HNO hs1 hs2 hcap hu1 h31 hm hu2 hX1 hX3 HR2 HB HBD HA HXX
      go_upto_region 14 with fail
      refine lreg14_any w2 m g cv _ _ s1 s2 _ _ hm1 hm2 HC64.out z1 z2 HM.out HPP.out (fun W hW => (HRC.out W hW).2) _ _ _ _ _ _ _ _ _ _ _ _ _ _ _ _ _ _ _ _ _ _ _ _ _ _ _ _ _ _ _ _ _ _ _ _ _ _ _ _ _ _ _ _ _ _ _ _ _ _ _ _ _ _ _ _ _ _ _ _ _ _ _ _ _ _ _ _ _ _ _ _ _ _ _ _ _ _ _ _ _ _ _ _ _ _ _ _ _ _ _ _ _ _ _ _ _ _ _ ?_
      intro v61 v62 v63 v64 v65 v66 v67 v68 v69 v70 v71 v72 v73 w3 k3
      have HRC3 : Hid (∀ W, Keeps [] w3 W → (convert 27 9 (.slice (some ⟨g, 0, none⟩) m cv)).run Try.prog W = .ok (.string s1) W) := Lib.hid (fun W hW => (HRC.out W (k3.trans hW (by simp))).2)
      have HK3 := Lib.hid (HK0.out.trans k3 (by simp))
      clear HM HPP HRC HK0 k3
      go_upto_region 15 with fail
      refine lreg15_any w3 m g cv _ _ _ _ s1 X1 X3 _ hm1 hm2 HC64.out z1 y1 y3 HU.out.1 HU.out.2 HX1.out HX3.out HRC3.out _ _ _ _ _ _ _ _ _ _ _ _ _ _ _ _ _ _ _ _ _ _ _ _ _ _ _ _ _ _ _ _ _ _ _ _ _ _ _ _ _ _ _ _ _ _ _ _ _ _ _ _ _ _ _ _ _ _ _ _ _ _ _ _ _ _ _ _ _ _ _ _ _ _ _ _ _ _ _ _ _ _ _ _ _ _ _ _ _ _ _ _ _ _ _ ?_
      intro v74 v75 v76 v77 v78 v79 v80 v81 v82 v83 v84 v85 v86 v87 v88 v89 v90 v91 v92 v93 v94 v95 v96 v97 v98 v99 v100 v101 w4 k4
      have HK4 := Lib.hid (HK3.out.trans k4 (by simp))
      clear HX1 HX3 HRC3 k4 HK3 HU
      go_wp2_with fail
      go_ret
      exact ⟨rfl, HK4.out⟩
end Go.Proofs.Ytcoecpglnabbpaa
