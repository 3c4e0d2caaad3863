/- CompressRuns: the walk. -/
import Derived.Test.YtcoecpglnabbpaaOps2
import Derived.Test.YtcoecpglnabbpaaB1
import Derived.Test.YtcoecpglnabbpaaBits
namespace Go.Proofs.Ytcoecpglnabbpaa
open Go.RowKit

theorem and_15 (n : Int) : bits .and .i64 n 15 = n % 16 := and_mask n 4 (by omega)
/-- 'string([]byte{a, b})'. -/
theorem run_two (W : World) (k : Nat) (hk : 128 + k < 256) (x : UInt8) : (convert 27 9 (.slice (some ⟨W.heap.size, 0, none⟩) 2 2)).run Try.prog (W.alloc (.cells #[.int .u8 (128 + (k : Int)), .int .u8 x.toNat] 5)) = .ok (.string (st [UInt8.ofNat (128 + k), x])) (W.alloc (.cells #[.int .u8 (128 + (k : Int)), .int .u8 x.toNat] 5)) := by
  have e : (UInt8.ofNat (128 + k)).toNat = 128 + k := toNat_ofNat hk
  refine run_str (l := [UInt8.ofNat (128 + k), x]) (own_of_blk (Blk.new W 5 _) (by omega) (by unfold maxLen; omega) rfl ?_)
  show _ = [Value.int .u8 ((UInt8.ofNat (128 + k)).toNat : Int), Value.int .u8 x.toNat]
  rw [e]
  rfl
theorem u8_succ (x : UInt8) : IntKind.u8.wrap ((x.toNat : Int) + 1) = ((x + 1).toNat : Int) := by
  have h := x.toNat_lt
  rw [UInt8.toNat_add]
  have h1 : (1 : UInt8).toNat = 1 := rfl
  rw [h1]
  show ((x.toNat : Int) + 1) % 256 = _
  omega
theorem u8_ne (x : UInt8) : ((x + 1).toNat : Int) ≠ (x.toNat : Int) := by
  have h := x.toNat_lt
  rw [UInt8.toNat_add]
  have h1 : (1 : UInt8).toNat = 1 := rfl
  rw [h1]
  omega
/-- What holds ahead of a round. -/
structure RI (ps : List Rn) (pg fm : ByteArray) : Prop where
  p : bys pg = pageOf ps
  f : bys fm = formOf ps
  a : Alt ps
  g : ∀ x ∈ ps, 3 ≤ x.1
  l : pg.size ≤ 61
theorem bys_size (s : ByteArray) : (bys s).length = s.size := by simp
theorem bys_st (l : Bs) : bys (st l) = l := rfl
theorem many_st (w : World) (b : UInt8) (n : Nat) (hn : n ≤ 1000) : Calls Try.prog 12 #[.int .u8 b.toNat, .int .i64 n] w fun e w' => e = .returned (.string (st (List.replicate n b))) ∧ Keeps [] w w' := many_any w b n hn

set_option maxRecDepth 100000 in
set_option maxHeartbeats 6400000 in
theorem runs_any (w : World) (A1 A2 : Option Addr) (n1 c1 n2 c2 : Nat) (lb : Nat → UInt8) (nv : Nat → Int) (last : UInt8) (hn1 : n1 ≤ 9223372036854775807) (hn2 : n2 ≤ 9223372036854775807)
    (hA : 0 < n1 → ∃ bl off, A1 = some ⟨bl, off, none⟩ ∧ BytesAt w bl off n1 lb) (hB : 0 < n2 → ∃ bl off, A2 = some ⟨bl, off, none⟩ ∧ IntsAt w bl off n2 nv) :
    Calls Try.prog 5 #[.slice A1 n1 c1, .slice A2 n2 c2, .int .u8 last.toNat] w fun e w' => e = .returned (.bool true) ∧ Keeps [] w w' := by
  go_enter Try.func5, Try.ntmps5
  go_wp2_with fail
  refine (small_any _).mono ?_
  rintro e w1 ⟨rfl, k1⟩
  go_wp2_with fail
  go_loopw [8, 9, 10, 11, 12] (fun a b c d i wr => ∃ (j : Nat) (ps : List Rn) (pg fm : ByteArray), j ≤ 30 ∧ i = .int .i64 j ∧ a = .string pg ∧ b = .string fm ∧ c = .int .i64 (lastOf ps) ∧ d = .int .i64 ps.length ∧ ps.length ≤ j ∧ RI ps pg fm ∧ Keeps [] w wr) (fun _ _ _ _ i _ => 30 - (intOf i).toNat)
  case atStart => exact ⟨0, [], ⟨#[]⟩, ⟨#[]⟩, by omega, rfl, rfl, rfl, rfl, rfl, by simp, ⟨rfl, rfl, trivial, by simp, by decide⟩, k1⟩
  case round =>
    clear k1
    obtain ⟨j, ps, pg, fm, hj, rfl, rfl, rfl, rfl, rfl, hpj, I, kp⟩ := hrel
    by_cases hin : j < n1 ∧ j < n2 ∧ j < 30
    · obtain ⟨h1, h2, h3⟩ := hin
      obtain ⟨b1, o1, rfl, O1⟩ := hA (by omega)
      obtain ⟨b2, o2, rfl, O2⟩ := hB (by omega)
      have q1 := (O1.keep kp).c j h1
      have q2 := (O2.keep kp).c j h2
      have h15 := and_15 (nv j)
      obtain ⟨k, hk⟩ : ∃ k : Nat, 3 + nv j % 16 = k := ⟨(3 + nv j % 16).toNat, by omega⟩
      have hk1 : 3 ≤ k := by omega
      have hk2 : k ≤ 18 := by omega
      have hil := I.l
      have hlb := byte_lt (lb j)
      have HO1 := Lib.hid O1
      clear hA hB O1 O2
      by_cases e1 : ((lb j).toNat : Int) = lastOf ps
      · have t1 : (((lb j).toNat : Int) == lastOf ps) = true := by simp [e1]
        clear e1
        go_wp2_with fail
        go_roundw
        case rel => exact ⟨j + 1, ps, pg, fm, by omega, by go_num, rfl, rfl, rfl, rfl, by omega, I, kp⟩
        case measure => simp [intOf]; omega
      have t1 : (((lb j).toNat : Int) == lastOf ps) = false := by simp [e1]
      have HE1 := Lib.hid e1
      clear e1
      by_cases e2 : 61 < pg.size + k
      · have t2 : decide ((61 : Int) < (pg.size : Int) + k) = true := by simp; omega
        go_wp2_with fail
        go_roundw
        case rel => exact ⟨j + 1, ps, pg, fm, by omega, by go_num, rfl, rfl, rfl, rfl, by omega, I, kp⟩
        case measure => simp [intOf]; omega
      have t2 : decide ((61 : Int) < (pg.size : Int) + k) = false := by simp; omega
      have e3 : pg.size + k ≤ 61 := by omega
      have hfs : fm.size ≤ 60 := by rw [← bys_size, I.f, formOf_len]; omega
      clear e2
      go_wp2_with fail
      refine (many_st _ (lb j) k (by omega)).mono ?_
      rintro e w2 ⟨rfl, k2⟩
      have K2 := kp.trans k2 (by simp)
      obtain ⟨s1, hs1⟩ : ∃ t : ByteArray, t = st (List.replicate k (lb j)) := ⟨_, rfl⟩
      have hss1 : s1.size = k := by rw [hs1, st_size]; simp
      have hss2 : s1.size ≤ 18 := by omega
      rw [← hs1]
      obtain ⟨s2, hs2⟩ : ∃ t : ByteArray, t = st [UInt8.ofNat (128 + k), lb j] := ⟨_, rfl⟩
      have hss3 : s2.size ≤ 2 := by rw [hs2, st_size]; simp
      have hcv := run_two w2 k (by omega) (lb j)
      rw [← hs2] at hcv
      have q3 : w2.cell? ⟨b1, o1 + j, none⟩ = some (.int .u8 (lb j).toNat) := ((HO1.out.keep kp).keep k2).c j h1
      have hl1 := ((HO1.out.keep kp).keep k2).lt
      have J : RI (ps ++ [(k, lb j)]) (pg ++ s1) (fm ++ s2) := ⟨by rw [str_app, I.p, pageOf_snoc, hs1]; rfl, by rw [str_app, I.f, formOf_snoc, hs2]; rfl, I.a.snoc HE1.out, fun x hx => by
        rcases List.mem_append.1 hx with h | h
        · exact I.g x h
        · simp at h; subst h; exact hk1, by rw [← bys_size, str_app, List.length_append, bys_size, bys_size]; omega⟩
      have HJ := Lib.hid J
      have K3 := K2.alloc (.cells #[.int .u8 (128 + (k : Int)), .int .u8 (lb j).toNat] 5)
      clear J hs1 hs2 hss1 I kp k2 K2 q1 q2 hk
      go_wp2_with fail
      go_roundw
      case rel => exact ⟨j + 1, ps ++ [(k, lb j)], _, _, by omega, by go_num, rfl, rfl, by rw [lastOf_snoc], by simp, by simp; omega, HJ.out, K3⟩
      case measure => simp [intOf]; omega
    · clear hA hB
      by_cases g1 : j < n1
      · by_cases g2 : j < n2
        · obtain rfl : j = 30 := by omega
          clear hin
          have hil := I.l
          have hfs : fm.size ≤ 60 := by rw [← bys_size, I.f, formOf_len]; omega
          have HI := Lib.hid I
          have hlb2 := byte_lt last
          clear I
          by_cases e1 : (last.toNat : Int) = lastOf ps
          · have t1 : ((last.toNat : Int) == lastOf ps) = true := by simp [e1]
            obtain ⟨L, hLd⟩ : ∃ L : UInt8, L = last + 1 := ⟨_, rfl⟩
            have hw1 : IntKind.u8.wrap ((last.toNat : Int) + 1) = (L.toNat : Int) := by rw [hLd]; exact u8_succ last
            have hL : (L.toNat : Int) ≠ lastOf ps := by
              rw [← e1, hLd]
              exact u8_ne last
            have HL := Lib.hid hL
            clear e1 hLd hL
            obtain ⟨r, hr⟩ : ∃ r : Nat, (64 : Int) - pg.size = r := ⟨(64 - (pg.size : Int)).toNat, by omega⟩
            have hr1 : 3 ≤ r := by omega
            have hr2 : r ≤ 64 := by omega
            have HRR := Lib.hid hr
            go_wp2_with fail
            refine (many_st _ L r (by omega)).mono ?_
            rintro e w8 ⟨rfl, k8⟩
            have K8 := kp.trans k8 (by simp)
            obtain ⟨t1, ht1⟩ : ∃ t : ByteArray, t = st (List.replicate r L) := ⟨_, rfl⟩
            have hts1 : t1.size ≤ 64 := by rw [ht1, st_size]; simp; omega
            rw [← ht1]
            obtain ⟨t2, ht2⟩ : ∃ t : ByteArray, t = st [UInt8.ofNat (128 + r), L] := ⟨_, rfl⟩
            have hts2 : t2.size ≤ 2 := by rw [ht2, st_size]; simp
            have hcv := run_two w8 r (by omega) L
            rw [← ht2] at hcv
            have HT1 := Lib.hid ht1
            have HT2 := Lib.hid ht2
            have K8 := K8.alloc (.cells #[.int .u8 (128 + (r : Int)), .int .u8 L.toNat] 5)
            clear ht1 ht2 k8 kp
            go_wp2_with fail
            have hpr := pack_runs (k := r) HI.out.a HI.out.g HL.out (by omega) (by rw [← HI.out.p, bys_size]; have := HRR.out; omega)
            have hbp : bys (pg ++ t1) = pageOf ps ++ List.replicate r L := by rw [str_app, HI.out.p, HT1.out]; rfl
            have hbf : bys (fm ++ t2) = formOf ps ++ [UInt8.ofNat (128 + r), L] := by rw [str_app, HI.out.f, HT2.out]; rfl
            have HX : Hid (packR (bys (pg ++ t1)) = if ps.length + 1 ≤ 23 then (bys (fm ++ t2), true) else ([], false)) := Lib.hid (by
              rw [hbp, hbf]
              unfold packR
              rw [hpr]
              by_cases h : ps.length + 1 ≤ 23
              · rw [if_pos h, if_pos h]
              · rw [if_neg h, if_neg h])
            clear hpr hbp hbf HT1 HT2 HI HL HRR
            refine (pack_st _ (pg ++ t1)).mono ?_
            rw [HX.out]
            rintro e w9 ⟨rfl, k9⟩
            have K9 := K8.trans k9 (by simp)
            clear K8 k9 HX
            by_cases hc : ps.length + 1 ≤ 23
            · rw [if_pos hc]
              have c1 : decide ((ps.length : Int) + 1 ≤ 23) = true := by simp; omega
              have c2 : ((st (bys (fm ++ t2))).toList == (fm ++ t2).toList) = true := by rw [st_list, str_list]; simp
              have c3 : ((st (fm.data.toList ++ t2.data.toList)).toList == (fm ++ t2).toList) = true := by rw [st_list, str_list]; simp
              go_wp2_with fail
              go_ret
              exact ⟨rfl, K9⟩
            · rw [if_neg hc]
              have c1 : decide ((ps.length : Int) + 1 ≤ 23) = false := by simp; omega
              go_wp2_with fail
              go_ret
              exact ⟨rfl, K9⟩
          · have t1 : ((last.toNat : Int) == lastOf ps) = false := by simp [e1]
            have HL := Lib.hid e1
            clear e1
            obtain ⟨r, hr⟩ : ∃ r : Nat, (64 : Int) - pg.size = r := ⟨(64 - (pg.size : Int)).toNat, by omega⟩
            have hr1 : 3 ≤ r := by omega
            have hr2 : r ≤ 64 := by omega
            have HRR := Lib.hid hr
            go_wp2_with fail
            refine (many_st _ last r (by omega)).mono ?_
            rintro e w8 ⟨rfl, k8⟩
            have K8 := kp.trans k8 (by simp)
            obtain ⟨t1, ht1⟩ : ∃ t : ByteArray, t = st (List.replicate r last) := ⟨_, rfl⟩
            have hts1 : t1.size ≤ 64 := by rw [ht1, st_size]; simp; omega
            rw [← ht1]
            obtain ⟨t2, ht2⟩ : ∃ t : ByteArray, t = st [UInt8.ofNat (128 + r), last] := ⟨_, rfl⟩
            have hts2 : t2.size ≤ 2 := by rw [ht2, st_size]; simp
            have hcv := run_two w8 r (by omega) last
            rw [← ht2] at hcv
            have HT1 := Lib.hid ht1
            have HT2 := Lib.hid ht2
            have K8 := K8.alloc (.cells #[.int .u8 (128 + (r : Int)), .int .u8 last.toNat] 5)
            clear ht1 ht2 k8 kp
            go_wp2_with fail
            have hpr := pack_runs (k := r) HI.out.a HI.out.g HL.out (by omega) (by rw [← HI.out.p, bys_size]; have := HRR.out; omega)
            have hbp : bys (pg ++ t1) = pageOf ps ++ List.replicate r last := by rw [str_app, HI.out.p, HT1.out]; rfl
            have hbf : bys (fm ++ t2) = formOf ps ++ [UInt8.ofNat (128 + r), last] := by rw [str_app, HI.out.f, HT2.out]; rfl
            have HX : Hid (packR (bys (pg ++ t1)) = if ps.length + 1 ≤ 23 then (bys (fm ++ t2), true) else ([], false)) := Lib.hid (by
              rw [hbp, hbf]
              unfold packR
              rw [hpr]
              by_cases h : ps.length + 1 ≤ 23
              · rw [if_pos h, if_pos h]
              · rw [if_neg h, if_neg h])
            clear hpr hbp hbf HT1 HT2 HI HL HRR
            refine (pack_st _ (pg ++ t1)).mono ?_
            rw [HX.out]
            rintro e w9 ⟨rfl, k9⟩
            have K9 := K8.trans k9 (by simp)
            clear K8 k9 HX
            by_cases hc : ps.length + 1 ≤ 23
            · rw [if_pos hc]
              have c1 : decide ((ps.length : Int) + 1 ≤ 23) = true := by simp; omega
              have c2 : ((st (bys (fm ++ t2))).toList == (fm ++ t2).toList) = true := by rw [st_list, str_list]; simp
              have c3 : ((st (fm.data.toList ++ t2.data.toList)).toList == (fm ++ t2).toList) = true := by rw [st_list, str_list]; simp
              go_wp2_with fail
              go_ret
              exact ⟨rfl, K9⟩
            · rw [if_neg hc]
              have c1 : decide ((ps.length : Int) + 1 ≤ 23) = false := by simp; omega
              go_wp2_with fail
              go_ret
              exact ⟨rfl, K9⟩
        · clear hin
          have hil := I.l
          have hfs : fm.size ≤ 60 := by rw [← bys_size, I.f, formOf_len]; omega
          have HI := Lib.hid I
          have hlb2 := byte_lt last
          clear I
          by_cases e1 : (last.toNat : Int) = lastOf ps
          · have t1 : ((last.toNat : Int) == lastOf ps) = true := by simp [e1]
            obtain ⟨L, hLd⟩ : ∃ L : UInt8, L = last + 1 := ⟨_, rfl⟩
            have hw1 : IntKind.u8.wrap ((last.toNat : Int) + 1) = (L.toNat : Int) := by rw [hLd]; exact u8_succ last
            have hL : (L.toNat : Int) ≠ lastOf ps := by
              rw [← e1, hLd]
              exact u8_ne last
            have HL := Lib.hid hL
            clear e1 hLd hL
            obtain ⟨r, hr⟩ : ∃ r : Nat, (64 : Int) - pg.size = r := ⟨(64 - (pg.size : Int)).toNat, by omega⟩
            have hr1 : 3 ≤ r := by omega
            have hr2 : r ≤ 64 := by omega
            have HRR := Lib.hid hr
            go_wp2_with fail
            refine (many_st _ L r (by omega)).mono ?_
            rintro e w8 ⟨rfl, k8⟩
            have K8 := kp.trans k8 (by simp)
            obtain ⟨t1, ht1⟩ : ∃ t : ByteArray, t = st (List.replicate r L) := ⟨_, rfl⟩
            have hts1 : t1.size ≤ 64 := by rw [ht1, st_size]; simp; omega
            rw [← ht1]
            obtain ⟨t2, ht2⟩ : ∃ t : ByteArray, t = st [UInt8.ofNat (128 + r), L] := ⟨_, rfl⟩
            have hts2 : t2.size ≤ 2 := by rw [ht2, st_size]; simp
            have hcv := run_two w8 r (by omega) L
            rw [← ht2] at hcv
            have HT1 := Lib.hid ht1
            have HT2 := Lib.hid ht2
            have K8 := K8.alloc (.cells #[.int .u8 (128 + (r : Int)), .int .u8 L.toNat] 5)
            clear ht1 ht2 k8 kp
            go_wp2_with fail
            have hpr := pack_runs (k := r) HI.out.a HI.out.g HL.out (by omega) (by rw [← HI.out.p, bys_size]; have := HRR.out; omega)
            have hbp : bys (pg ++ t1) = pageOf ps ++ List.replicate r L := by rw [str_app, HI.out.p, HT1.out]; rfl
            have hbf : bys (fm ++ t2) = formOf ps ++ [UInt8.ofNat (128 + r), L] := by rw [str_app, HI.out.f, HT2.out]; rfl
            have HX : Hid (packR (bys (pg ++ t1)) = if ps.length + 1 ≤ 23 then (bys (fm ++ t2), true) else ([], false)) := Lib.hid (by
              rw [hbp, hbf]
              unfold packR
              rw [hpr]
              by_cases h : ps.length + 1 ≤ 23
              · rw [if_pos h, if_pos h]
              · rw [if_neg h, if_neg h])
            clear hpr hbp hbf HT1 HT2 HI HL HRR
            refine (pack_st _ (pg ++ t1)).mono ?_
            rw [HX.out]
            rintro e w9 ⟨rfl, k9⟩
            have K9 := K8.trans k9 (by simp)
            clear K8 k9 HX
            by_cases hc : ps.length + 1 ≤ 23
            · rw [if_pos hc]
              have c1 : decide ((ps.length : Int) + 1 ≤ 23) = true := by simp; omega
              have c2 : ((st (bys (fm ++ t2))).toList == (fm ++ t2).toList) = true := by rw [st_list, str_list]; simp
              have c3 : ((st (fm.data.toList ++ t2.data.toList)).toList == (fm ++ t2).toList) = true := by rw [st_list, str_list]; simp
              go_wp2_with fail
              go_ret
              exact ⟨rfl, K9⟩
            · rw [if_neg hc]
              have c1 : decide ((ps.length : Int) + 1 ≤ 23) = false := by simp; omega
              go_wp2_with fail
              go_ret
              exact ⟨rfl, K9⟩
          · have t1 : ((last.toNat : Int) == lastOf ps) = false := by simp [e1]
            have HL := Lib.hid e1
            clear e1
            obtain ⟨r, hr⟩ : ∃ r : Nat, (64 : Int) - pg.size = r := ⟨(64 - (pg.size : Int)).toNat, by omega⟩
            have hr1 : 3 ≤ r := by omega
            have hr2 : r ≤ 64 := by omega
            have HRR := Lib.hid hr
            go_wp2_with fail
            refine (many_st _ last r (by omega)).mono ?_
            rintro e w8 ⟨rfl, k8⟩
            have K8 := kp.trans k8 (by simp)
            obtain ⟨t1, ht1⟩ : ∃ t : ByteArray, t = st (List.replicate r last) := ⟨_, rfl⟩
            have hts1 : t1.size ≤ 64 := by rw [ht1, st_size]; simp; omega
            rw [← ht1]
            obtain ⟨t2, ht2⟩ : ∃ t : ByteArray, t = st [UInt8.ofNat (128 + r), last] := ⟨_, rfl⟩
            have hts2 : t2.size ≤ 2 := by rw [ht2, st_size]; simp
            have hcv := run_two w8 r (by omega) last
            rw [← ht2] at hcv
            have HT1 := Lib.hid ht1
            have HT2 := Lib.hid ht2
            have K8 := K8.alloc (.cells #[.int .u8 (128 + (r : Int)), .int .u8 last.toNat] 5)
            clear ht1 ht2 k8 kp
            go_wp2_with fail
            have hpr := pack_runs (k := r) HI.out.a HI.out.g HL.out (by omega) (by rw [← HI.out.p, bys_size]; have := HRR.out; omega)
            have hbp : bys (pg ++ t1) = pageOf ps ++ List.replicate r last := by rw [str_app, HI.out.p, HT1.out]; rfl
            have hbf : bys (fm ++ t2) = formOf ps ++ [UInt8.ofNat (128 + r), last] := by rw [str_app, HI.out.f, HT2.out]; rfl
            have HX : Hid (packR (bys (pg ++ t1)) = if ps.length + 1 ≤ 23 then (bys (fm ++ t2), true) else ([], false)) := Lib.hid (by
              rw [hbp, hbf]
              unfold packR
              rw [hpr]
              by_cases h : ps.length + 1 ≤ 23
              · rw [if_pos h, if_pos h]
              · rw [if_neg h, if_neg h])
            clear hpr hbp hbf HT1 HT2 HI HL HRR
            refine (pack_st _ (pg ++ t1)).mono ?_
            rw [HX.out]
            rintro e w9 ⟨rfl, k9⟩
            have K9 := K8.trans k9 (by simp)
            clear K8 k9 HX
            by_cases hc : ps.length + 1 ≤ 23
            · rw [if_pos hc]
              have c1 : decide ((ps.length : Int) + 1 ≤ 23) = true := by simp; omega
              have c2 : ((st (bys (fm ++ t2))).toList == (fm ++ t2).toList) = true := by rw [st_list, str_list]; simp
              have c3 : ((st (fm.data.toList ++ t2.data.toList)).toList == (fm ++ t2).toList) = true := by rw [st_list, str_list]; simp
              go_wp2_with fail
              go_ret
              exact ⟨rfl, K9⟩
            · rw [if_neg hc]
              have c1 : decide ((ps.length : Int) + 1 ≤ 23) = false := by simp; omega
              go_wp2_with fail
              go_ret
              exact ⟨rfl, K9⟩
      · clear hin
        have hil := I.l
        have hfs : fm.size ≤ 60 := by rw [← bys_size, I.f, formOf_len]; omega
        have HI := Lib.hid I
        have hlb2 := byte_lt last
        clear I
        by_cases e1 : (last.toNat : Int) = lastOf ps
        · have t1 : ((last.toNat : Int) == lastOf ps) = true := by simp [e1]
          obtain ⟨L, hLd⟩ : ∃ L : UInt8, L = last + 1 := ⟨_, rfl⟩
          have hw1 : IntKind.u8.wrap ((last.toNat : Int) + 1) = (L.toNat : Int) := by rw [hLd]; exact u8_succ last
          have hL : (L.toNat : Int) ≠ lastOf ps := by
            rw [← e1, hLd]
            exact u8_ne last
          have HL := Lib.hid hL
          clear e1 hLd hL
          obtain ⟨r, hr⟩ : ∃ r : Nat, (64 : Int) - pg.size = r := ⟨(64 - (pg.size : Int)).toNat, by omega⟩
          have hr1 : 3 ≤ r := by omega
          have hr2 : r ≤ 64 := by omega
          have HRR := Lib.hid hr
          go_wp2_with fail
          refine (many_st _ L r (by omega)).mono ?_
          rintro e w8 ⟨rfl, k8⟩
          have K8 := kp.trans k8 (by simp)
          obtain ⟨t1, ht1⟩ : ∃ t : ByteArray, t = st (List.replicate r L) := ⟨_, rfl⟩
          have hts1 : t1.size ≤ 64 := by rw [ht1, st_size]; simp; omega
          rw [← ht1]
          obtain ⟨t2, ht2⟩ : ∃ t : ByteArray, t = st [UInt8.ofNat (128 + r), L] := ⟨_, rfl⟩
          have hts2 : t2.size ≤ 2 := by rw [ht2, st_size]; simp
          have hcv := run_two w8 r (by omega) L
          rw [← ht2] at hcv
          have HT1 := Lib.hid ht1
          have HT2 := Lib.hid ht2
          have K8 := K8.alloc (.cells #[.int .u8 (128 + (r : Int)), .int .u8 L.toNat] 5)
          clear ht1 ht2 k8 kp
          go_wp2_with fail
          have hpr := pack_runs (k := r) HI.out.a HI.out.g HL.out (by omega) (by rw [← HI.out.p, bys_size]; have := HRR.out; omega)
          have hbp : bys (pg ++ t1) = pageOf ps ++ List.replicate r L := by rw [str_app, HI.out.p, HT1.out]; rfl
          have hbf : bys (fm ++ t2) = formOf ps ++ [UInt8.ofNat (128 + r), L] := by rw [str_app, HI.out.f, HT2.out]; rfl
          have HX : Hid (packR (bys (pg ++ t1)) = if ps.length + 1 ≤ 23 then (bys (fm ++ t2), true) else ([], false)) := Lib.hid (by
            rw [hbp, hbf]
            unfold packR
            rw [hpr]
            by_cases h : ps.length + 1 ≤ 23
            · rw [if_pos h, if_pos h]
            · rw [if_neg h, if_neg h])
          clear hpr hbp hbf HT1 HT2 HI HL HRR
          refine (pack_st _ (pg ++ t1)).mono ?_
          rw [HX.out]
          rintro e w9 ⟨rfl, k9⟩
          have K9 := K8.trans k9 (by simp)
          clear K8 k9 HX
          by_cases hc : ps.length + 1 ≤ 23
          · rw [if_pos hc]
            have c1 : decide ((ps.length : Int) + 1 ≤ 23) = true := by simp; omega
            have c2 : ((st (bys (fm ++ t2))).toList == (fm ++ t2).toList) = true := by rw [st_list, str_list]; simp
            have c3 : ((st (fm.data.toList ++ t2.data.toList)).toList == (fm ++ t2).toList) = true := by rw [st_list, str_list]; simp
            go_wp2_with fail
            go_ret
            exact ⟨rfl, K9⟩
          · rw [if_neg hc]
            have c1 : decide ((ps.length : Int) + 1 ≤ 23) = false := by simp; omega
            go_wp2_with fail
            go_ret
            exact ⟨rfl, K9⟩
        · have t1 : ((last.toNat : Int) == lastOf ps) = false := by simp [e1]
          have HL := Lib.hid e1
          clear e1
          obtain ⟨r, hr⟩ : ∃ r : Nat, (64 : Int) - pg.size = r := ⟨(64 - (pg.size : Int)).toNat, by omega⟩
          have hr1 : 3 ≤ r := by omega
          have hr2 : r ≤ 64 := by omega
          have HRR := Lib.hid hr
          go_wp2_with fail
          refine (many_st _ last r (by omega)).mono ?_
          rintro e w8 ⟨rfl, k8⟩
          have K8 := kp.trans k8 (by simp)
          obtain ⟨t1, ht1⟩ : ∃ t : ByteArray, t = st (List.replicate r last) := ⟨_, rfl⟩
          have hts1 : t1.size ≤ 64 := by rw [ht1, st_size]; simp; omega
          rw [← ht1]
          obtain ⟨t2, ht2⟩ : ∃ t : ByteArray, t = st [UInt8.ofNat (128 + r), last] := ⟨_, rfl⟩
          have hts2 : t2.size ≤ 2 := by rw [ht2, st_size]; simp
          have hcv := run_two w8 r (by omega) last
          rw [← ht2] at hcv
          have HT1 := Lib.hid ht1
          have HT2 := Lib.hid ht2
          have K8 := K8.alloc (.cells #[.int .u8 (128 + (r : Int)), .int .u8 last.toNat] 5)
          clear ht1 ht2 k8 kp
          go_wp2_with fail
          have hpr := pack_runs (k := r) HI.out.a HI.out.g HL.out (by omega) (by rw [← HI.out.p, bys_size]; have := HRR.out; omega)
          have hbp : bys (pg ++ t1) = pageOf ps ++ List.replicate r last := by rw [str_app, HI.out.p, HT1.out]; rfl
          have hbf : bys (fm ++ t2) = formOf ps ++ [UInt8.ofNat (128 + r), last] := by rw [str_app, HI.out.f, HT2.out]; rfl
          have HX : Hid (packR (bys (pg ++ t1)) = if ps.length + 1 ≤ 23 then (bys (fm ++ t2), true) else ([], false)) := Lib.hid (by
            rw [hbp, hbf]
            unfold packR
            rw [hpr]
            by_cases h : ps.length + 1 ≤ 23
            · rw [if_pos h, if_pos h]
            · rw [if_neg h, if_neg h])
          clear hpr hbp hbf HT1 HT2 HI HL HRR
          refine (pack_st _ (pg ++ t1)).mono ?_
          rw [HX.out]
          rintro e w9 ⟨rfl, k9⟩
          have K9 := K8.trans k9 (by simp)
          clear K8 k9 HX
          by_cases hc : ps.length + 1 ≤ 23
          · rw [if_pos hc]
            have c1 : decide ((ps.length : Int) + 1 ≤ 23) = true := by simp; omega
            have c2 : ((st (bys (fm ++ t2))).toList == (fm ++ t2).toList) = true := by rw [st_list, str_list]; simp
            have c3 : ((st (fm.data.toList ++ t2.data.toList)).toList == (fm ++ t2).toList) = true := by rw [st_list, str_list]; simp
            go_wp2_with fail
            go_ret
            exact ⟨rfl, K9⟩
          · rw [if_neg hc]
            have c1 : decide ((ps.length : Int) + 1 ≤ 23) = false := by simp; omega
            go_wp2_with fail
            go_ret
            exact ⟨rfl, K9⟩
end Go.Proofs.Ytcoecpglnabbpaa
