/- The reference: SeesKeys (printed by t6gen.py). -/
import Derived.Test.YtbllmpcpfmlemaaGreatTA
namespace Go.Proofs.YtbllmpcpfmlemaaGreat
open Go.RowKit
theorem over_step (wr : List (Str × Str)) (p : Str) (B : List Str) {q : Nat} (hq : q < wr.length) : over (wr.take (q + 1)) p B = if pre p wr[q].1 = true then setIn (over (wr.take q) p B) wr[q].1 (decide (wr[q].2 ≠ [])) else over (wr.take q) p B := by
  rw [List.take_succ_eq_append_getElem hq]
  unfold over
  rw [List.foldl_append]
  rfl
theorem ascK_take {wr : List (Str × Str)} (h : AscK wr) (q : Nat) : AscK (wr.take q) := by
  unfold AscK at h ⊢
  rw [List.map_take]
  exact List.Pairwise.sublist (List.take_sublist _ _) h
set_option maxRecDepth 100000 in
set_option maxHeartbeats 6400000 in
theorem rSeesKeys_any {P : List Str} {C : St} (hW : WF P C) (hP : PoolOk P) (hl : C.length ≤ 1000000) (d : Nat) (F G : List Nat) (k : Str) : ∀ (N : Nat) (w : World) (i : Int), depth C i ≤ N → Rf w d F G C →
    Calls Tryz.prog 19 #[.pointer (some ⟨d, 0, none⟩), .int .i64 i, sv k] w fun e w' => (∃ v, e = .returned v ∧ w'.ownsRow 0 9 1 v (seesKeys C i k).length (vs (seesKeys C i k)) ∧ ∀ g ∈ fp v, w.heap.size ≤ g) ∧ Keeps [] w w' := by
  intro N
  induction N with
  | zero =>
    intro w i hd h
    have hh : has C i = false := by
      cases hb : has C i with
      | false => rfl
      | true => have := depth_pos hb; omega
    rw [seesKeys_none hh]
    have CP := Lib.hid (place_any h hl i)
    rw [plc_no hh] at CP
    clear h hd hh
    go_enter Tryz.func19, Tryz.ntmps19
    go_wp2_with fail
    refine CP.out.mono ?_
    rintro e w1 ⟨rfl, rfl⟩
    go_wp2_with fail
    go_ret
    exact ⟨⟨_, rfl, World.ownsRow_nil _ _ _ _, by simp⟩, Keeps.refl _ _⟩
  | succ N ih =>
    intro w i hd h
    cases hh : has C i with
    | false =>
      rw [seesKeys_none hh]
      have CP := Lib.hid (place_any h hl i)
      rw [plc_no hh] at CP
      clear h hd hh ih
      go_enter Tryz.func19, Tryz.ntmps19
      go_wp2_with fail
      refine CP.out.mono ?_
      rintro e w1 ⟨rfl, rfl⟩
      go_wp2_with fail
      go_ret
      exact ⟨⟨_, rfl, World.ownsRow_nil _ _ _ _, by simp⟩, Keeps.refl _ _⟩
    | true =>
      obtain ⟨x, j, g, n, cap, A1, A2, A3, p1, p2, p3, hf, hx, rfl, hp, hj, hn, hz, hpl⟩ := h.open_ hW.tree.row0 hh
      have CP := Lib.hid (place_any h hl x.id)
      rw [hp] at CP
      have hse := seesKeys_eq hW.tree hx k
      have hok := hW.ok x hx
      have hwl : x.wr.length ≤ 1000000 := hP.leK hok.wr hok.wp
      have hrl : x.rd.length ≤ 2000000 := rd_le hW hP hx
      have HWL := Lib.hid hwl
      have hnl : n ≤ 1000000 := by omega
      have hvlen := seesKeys_len hW hP x.id k
      have HBASE : Hid (∀ B0 : List Str, (Asc B0 ∧ ∀ s ∈ B0, s ∈ P ∧ pre k s = true) → ∀ q, (over (x.wr.take q) k B0).length ≤ 1000000) := Lib.hid (fun B0 hb q => by
        have h1 := over_ok (ascK_take hok.wr q) (fun e he => hok.wp e (List.mem_of_mem_take he)) hb.1 hb.2
        exact hP.le h1.1 (fun s hs => (h1.2 s hs).1))
      have HSUB : Hid (∀ l, keysOf x.rd k = some l → Asc l ∧ ∀ s ∈ l, s ∈ P ∧ pre k s = true) := Lib.hid (fun l hl => hok.sub hl)
      have HPAR := Lib.hid (seesKeys_ok hW.ok x.par k)
      obtain ⟨V, hV⟩ : ∃ V, seesKeys C x.id k = V := ⟨_, rfl⟩
      rw [hV] at hse hvlen ⊢
      have HVL := Lib.hid hvlen
      have HSE0 := Lib.hid hse
      have HPL := Lib.hid hpl
      have HR := Lib.hid h
      have hid0 : 0 ≤ x.id := hW.tree.pos hx
      have IH : Hid (x.id ≠ 0 → ∀ w, Rf w d F G C → Calls Tryz.prog 19 #[.pointer (some ⟨d, 0, none⟩), .int .i64 x.par, sv k] w fun e w' => (∃ v, e = .returned v ∧ w'.ownsRow 0 9 1 v (seesKeys C x.par k).length (vs (seesKeys C x.par k)) ∧ ∀ g ∈ fp v, w.heap.size ≤ g) ∧ Keeps [] w w') := Lib.hid (fun h0 w hw => ih w x.par (by have := depth_par hW.tree hx h0; omega) hw)
      have HR0 : Hid (x.id = 0 → x.rd = []) := Lib.hid (hW.tree.rd0 hx)
      obtain ⟨f0, c0, c1, c2, c3, c4, -, -, -⟩ := hpl
      have i0 : ¬ ((j : Int) < 0) := by omega
      have i2 : (0 : Int) ≤ (j : Int) := by omega
      have i3 : (j : Int) < (n : Int) := by omega
      clear h hd hh ih hf hx hp hj hn hz hse hok hV hvlen hwl
      by_cases h0 : x.id = 0
      · have ig : ¬ (0 < x.id) := by omega
        have hB0 : ∃ B0 : List Str, B0 = [] := ⟨_, rfl⟩
        obtain ⟨B0, hB0⟩ := hB0
        have HSE : Hid (V = over x.wr k B0) := Lib.hid (by
          have := HSE0.out
          rw [HR0.out h0, keysOf] at this
          dsimp only at this
          rw [if_pos h0] at this
          rw [hB0]; exact this)
        have HBA : Hid (Asc B0) := Lib.hid (by rw [hB0]; exact asc_nil)
        have HLEN := Lib.hid (HBASE.out B0 (by rw [hB0]; exact ⟨asc_nil, by simp⟩))
        have HBN := Lib.hid hB0
        clear hB0 HSE0 HBASE HSUB HPAR IH HR0 h0
        go_enter Tryz.func19, Tryz.ntmps19
        go_wp2_with fail
        refine CP.out.mono ?_
        rintro e w1 ⟨rfl, rfl⟩
        clear CP
        go_upto_region 11 with fail
        obtain ⟨W, hW⟩ : ∃ W, w1.alloc (.cells #[.int .i64 x.id, .int .i64 x.par, .slice A1 x.wr.length p1, .slice A2 x.rd.length p2, .slice A3 x.lg.length p3] 68) = W := ⟨_, rfl⟩
        obtain ⟨b, hb⟩ : ∃ b, w1.heap.size = b := ⟨_, rfl⟩
        have b0 : Blk W b 68 #[.int .i64 x.id, .int .i64 x.par, .slice A1 x.wr.length p1, .slice A2 x.rd.length p2, .slice A3 x.lg.length p3] := by rw [← hW, ← hb]; exact Blk.new _ _ _
        have k0 : Keeps [] w1 W := by rw [← hW]; exact (Keeps.refl _ _).alloc _
        rw [hW]
        rw [hb]
        have HK0 := Lib.hid k0
        have HBK := Lib.hid b0
        have HB0 : Hid (W.ownsRow 0 9 1 (.slice none 0 0) (over (x.wr.take 0) k B0).length (vs (over (x.wr.take 0) k B0))) := Lib.hid (by
          have e : over (x.wr.take 0) k B0 = [] := by rw [HBN.out]; rfl
          rw [e]; exact World.ownsRow_nil _ _ _ _)
        clear hW hb k0 b0 f0 c0 c1 c2 c3 c4 i2 i3 i0 HR
        go_wp2_with fail
        have f2 : Hid (∀ Wx, Keeps [] W Wx → Wx.cell? ⟨b, 2, none⟩ = some (.slice A1 x.wr.length p1)) := Lib.hid (fun Wx hk => (HBK.out.keep hk (by simp)).cell 2)
        go_loopw [9, 11] (fun vl iv wr => ∃ q : Nat, q ≤ x.wr.length ∧ iv = .int .i64 q ∧ Keeps [] W wr ∧ wr.ownsRow 0 9 1 vl (over (x.wr.take q) k B0).length (vs (over (x.wr.take q) k B0))) (fun _ iv _ => x.wr.length - (intOf iv).toNat)
        case atStart => exact ⟨0, by omega, rfl, Keeps.refl _ _, HB0.out⟩
        case round =>
          obtain ⟨q, hq, rfl, hkr, hor⟩ := hrel
          clear HB0
          have KR := Lib.hid hkr
          have HO := Lib.hid hor
          clear hkr hor
          obtain ⟨D1, e1, hvl, -, -, -⟩ := own_shape HO.out
          subst hvl
          have hwl := HWL.out
          by_cases hlt : q < x.wr.length
          · obtain ⟨g1, o1, hA1, -, hcl⟩ := (AtP.of_own (HPL.out.keep0 (HK0.out.trans KR.out (by simp))).o.wr HWL.out).at_ (by omega)
            obtain ⟨y0, y1⟩ := hcl q hlt
            have HSS : Hid (∀ W, Keeps [] wr W → W.cell? ⟨b, 2, none⟩ = some (.slice (some ⟨g1, o1, none⟩) x.wr.length p1) ∧ W.cell? ⟨g1, o1 + q * 2, none⟩ = some (sv x.wr[q].1) ∧ W.cell? ⟨g1, o1 + q * 2 + 1, none⟩ = some (sv x.wr[q].2)) := Lib.hid (fun W hk => by
              refine ⟨by rw [← hA1]; exact f2.out _ (KR.out.trans hk (by simp)), (hk.cell (p := ⟨g1, _, none⟩) (cell_lt y0) (by simp)).trans y0, (hk.cell (p := ⟨g1, _, none⟩) (cell_lt y1) (by simp)).trans y1⟩)
            have hst := over_step x.wr k B0 hlt
            have hasc := asc_over (x.wr.take q) k HBA.out
            have hlen := HLEN.out q
            have HCW := Lib.hid (fun W (hk : Keeps [] wr W) => with_any (c := e1) (AtS.of_own (own_keep HO.out hk (by simp)) hlen) hasc x.wr[q].1 (decide (x.wr[q].2 ≠ [])))
            obtain ⟨lq, hlq⟩ : ∃ lq, over (x.wr.take q) k B0 = lq := ⟨_, rfl⟩
            rw [hlq] at HCW HO hst ⊢
            obtain ⟨ky, hky⟩ : ∃ ky, x.wr[q].1 = ky := ⟨_, rfl⟩
            obtain ⟨vl, hvl⟩ : ∃ vl, x.wr[q].2 = vl := ⟨_, rfl⟩
            rw [hky, hvl] at HCW hst HSS
            obtain ⟨t, ht⟩ : ∃ t, decide (vl ≠ []) = t := ⟨_, rfl⟩
            have hie : vl.isEmpty = !t := by rw [← ht]; cases vl <;> rfl
            rw [ht] at HCW hst
            have HST := Lib.hid hst
            have HIE := Lib.hid hie
            have i0 : (0 : Int) ≤ (q : Int) := by omega
            have i1 : (q : Int) < (x.wr.length : Int) := by omega
            obtain ⟨s2, s0, s1⟩ := HSS.out wr (Keeps.refl _ _)
            clear hcl y0 y1 hst hasc hlen hlq hky hvl ht hie hA1 s1
            cases hpre : pre k ky with
            | false =>
              have hn : over (x.wr.take (q + 1)) k B0 = lq := by rw [HST.out, hpre]; rfl
              have HN := Lib.hid hn
              have CB := Lib.hid (begins_any ky k wr)
              rw [hpre] at CB
              clear HST HCW hn hpre
              go_wp2_with fail
              refine CB.out.mono ?_
              rintro e w5 ⟨rfl, rfl⟩
              go_wp2_with fail
              exact ⟨⟨q + 1, by omega, rfl, KR.out, by rw [HN.out]; exact HO.out⟩, by simp only [intOf]; omega⟩
            | true =>
              have hn : over (x.wr.take (q + 1)) k B0 = setIn lq ky t := by rw [HST.out, hpre]; rfl
              have HN := Lib.hid hn
              have CB := Lib.hid (begins_any ky k wr)
              rw [hpre] at CB
              clear HST hn hpre
              go_wp2_with fail
              refine CB.out.mono ?_
              rintro e w5 ⟨rfl, rfl⟩
              clear s2 s0
              go_upto_region 15 with fail
              refine skR15_any w5 b g1 o1 x.wr.length p1 q k ky vl t _ (setIn lq ky t) _ HSS.out HIE.out (fun W hk => by
                refine (HCW.out W hk).mono ?_
                rintro e w' ⟨⟨v, rfl, r1, -⟩, r2⟩
                exact ⟨v, rfl, r1, r2⟩) i0 i1 _ _ _ _ _ _ _ _ _ _ _ _ _ _ _ _ _ _ _ _ _ _ _ _ _ _ _ _ _ _ _ _ _ _ _ _ _ _ _ _ _ _ _ _ _ _ _ _ _ _ _ _ _ _ _ _ _ _ _ _ _ _ _ _ _ _ _ _ _ _ _ ?_
              intro v57 v58 v59 v60 v61 v62 v63 v64 v65 v66 v67 v68 v69 v70 v71 v3 W r1 hk
              have R1 := Lib.hid r1
              have KN := Lib.hid (KR.out.trans hk (by simp))
              clear r1 hk
              go_wp2_with fail
              exact ⟨⟨q + 1, by omega, rfl, KN.out, by rw [HN.out]; exact R1.out⟩, by simp only [intOf]; omega⟩
          · obtain rfl : q = x.wr.length := by omega
            have i1 : ¬ ((x.wr.length : Int) < (x.wr.length : Int)) := by omega
            have s2 := f2.out wr KR.out
            have hfull : over (x.wr.take x.wr.length) k B0 = V := by rw [List.take_length]; exact HSE.out.symm
            rw [hfull] at HO ⊢
            have hvl := HVL.out
            clear hfull
            go_wp2_with (at_builtin; refine wpList_app _ rfl (.tmp 72) (.tmp 73) _ rfl 9 (.string ⟨#[]⟩) 1 16 Tryz.underlying29 info9 rfl (by omega) (.slice (some ⟨wr.heap.size, 0, none⟩) 0 0) 0 [] rfl (own_of_blk (Blk.new wr 9 #[]) (by omega) (by omega) rfl rfl) _ _ _ _ (vs V) rfl (reads_own (own_keep HO.out ((Keeps.refl [] _).alloc _) (by simp))) (vs_one V) (by unfold maxLen; omega) (by omega) ?_)
            intro v' w' ho' hk' hf'
            have HO' : Hid (w'.ownsRow 0 9 1 v' V.length (vs V)) := Lib.hid (by simpa using ho')
            have KK' : Hid (Keeps [] w1 w') := Lib.hid ((HK0.out.trans (KR.out.alloc _) (by simp)).trans hk' (fun g hg => .inr (by have h1 : g = wr.heap.size := (by simpa [fp, Value.ownBlock] using hg); have := HK0.out.size; have := KR.out.size; omega)))
            have FF' : Hid (∀ g ∈ fp v', w1.heap.size ≤ g) := Lib.hid (fun g hg => by
              have h0 := HK0.out.size
              have h1 := KR.out.size
              rcases hf' g hg with h2 | h2
              · have : g = wr.heap.size := by simpa [fp, Value.ownBlock] using h2
                omega
              · omega)
            clear ho' hk' hf'
            go_wp2_with fail
            go_ret
            exact ⟨⟨_, rfl, HO'.out, FF'.out⟩, KK'.out⟩
      · have ig : 0 < x.id := by omega
        have H0 := Lib.hid h0
        clear h0 HR0
        go_enter Tryz.func19, Tryz.ntmps19
        go_wp2_with fail
        refine CP.out.mono ?_
        rintro e w1 ⟨rfl, rfl⟩
        clear CP
        go_wp2_with fail
        obtain ⟨W, hW⟩ : ∃ W, w1.alloc (.cells #[.int .i64 x.id, .int .i64 x.par, .slice A1 x.wr.length p1, .slice A2 x.rd.length p2, .slice A3 x.lg.length p3] 68) = W := ⟨_, rfl⟩
        obtain ⟨b, hb⟩ : ∃ b, w1.heap.size = b := ⟨_, rfl⟩
        have b0 : Blk W b 68 #[.int .i64 x.id, .int .i64 x.par, .slice A1 x.wr.length p1, .slice A2 x.rd.length p2, .slice A3 x.lg.length p3] := by rw [← hW, ← hb]; exact Blk.new _ _ _
        have k0 : Keeps [] w1 W := by rw [← hW]; exact (Keeps.refl _ _).alloc _
        rw [hW]
        rw [hb]
        have HPL2 := Lib.hid (HPL.out.keep0 k0)
        have CR := Lib.hid (read_any HPL2.out.o hrl 1 k)
        have HR2 := Lib.hid (HR.out.keep0 k0)
        have K2 := Lib.hid k0
        have B2 := Lib.hid b0
        clear hW hb k0 b0 f0 c0 c1 c2 c3 c4 i2 i3 i0 HR
        rcases rdIx_keys k x.rd with ⟨h1, h2⟩ | ⟨q0, hq0, h1, h2⟩
        · rw [h2] at CR
          have HSE : Hid (V = over x.wr k (seesKeys C x.par k)) := Lib.hid (by
            have := HSE0.out
            rw [h1] at this
            dsimp only at this
            rw [if_neg H0.out] at this
            exact this)
          obtain ⟨B0, hB0⟩ : ∃ B0, seesKeys C x.par k = B0 := ⟨_, rfl⟩
          rw [hB0] at HSE HPAR IH
          have HBA : Hid (Asc B0) := Lib.hid HPAR.out.1
          have HLEN := Lib.hid (HBASE.out B0 HPAR.out)
          clear hB0 HSE0 HBASE HSUB HPAR h1 h2
          refine CR.out.mono ?_
          rintro e w3 ⟨rfl, k3⟩
          have HR4 := Lib.hid (HR2.out.keep0 k3)
          have K4 := Lib.hid (K2.out.trans k3 (by simp))
          have B4 := Lib.hid (B2.out.keep k3 (by simp))
          have f4_1 : w3.cell? ⟨b, 1, none⟩ = some (.int .i64 x.par) := B4.out.cell 1
          clear k3 HR2 K2 B2 HPL2 CR
          go_wp2_with fail
          refine (IH.out H0.out w3 HR4.out).mono ?_
          rintro e w4 ⟨⟨v, rfl, r1, -⟩, k4⟩
          have HK0 := Lib.hid (K4.out.trans k4 (by simp))
          have HBK := Lib.hid (B4.out.keep k4 (by simp))
          have HB0 : Hid (w4.ownsRow 0 9 1 v (over (x.wr.take 0) k B0).length (vs (over (x.wr.take 0) k B0))) := Lib.hid r1
          clear k4 r1 K4 B4 HR4 f4_1
          go_wp2_with fail
          have f2 : Hid (∀ Wx, Keeps [] w4 Wx → Wx.cell? ⟨b, 2, none⟩ = some (.slice A1 x.wr.length p1)) := Lib.hid (fun Wx hk => (HBK.out.keep hk (by simp)).cell 2)
          go_loopw [9, 11] (fun vl iv wr => ∃ q : Nat, q ≤ x.wr.length ∧ iv = .int .i64 q ∧ Keeps [] w4 wr ∧ wr.ownsRow 0 9 1 vl (over (x.wr.take q) k B0).length (vs (over (x.wr.take q) k B0))) (fun _ iv _ => x.wr.length - (intOf iv).toNat)
          case atStart => exact ⟨0, by omega, rfl, Keeps.refl _ _, HB0.out⟩
          case round =>
            obtain ⟨q, hq, rfl, hkr, hor⟩ := hrel
            clear HB0
            have KR := Lib.hid hkr
            have HO := Lib.hid hor
            clear hkr hor
            obtain ⟨D1, e1, hvl, -, -, -⟩ := own_shape HO.out
            subst hvl
            have hwl := HWL.out
            by_cases hlt : q < x.wr.length
            · obtain ⟨g1, o1, hA1, -, hcl⟩ := (AtP.of_own (HPL.out.keep0 (HK0.out.trans KR.out (by simp))).o.wr HWL.out).at_ (by omega)
              obtain ⟨y0, y1⟩ := hcl q hlt
              have HSS : Hid (∀ W, Keeps [] wr W → W.cell? ⟨b, 2, none⟩ = some (.slice (some ⟨g1, o1, none⟩) x.wr.length p1) ∧ W.cell? ⟨g1, o1 + q * 2, none⟩ = some (sv x.wr[q].1) ∧ W.cell? ⟨g1, o1 + q * 2 + 1, none⟩ = some (sv x.wr[q].2)) := Lib.hid (fun W hk => by
                refine ⟨by rw [← hA1]; exact f2.out _ (KR.out.trans hk (by simp)), (hk.cell (p := ⟨g1, _, none⟩) (cell_lt y0) (by simp)).trans y0, (hk.cell (p := ⟨g1, _, none⟩) (cell_lt y1) (by simp)).trans y1⟩)
              have hst := over_step x.wr k B0 hlt
              have hasc := asc_over (x.wr.take q) k HBA.out
              have hlen := HLEN.out q
              have HCW := Lib.hid (fun W (hk : Keeps [] wr W) => with_any (c := e1) (AtS.of_own (own_keep HO.out hk (by simp)) hlen) hasc x.wr[q].1 (decide (x.wr[q].2 ≠ [])))
              obtain ⟨lq, hlq⟩ : ∃ lq, over (x.wr.take q) k B0 = lq := ⟨_, rfl⟩
              rw [hlq] at HCW HO hst ⊢
              obtain ⟨ky, hky⟩ : ∃ ky, x.wr[q].1 = ky := ⟨_, rfl⟩
              obtain ⟨vl, hvl⟩ : ∃ vl, x.wr[q].2 = vl := ⟨_, rfl⟩
              rw [hky, hvl] at HCW hst HSS
              obtain ⟨t, ht⟩ : ∃ t, decide (vl ≠ []) = t := ⟨_, rfl⟩
              have hie : vl.isEmpty = !t := by rw [← ht]; cases vl <;> rfl
              rw [ht] at HCW hst
              have HST := Lib.hid hst
              have HIE := Lib.hid hie
              have i0 : (0 : Int) ≤ (q : Int) := by omega
              have i1 : (q : Int) < (x.wr.length : Int) := by omega
              obtain ⟨s2, s0, s1⟩ := HSS.out wr (Keeps.refl _ _)
              clear hcl y0 y1 hst hasc hlen hlq hky hvl ht hie hA1 s1
              cases hpre : pre k ky with
              | false =>
                have hn : over (x.wr.take (q + 1)) k B0 = lq := by rw [HST.out, hpre]; rfl
                have HN := Lib.hid hn
                have CB := Lib.hid (begins_any ky k wr)
                rw [hpre] at CB
                clear HST HCW hn hpre
                go_wp2_with fail
                refine CB.out.mono ?_
                rintro e w5 ⟨rfl, rfl⟩
                go_wp2_with fail
                exact ⟨⟨q + 1, by omega, rfl, KR.out, by rw [HN.out]; exact HO.out⟩, by simp only [intOf]; omega⟩
              | true =>
                have hn : over (x.wr.take (q + 1)) k B0 = setIn lq ky t := by rw [HST.out, hpre]; rfl
                have HN := Lib.hid hn
                have CB := Lib.hid (begins_any ky k wr)
                rw [hpre] at CB
                clear HST hn hpre
                go_wp2_with fail
                refine CB.out.mono ?_
                rintro e w5 ⟨rfl, rfl⟩
                clear s2 s0
                go_upto_region 15 with fail
                refine skR15_any w5 b g1 o1 x.wr.length p1 q k ky vl t _ (setIn lq ky t) _ HSS.out HIE.out (fun W hk => by
                  refine (HCW.out W hk).mono ?_
                  rintro e w' ⟨⟨v, rfl, r1, -⟩, r2⟩
                  exact ⟨v, rfl, r1, r2⟩) i0 i1 _ _ _ _ _ _ _ _ _ _ _ _ _ _ _ _ _ _ _ _ _ _ _ _ _ _ _ _ _ _ _ _ _ _ _ _ _ _ _ _ _ _ _ _ _ _ _ _ _ _ _ _ _ _ _ _ _ _ _ _ _ _ _ _ _ _ _ _ _ _ _ ?_
                intro v57 v58 v59 v60 v61 v62 v63 v64 v65 v66 v67 v68 v69 v70 v71 v3 W r1 hk
                have R1 := Lib.hid r1
                have KN := Lib.hid (KR.out.trans hk (by simp))
                clear r1 hk
                go_wp2_with fail
                exact ⟨⟨q + 1, by omega, rfl, KN.out, by rw [HN.out]; exact R1.out⟩, by simp only [intOf]; omega⟩
            · obtain rfl : q = x.wr.length := by omega
              have i1 : ¬ ((x.wr.length : Int) < (x.wr.length : Int)) := by omega
              have s2 := f2.out wr KR.out
              have hfull : over (x.wr.take x.wr.length) k B0 = V := by rw [List.take_length]; exact HSE.out.symm
              rw [hfull] at HO ⊢
              have hvl := HVL.out
              clear hfull
              go_wp2_with (at_builtin; refine wpList_app _ rfl (.tmp 72) (.tmp 73) _ rfl 9 (.string ⟨#[]⟩) 1 16 Tryz.underlying29 info9 rfl (by omega) (.slice (some ⟨wr.heap.size, 0, none⟩) 0 0) 0 [] rfl (own_of_blk (Blk.new wr 9 #[]) (by omega) (by omega) rfl rfl) _ _ _ _ (vs V) rfl (reads_own (own_keep HO.out ((Keeps.refl [] _).alloc _) (by simp))) (vs_one V) (by unfold maxLen; omega) (by omega) ?_)
              intro v' w' ho' hk' hf'
              have HO' : Hid (w'.ownsRow 0 9 1 v' V.length (vs V)) := Lib.hid (by simpa using ho')
              have KK' : Hid (Keeps [] w1 w') := Lib.hid ((HK0.out.trans (KR.out.alloc _) (by simp)).trans hk' (fun g hg => .inr (by have h1 : g = wr.heap.size := (by simpa [fp, Value.ownBlock] using hg); have := HK0.out.size; have := KR.out.size; omega)))
              have FF' : Hid (∀ g ∈ fp v', w1.heap.size ≤ g) := Lib.hid (fun g hg => by
                have h0 := HK0.out.size
                have h1 := KR.out.size
                rcases hf' g hg with h2 | h2
                · have : g = wr.heap.size := by simpa [fp, Value.ownBlock] using h2
                  omega
                · omega)
              clear ho' hk' hf'
              go_wp2_with fail
              go_ret
              exact ⟨⟨_, rfl, HO'.out, FF'.out⟩, KK'.out⟩
        · rw [h1] at CR
          have HSE : Hid (V = over x.wr k (lstR x.rd[q0])) := Lib.hid (by
            have := HSE0.out
            rw [h2] at this
            exact this)
          have hsub := HSUB.out _ h2
          obtain ⟨g2, c2, u, hm2, -, -, -, q3, ou, -⟩ := rd_cells HPL2.out.o.rd hq0
          dsimp only at hm2
          obtain ⟨rfl, rfl⟩ : A2 = some ⟨g2, 0, none⟩ ∧ p2 = c2 := by injection hm2 with e1 e2 e3; exact ⟨e1, e3⟩
          obtain ⟨B0, hB0⟩ : ∃ B0, lstR x.rd[q0] = B0 := ⟨_, rfl⟩
          rw [hB0] at HSE hsub ou
          have HBA : Hid (Asc B0) := Lib.hid hsub.1
          have HLEN := Lib.hid (HBASE.out B0 hsub)
          have OU := Lib.hid ou
          have hg2 := cell_lt q3
          clear hB0 HSE0 HBASE HSUB HPAR h1 h2 hsub ou IH hm2
          have j0 : (0 : Int) ≤ (q0 : Int) := by omega
          have j1 : (q0 : Int) < (x.rd.length : Int) := by omega
          refine CR.out.mono ?_
          rintro e w3 ⟨rfl, k3⟩
          have HK0 := Lib.hid (K2.out.trans k3 (by simp))
          have HBK := Lib.hid (B2.out.keep k3 (by simp))
          have f4_3 : w3.cell? ⟨b, 3, none⟩ = some (.slice (some ⟨g2, 0, none⟩) x.rd.length p2) := HBK.out.cell 3
          have f4_u : w3.cell? ⟨g2, q0 * 4 + 3, none⟩ = some u := (k3.cell (p := ⟨g2, _, none⟩) hg2 (by simp)).trans q3
          have HB0 : Hid (w3.ownsRow 0 9 1 u (over (x.wr.take 0) k B0).length (vs (over (x.wr.take 0) k B0))) := Lib.hid (own_keep OU.out k3 (by simp))
          obtain ⟨uA, uc, hu, -, -, -⟩ := own_shape OU.out
          subst hu
          clear k3 HR2 K2 B2 HPL2 CR q3 OU hg2
          go_upto_region 11 with fail
          clear f4_u f4_3 j0 j1
          go_wp2_with fail
          have f2 : Hid (∀ Wx, Keeps [] w3 Wx → Wx.cell? ⟨b, 2, none⟩ = some (.slice A1 x.wr.length p1)) := Lib.hid (fun Wx hk => (HBK.out.keep hk (by simp)).cell 2)
          go_loopw [9, 11] (fun vl iv wr => ∃ q : Nat, q ≤ x.wr.length ∧ iv = .int .i64 q ∧ Keeps [] w3 wr ∧ wr.ownsRow 0 9 1 vl (over (x.wr.take q) k B0).length (vs (over (x.wr.take q) k B0))) (fun _ iv _ => x.wr.length - (intOf iv).toNat)
          case atStart => exact ⟨0, by omega, rfl, Keeps.refl _ _, HB0.out⟩
          case round =>
            obtain ⟨q, hq, rfl, hkr, hor⟩ := hrel
            clear HB0
            have KR := Lib.hid hkr
            have HO := Lib.hid hor
            clear hkr hor
            obtain ⟨D1, e1, hvl, -, -, -⟩ := own_shape HO.out
            subst hvl
            have hwl := HWL.out
            by_cases hlt : q < x.wr.length
            · obtain ⟨g1, o1, hA1, -, hcl⟩ := (AtP.of_own (HPL.out.keep0 (HK0.out.trans KR.out (by simp))).o.wr HWL.out).at_ (by omega)
              obtain ⟨y0, y1⟩ := hcl q hlt
              have HSS : Hid (∀ W, Keeps [] wr W → W.cell? ⟨b, 2, none⟩ = some (.slice (some ⟨g1, o1, none⟩) x.wr.length p1) ∧ W.cell? ⟨g1, o1 + q * 2, none⟩ = some (sv x.wr[q].1) ∧ W.cell? ⟨g1, o1 + q * 2 + 1, none⟩ = some (sv x.wr[q].2)) := Lib.hid (fun W hk => by
                refine ⟨by rw [← hA1]; exact f2.out _ (KR.out.trans hk (by simp)), (hk.cell (p := ⟨g1, _, none⟩) (cell_lt y0) (by simp)).trans y0, (hk.cell (p := ⟨g1, _, none⟩) (cell_lt y1) (by simp)).trans y1⟩)
              have hst := over_step x.wr k B0 hlt
              have hasc := asc_over (x.wr.take q) k HBA.out
              have hlen := HLEN.out q
              have HCW := Lib.hid (fun W (hk : Keeps [] wr W) => with_any (c := e1) (AtS.of_own (own_keep HO.out hk (by simp)) hlen) hasc x.wr[q].1 (decide (x.wr[q].2 ≠ [])))
              obtain ⟨lq, hlq⟩ : ∃ lq, over (x.wr.take q) k B0 = lq := ⟨_, rfl⟩
              rw [hlq] at HCW HO hst ⊢
              obtain ⟨ky, hky⟩ : ∃ ky, x.wr[q].1 = ky := ⟨_, rfl⟩
              obtain ⟨vl, hvl⟩ : ∃ vl, x.wr[q].2 = vl := ⟨_, rfl⟩
              rw [hky, hvl] at HCW hst HSS
              obtain ⟨t, ht⟩ : ∃ t, decide (vl ≠ []) = t := ⟨_, rfl⟩
              have hie : vl.isEmpty = !t := by rw [← ht]; cases vl <;> rfl
              rw [ht] at HCW hst
              have HST := Lib.hid hst
              have HIE := Lib.hid hie
              have i0 : (0 : Int) ≤ (q : Int) := by omega
              have i1 : (q : Int) < (x.wr.length : Int) := by omega
              obtain ⟨s2, s0, s1⟩ := HSS.out wr (Keeps.refl _ _)
              clear hcl y0 y1 hst hasc hlen hlq hky hvl ht hie hA1 s1
              cases hpre : pre k ky with
              | false =>
                have hn : over (x.wr.take (q + 1)) k B0 = lq := by rw [HST.out, hpre]; rfl
                have HN := Lib.hid hn
                have CB := Lib.hid (begins_any ky k wr)
                rw [hpre] at CB
                clear HST HCW hn hpre
                go_wp2_with fail
                refine CB.out.mono ?_
                rintro e w5 ⟨rfl, rfl⟩
                go_wp2_with fail
                exact ⟨⟨q + 1, by omega, rfl, KR.out, by rw [HN.out]; exact HO.out⟩, by simp only [intOf]; omega⟩
              | true =>
                have hn : over (x.wr.take (q + 1)) k B0 = setIn lq ky t := by rw [HST.out, hpre]; rfl
                have HN := Lib.hid hn
                have CB := Lib.hid (begins_any ky k wr)
                rw [hpre] at CB
                clear HST hn hpre
                go_wp2_with fail
                refine CB.out.mono ?_
                rintro e w5 ⟨rfl, rfl⟩
                clear s2 s0
                go_upto_region 15 with fail
                refine skR15_any w5 b g1 o1 x.wr.length p1 q k ky vl t _ (setIn lq ky t) _ HSS.out HIE.out (fun W hk => by
                  refine (HCW.out W hk).mono ?_
                  rintro e w' ⟨⟨v, rfl, r1, -⟩, r2⟩
                  exact ⟨v, rfl, r1, r2⟩) i0 i1 _ _ _ _ _ _ _ _ _ _ _ _ _ _ _ _ _ _ _ _ _ _ _ _ _ _ _ _ _ _ _ _ _ _ _ _ _ _ _ _ _ _ _ _ _ _ _ _ _ _ _ _ _ _ _ _ _ _ _ _ _ _ _ _ _ _ _ _ _ _ _ ?_
                intro v57 v58 v59 v60 v61 v62 v63 v64 v65 v66 v67 v68 v69 v70 v71 v3 W r1 hk
                have R1 := Lib.hid r1
                have KN := Lib.hid (KR.out.trans hk (by simp))
                clear r1 hk
                go_wp2_with fail
                exact ⟨⟨q + 1, by omega, rfl, KN.out, by rw [HN.out]; exact R1.out⟩, by simp only [intOf]; omega⟩
            · obtain rfl : q = x.wr.length := by omega
              have i1 : ¬ ((x.wr.length : Int) < (x.wr.length : Int)) := by omega
              have s2 := f2.out wr KR.out
              have hfull : over (x.wr.take x.wr.length) k B0 = V := by rw [List.take_length]; exact HSE.out.symm
              rw [hfull] at HO ⊢
              have hvl := HVL.out
              clear hfull
              go_wp2_with (at_builtin; refine wpList_app _ rfl (.tmp 72) (.tmp 73) _ rfl 9 (.string ⟨#[]⟩) 1 16 Tryz.underlying29 info9 rfl (by omega) (.slice (some ⟨wr.heap.size, 0, none⟩) 0 0) 0 [] rfl (own_of_blk (Blk.new wr 9 #[]) (by omega) (by omega) rfl rfl) _ _ _ _ (vs V) rfl (reads_own (own_keep HO.out ((Keeps.refl [] _).alloc _) (by simp))) (vs_one V) (by unfold maxLen; omega) (by omega) ?_)
              intro v' w' ho' hk' hf'
              have HO' : Hid (w'.ownsRow 0 9 1 v' V.length (vs V)) := Lib.hid (by simpa using ho')
              have KK' : Hid (Keeps [] w1 w') := Lib.hid ((HK0.out.trans (KR.out.alloc _) (by simp)).trans hk' (fun g hg => .inr (by have h1 : g = wr.heap.size := (by simpa [fp, Value.ownBlock] using hg); have := HK0.out.size; have := KR.out.size; omega)))
              have FF' : Hid (∀ g ∈ fp v', w1.heap.size ≤ g) := Lib.hid (fun g hg => by
                have h0 := HK0.out.size
                have h1 := KR.out.size
                rcases hf' g hg with h2 | h2
                · have : g = wr.heap.size := by simpa [fp, Value.ownBlock] using h2
                  omega
                · omega)
              clear ho' hk' hf'
              go_wp2_with fail
              go_ret
              exact ⟨⟨_, rfl, HO'.out, FF'.out⟩, KK'.out⟩
theorem rSeesKeys {P : List Str} {C : St} (hW : WF P C) (hP : PoolOk P) (hl : C.length ≤ 1000000) {w : World} {d : Nat} {F G : List Nat} (h : Rf w d F G C) (i : Int) (k : Str) :
    Calls Tryz.prog 19 #[.pointer (some ⟨d, 0, none⟩), .int .i64 i, sv k] w fun e w' => (∃ v, e = .returned v ∧ w'.ownsRow 0 9 1 v (seesKeys C i k).length (vs (seesKeys C i k)) ∧ ∀ g ∈ fp v, w.heap.size ≤ g) ∧ Keeps [] w w' := rSeesKeys_any hW hP hl d F G k (depth C i) w i (Nat.le_refl _) h
end Go.Proofs.YtbllmpcpfmlemaaGreat
