/- The walk of MmuBits. -/
import Derived.Test.YteognipfnbocpaaY4
import Derived.Deep.RegionHeld3
namespace Go.Proofs.Yteognipfnbocpaa
open Go.RowKit
open T12 (E TbRep ent mapM mapN lookX)
open T13 (Tl En TlRep es)

/-- The state ahead of round i. -/
structure BI (w wr : World) (p gA gD i n : Nat) (ks : List Int) (s : Mm) (ac di : Nat → Bool) : Prop where
  b : BW w wr p gA gD s ac di
  m : MI (2 * i) ks s
  c : Coh s
  k : Bits (s.tab 5) ac di
  l : s.C.length = n
/-- The operation as the statement turns it. -/
def opT (o : Op) (q : Nat) : Op := ⟨o.d, o.cpu, 5, q, o.fr, o.wr⟩
theorem opT_wf {o : Op} {q : Nat} (h : o.Wf) (hq : q < 256) : (opT o q).Wf := { h with
  x1 := by show (-9223372036854775808 : Int) ≤ 5; omega
  x2 := by show (5 : Int) ≤ 9223372036854775807; omega
  p1 := by show (-9223372036854775808 : Int) ≤ (q : Int); omega
  p2 := by show (q : Int) ≤ (9223372036854775807 : Int); omega }
theorem updB_self (f : Nat → Bool) (p : Nat) : updB f p (f p) = f := by
  funext q
  unfold updB
  by_cases h : q = p
  · subst h; rw [if_pos rfl]
  · rw [if_neg h]
theorem BI.next {w wr wr' : World} {p gA gD i n : Nat} {ks : List Int} {s s' : Mm} {ac di ac' di' : Nat → Bool} {o : Op} (h : BI w wr p gA gD i n ks s ac di) (wf : o.Wf) (hx : o.x = 5) (hs : s' = s.op o) (b : BW w wr' p gA gD s' ac' di') (k : Bits (s'.tab 5) ac' di') : BI w wr' p gA gD (i + 1) n (addK ks 5) s' ac' di' :=
  ⟨b, by
    have := h.m.op o
    rw [← hs, hx] at this
    rwa [show 2 * i + 2 = 2 * (i + 1) by omega] at this, by rw [hs]; exact h.c.op o wf, k, by rw [hs, op_len]; exact h.l⟩
set_option maxRecDepth 100000 in
set_option maxHeartbeats 6400000 in
theorem bits_any (w : World) (nn : Int) (A : Option Addr) (m c : Nat) (f : Nat → Op) (hm : m ≤ 9223372036854775807)
    (hA : 0 < m → ∃ bl off, A = some ⟨bl, off, none⟩ ∧ OpsAt w bl off m f) :
    Calls Try.prog 3 #[.int .i64 nn, .slice A m c] w fun e w' => e = .returned (.bool true) ∧ Keeps [] w w' := by
  by_cases g1 : nn < 1 ∨ 8 < nn ∨ 100 < m
  · by_cases a1 : nn < 1
    · go_enter Try.func3, Try.ntmps3
      go_wp2_with fail
      refine (small_any _).mono ?_
      rintro e w1 ⟨rfl, k1⟩
      go_wp2
      go_ret
      exact ⟨rfl, k1⟩
    by_cases a2 : 8 < nn
    · go_enter Try.func3, Try.ntmps3
      go_wp2_with fail
      refine (small_any _).mono ?_
      rintro e w1 ⟨rfl, k1⟩
      go_wp2
      go_ret
      exact ⟨rfl, k1⟩
    have a3 : 100 < m := by omega
    clear g1
    go_enter Try.func3, Try.ntmps3
    go_wp2_with fail
    refine (small_any _).mono ?_
    rintro e w1 ⟨rfl, k1⟩
    go_wp2
    go_ret
    exact ⟨rfl, k1⟩
  have b1 : 1 ≤ nn := by omega
  have b2 : nn ≤ 8 := by omega
  have b3 : m ≤ 100 := by omega
  clear g1 hm
  obtain ⟨N, rfl⟩ : ∃ N : Nat, nn = N := ⟨nn.toNat, by omega⟩
  have hN1 : 1 ≤ N := by omega
  have hN8 : N ≤ 8 := by omega
  go_enter Try.func3, Try.ntmps3
  go_wp2_with fail
  refine (small_any _).mono ?_
  rintro e w1 ⟨rfl, k1⟩
  go_wp2_with fail
  refine (mmw_new _ (N : Int) (by omega)).mono ?_
  rintro e w2 ⟨p, rfl, h2⟩
  have I0 : BI w _ p _ _ 0 N [] (mm0 N) (fun _ => false) (fun _ => false) := ⟨BW.new (by
    obtain ⟨F, g1, g2, g3⟩ := h2
    rw [Int.toNat_natCast] at g1
    exact ⟨F, g1, k1.trans g2 (by simp), fun g hg => Nat.le_trans k1.size (g3 g hg)⟩), MI.zero hN8, Coh.zero N, fun q hq => ⟨rfl, rfl⟩, by simp [mm0]⟩
  clear k1 h2
  have hmk := make_tab
  go_wp2_with (rw [hmk])
  go_loopw [9] (fun i wr => ∃ (k : Nat) (ks : List Int) (s : Mm) (ac di : Nat → Bool), k ≤ m ∧ i = .int .i64 k ∧ BI w wr p w2.heap.size (w2.heap.size + 1) k N ks s ac di) (fun i _ => m - (intOf i).toNat)
  case atStart => exact ⟨0, [], _, _, _, by omega, rfl, I0⟩
  case round =>
    clear I0 hmk
    obtain ⟨i, ks, s, ac, di, hi, rfl, I⟩ := hrel
    by_cases hlt : i < m
    rotate_left
    · obtain rfl : i = m := by omega
      go_wp2
      go_ret
      exact ⟨rfl, I.b.keeps⟩
    obtain ⟨bl, off, rfl, O⟩ := hA (by omega)
    clear hA
    generalize w2.heap.size = gA at *
    obtain ⟨gD, hgD⟩ : ∃ gD, gD = gA + 1 := ⟨_, rfl⟩
    rw [← hgD] at I ⊢
    clear hgD
    have O1 := O.keep I.b.keeps
    have wf := O.wf i hlt
    obtain ⟨o, ho⟩ : ∃ o, o = f i := ⟨_, rfl⟩
    have q0 := O1.c0 i hlt
    have q1 := O1.c1 i hlt
    have q2 := O1.c2 i hlt
    have q3 := O1.c3 i hlt
    have q4 := O1.c4 i hlt
    have q5 := O1.c5 i hlt
    rw [← ho] at q0 q1 q2 q3 q4 q5 wf
    have HI := Lib.hid I
    have HWF := Lib.hid wf
    have HO := Lib.hid O
    clear I O O1 wf ho
    go_wp2_with fail
    refine (pick256 _ _).mono ?_
    rintro e w6 ⟨rfl, rfl⟩
    obtain ⟨q, hq⟩ : ∃ q : Nat, o.pg % 256 = q := ⟨(o.pg % 256).toNat, by omega⟩
    have hq2 : q < 256 := by omega
    rw [hq]
    clear hq
    go_wp2_with fail
    have kx : Keeps [] wr (wr.alloc (.cells #[.int .i64 o.d, .int .i64 o.cpu, .int .i64 5, .int .i64 q, .int .i64 o.fr, .bool o.wr] 28)) := (Keeps.refl _ _).alloc _
    have bx := Blk.new wr 28 #[.int .i64 o.d, .int .i64 o.cpu, .int .i64 5, .int .i64 q, .int .i64 o.fr, .bool o.wr]
    have hN2 : 2 * i ≤ 1000 := by omega
    have HWT : Hid (opT o q).Wf := Lib.hid (opT_wf HWF.out hq2)
    have hd := HI.out.b.do_ kx HI.out.m hN2 (opT o q) HWT.out
    have HBX := Lib.hid bx
    have HD := Lib.hid hd
    unfold Op.v at HD
    have E1 : (opT o q).d = o.d := rfl
    have E2 : (opT o q).cpu = o.cpu := rfl
    have E3 : (opT o q).x = 5 := rfl
    have E4 : (opT o q).pg = q := rfl
    have E5 : (opT o q).fr = o.fr := rfl
    have E6 : (opT o q).wr = o.wr := rfl
    rw [E1, E2, E3, E4, E5, E6] at HD
    clear E1 E2 E3 E4 E5 E6
    clear hd bx kx hN2 q0 q1 q2 q3 q4 q5
    refine HD.out.mono ?_
    rintro e w5 ⟨v, rfl, ov, b5, hb5⟩
    have x5 := hb5 _ _ _ HBX.out (Nat.le_refl _)
    have z0 := x5.cell 0
    have HX5 := Lib.hid x5
    have HB5 := Lib.hid b5
    have HOV := Lib.hid ov
    clear x5 b5 hb5 ov HD HBX
    go_wp2_with fail
    refine (pick8 _ _).mono ?_
    rintro e w6x ⟨rfl, rfl⟩
    clear z0
    obtain ⟨A5, cap5, hv5, -, -, -⟩ := own_shape HOV.out
    subst hv5
    obtain ⟨lu, hlu⟩ : ∃ lu, lu = (opL s (opT o q)).length := ⟨_, rfl⟩
    have HCNT : Unit → lu = cntB (fun p => takes (opT o q) (acS s (opT o q) ac p)) 256 := fun _ => hlu.trans (bits_count (o := opT o q) rfl HI.out.k)
    rw [← hlu]
    clear hlu HOV
    obtain ⟨rb, hrb⟩ : ∃ rb, rb = opB s (opT o q) := ⟨_, rfl⟩
    rw [← hrb]
    have HRB := Lib.hid hrb
    clear hrb
    obtain ⟨t, ht⟩ : ∃ t, t = (decide (o.d % 8 < 3) && (rb == 1)) := ⟨_, rfl⟩
    have htt : t = true ↔ (o.d % 8 < 3 ∧ rb = 1) := by rw [ht]; simp
    have HT := Lib.hid htt
    have HT0 := Lib.hid ht
    clear htt ht
    go_upto_region 17 with fail
    go_cut [68] from 38 to 187 (fun v wc => v = .bool t ∧ wc = w5)
    case first =>
      by_cases h3a : o.d % 8 < 3
      · have e1 : decide (o.d % 8 < 3) = true := decide_eq_true h3a
        cases h3b : (rb == 1) with
        | true =>
          have HX := Lib.hid (show t = true by rw [HT0.out, e1, h3b]; rfl)
          clear HT HT0 e1
          go_wp2_with fail
          go_meet
          case rel => rw [HX.out]; exact ⟨rfl, rfl⟩
        | false =>
          have HX := Lib.hid (show t = false by rw [HT0.out, e1, h3b]; rfl)
          clear HT HT0 e1
          go_wp2_with fail
          go_meet
          case rel => rw [HX.out]; exact ⟨rfl, rfl⟩
      · have HX := Lib.hid (show t = false by rw [HT0.out, decide_eq_false h3a]; rfl)
        clear HT HT0
        go_wp2_with fail
        go_meet
        case rel => rw [HX.out]; exact ⟨rfl, rfl⟩
    case rest =>
    obtain ⟨rfl, rfl⟩ := hcut
    clear HT0
    go_upto_if 68 with fail
    go_cut [] from 38 to 187 (fun wc => BW w wc p gA gD (s.op (opT o q)) (if o.d % 8 < 3 ∧ rb = 1 then updB ac q true else ac) (if o.d % 8 < 3 ∧ rb = 1 then updB di q (di q || o.wr) else di) ∧ Blk wc wr.heap.size 28 #[.int .i64 o.d, .int .i64 o.cpu, .int .i64 5, .int .i64 q, .int .i64 o.fr, .bool o.wr])
    case first =>
      cases t with
      | true =>
        have h3c := Lib.hid (HT.out.1 rfl)
        clear HT
        have y3 : wc.cell? ⟨wr.heap.size, 3, none⟩ = some (.int .i64 q) := HX5.out.cell 3
        have y5 : wc.cell? ⟨wr.heap.size, 5, none⟩ = some (.bool o.wr) := HX5.out.cell 5
        have ya := HB5.out.ta.cell hq2
        have yf := HB5.out.ta.frozen q
        have yd := HB5.out.td.cell hq2
        have yg := HB5.out.td.frozen q
        have yl : (0 : Int) ≤ q := by omega
        have ym : (q : Int) < 256 := by omega
        go_upto_region 19 with fail
        have b7 := HB5.out.setA q true
        have x7 := HX5.out.far (p := ⟨gA, q, none⟩) (HB5.out.apart HX5.out (by decide)).1 (.bool true)
        generalize wc.setCell ⟨gA, q, none⟩ (.bool true) = w7 at *
        clear ya yf yd yg y3 y5
        have y3 : w7.cell? ⟨wr.heap.size, 3, none⟩ = some (.int .i64 q) := x7.cell 3
        have y5 : w7.cell? ⟨wr.heap.size, 5, none⟩ = some (.bool o.wr) := x7.cell 5
        have yd := b7.td.cell hq2
        have yg := b7.td.frozen q
        have HB7 := Lib.hid b7
        have HX7 := Lib.hid x7
        clear b7 x7 HB5 HX5
        refine reg19_any w7 o.d o.cpu 5 o.fr q gD wr.heap.size o.wr di _ hq2 HB7.out.td HX7.out _ _ _ _ _ _ _ _ _ _ _ _ _ _ _ _ _ _ _ _ _ _ _ _ _ _ _ _ _ _ _ _ _ _ _ _ _ _ _ _ _ _ _ _ _ _ _ _ _ _ _ _ _ _ _ _ _ _ _ _ _ _ _ _ _ _ _ _ _ _ _ _ _ _ _ _ _ _ _ _ _ _ _ _ _ _ _ _ _ _ _ _ _ _ _ _ _ _ _ _ _ _ _ _ _ _ _ _ _ _ _ _ _ _ _ _ _ _ _ _ _ _ _ _ _ _ _ _ _ _ _ _ _ _ _ _ _ _ _ _ _ _ _ _ _ _ _ _ _ _ _ _ _ _ _ _ _ _ _ _ _ _ _ _ _ _ _ _ _ _ _ _ _ _ _ _ _ _ _ _ _ _ _ _ _ _ _ ?_
        intro v73 v74 v75 v76 v77 v78 v79 v80 v81 v82 v83 v84 v85
        have b8 := (HB7.out.same ((Keeps.refl [] _).drew)).setD q (di q || o.wr)
        have x8 := ((HX7.out.keep ((Keeps.refl [] _).drew) (by simp)).far (p := ⟨gD, q, none⟩) (HB7.out.apart HX7.out (by decide)).2 (.bool (di q || o.wr)))
        generalize w7.drew.setCell ⟨gD, q, none⟩ (.bool (di q || o.wr)) = w8 at *
        have HB8 := Lib.hid b8
        have HX8 := Lib.hid x8
        clear b8 x8 HB7 HX7 y3 y5 yd yg
        go_wp2_with fail
        go_meet
        case rel => rw [if_pos h3c.out, if_pos h3c.out]; exact ⟨HB8.out, HX8.out⟩
      | false =>
        have h3c := Lib.hid (show ¬ (o.d % 8 < 3 ∧ rb = 1) from fun h => by have := HT.out.2 h; cases this)
        clear HT
        go_wp2_with fail
        go_meet
        case rel => rw [if_neg h3c.out, if_neg h3c.out]; exact ⟨HB5.out, HX5.out⟩
    case rest =>
      obtain ⟨b6, x6⟩ := hcut
      obtain ⟨w6, hw6⟩ : ∃ x, x = wc := ⟨_, rfl⟩
      rw [← hw6] at b6 x6 ⊢
      clear hw6
      have HB6 := Lib.hid b6
      have HX6 := Lib.hid x6
      clear b6 x6 HX5 HB5
      obtain ⟨ac1, hac1⟩ : ∃ a, a = (if o.d % 8 < 3 ∧ rb = 1 then updB ac q true else ac) := ⟨_, rfl⟩
      obtain ⟨di1, hdi1⟩ : ∃ a, a = (if o.d % 8 < 3 ∧ rb = 1 then updB di q (di q || o.wr) else di) := ⟨_, rfl⟩
      have hA := acS_mid (s := s) (o := opT o q) (ac := ac) (q := q) rfl HRB.out
      have hD := diS_mid (s := s) (o := opT o q) (di := di) (q := q) rfl HRB.out
      have E1 : (opT o q).d = o.d := rfl
      have E5 : (opT o q).fr = o.fr := rfl
      have E6 : (opT o q).wr = o.wr := rfl
      rw [E1, E5, ← hac1] at hA
      rw [E1, E5, E6, ← hdi1] at hD
      rw [← hac1, ← hdi1] at HB6
      clear E1 E5 E6 hac1 hdi1
      have HA := Lib.hid hA
      have HD := Lib.hid hD
      clear hA hD
      obtain ⟨r, hr, hr0⟩ : ∃ r : Int, o.d % 8 = r ∧ 0 ≤ r := ⟨_, rfl, by omega⟩
      rw [hr] at HA HD ⊢
      have HR := Lib.hid hr
      clear hr
      obtain ⟨t2, ht2⟩ : ∃ t2, t2 = (r == 3 || r == 4) := ⟨_, rfl⟩
      have htt : t2 = true ↔ (r = 3 ∨ r = 4) := by rw [ht2]; simp
      have HT := Lib.hid htt
      have HT0 := Lib.hid ht2
      clear htt ht2
      go_upto_region 20 with fail
      go_cut [91] from 38 to 187 (fun v wc => v = .bool t2 ∧ wc = w6)
      case first =>
        cases h3 : (r == 3) with
        | true =>
          have HX := Lib.hid (show t2 = true by rw [HT0.out, h3]; rfl)
          clear HT HT0
          go_wp2_with fail
          go_meet
          case rel => rw [HX.out]; exact ⟨rfl, rfl⟩
        | false =>
          cases h4 : (r == 4) with
          | true =>
            have HX := Lib.hid (show t2 = true by rw [HT0.out, h3, h4]; rfl)
            clear HT HT0
            go_wp2_with fail
            go_meet
            case rel => rw [HX.out]; exact ⟨rfl, rfl⟩
          | false =>
            have HX := Lib.hid (show t2 = false by rw [HT0.out, h3, h4]; rfl)
            clear HT HT0
            go_wp2_with fail
            go_meet
            case rel => rw [HX.out]; exact ⟨rfl, rfl⟩
      case rest =>
      obtain ⟨rfl, hwc⟩ := hcut
      rw [hwc]
      clear HT0 hwc
      go_upto_if 91 with fail
      go_cut [] from 38 to 187 (fun wc => BW w wc p gA gD (s.op (opT o q)) (acS s (opT o q) ac) (diS s (opT o q) di) ∧ Blk wc wr.heap.size 28 #[.int .i64 o.d, .int .i64 o.cpu, .int .i64 5, .int .i64 q, .int .i64 o.fr, .bool o.wr])
      case first =>
        cases t2 with
        | true =>
            have HA1 := Lib.hid (HA.out.1 (HT.out.1 rfl))
            have HD1 := Lib.hid (HD.out.1 (HT.out.1 rfl))
            clear HA HD HT
            go_upto_region 21 with fail
            refine reg21_any w6 o.d o.cpu 5 o.fr q gA wr.heap.size o.wr ac1 _ hq2 HB6.out.ta HX6.out _ _ _ _ _ _ _ _ _ _ _ _ _ _ _ _ _ _ _ _ _ _ _ _ _ _ _ _ _ _ _ _ _ _ _ _ _ _ _ _ _ _ _ _ _ _ _ _ _ _ _ _ _ _ _ _ _ _ _ _ _ _ _ _ _ _ _ _ _ _ _ _ _ _ _ _ _ _ _ _ _ _ _ _ _ _ _ _ _ _ _ _ _ _ _ _ _ _ _ _ _ _ _ _ _ _ _ _ _ _ _ _ _ _ _ _ _ _ _ _ _ _ _ _ _ _ _ _ _ _ _ _ _ _ _ _ _ _ _ _ _ _ _ _ _ _ _ _ _ _ _ _ _ _ _ _ _ _ _ _ _ _ _ _ _ _ _ _ _ _ _ _ _ _ _ _ _ _ _ _ _ _ _ _ _ _ _ ?_
            intro v92 v93 v94 v95 v96 v97 v98 v99 v100 v101 v102 v103 v104 v105
            have b8 := (HB6.out.same ((Keeps.refl [] _).drew)).setA q (ac1 q && decide (o.fr < 0))
            have x8 := ((HX6.out.keep ((Keeps.refl [] _).drew) (by simp)).far (p := ⟨gA, q, none⟩) (HB6.out.apart HX6.out (by decide)).1 (.bool (ac1 q && decide (o.fr < 0))))
            generalize w6.drew.setCell ⟨gA, q, none⟩ (.bool (ac1 q && decide (o.fr < 0))) = w8 at *
            have HB8 := Lib.hid b8
            have HX8 := Lib.hid x8
            clear b8 x8 HB6 HX6
            go_upto_region 22 with fail
            refine reg22_any w8 o.d o.cpu 5 o.fr q gD wr.heap.size o.wr di1 _ hq2 HB8.out.td HX8.out _ _ _ _ _ _ _ _ _ _ _ _ _ _ _ _ _ _ _ _ _ _ _ _ _ _ _ _ _ _ _ _ _ _ _ _ _ _ _ _ _ _ _ _ _ _ _ _ _ _ _ _ _ _ _ _ _ _ _ _ _ _ _ _ _ _ _ _ _ _ _ _ _ _ _ _ _ _ _ _ _ _ _ _ _ _ _ _ _ _ _ _ _ _ _ _ _ _ _ _ _ _ _ _ _ _ _ _ _ _ _ _ _ _ _ _ _ _ _ _ _ _ _ _ _ _ _ _ _ _ _ _ _ _ _ _ _ _ _ _ _ _ _ _ _ _ _ _ _ _ _ _ _ _ _ _ _ _ _ _ _ _ _ _ _ _ _ _ _ _ _ _ _ _ _ _ _ _ _ _ _ _ _ _ _ _ _ ?_
            intro v106 v107 v108 v109 v110 v111 v112 v113 v114 v115 v116 v117 v118 v119
            have b9 := (HB8.out.same ((Keeps.refl [] _).drew)).setD q (di1 q && decide (o.fr < 0))
            have x9 := ((HX8.out.keep ((Keeps.refl [] _).drew) (by simp)).far (p := ⟨gD, q, none⟩) (HB8.out.apart HX8.out (by decide)).2 (.bool (di1 q && decide (o.fr < 0))))
            generalize w8.drew.setCell ⟨gD, q, none⟩ (.bool (di1 q && decide (o.fr < 0))) = w9 at *
            have HB9 := Lib.hid b9
            have HX9 := Lib.hid x9
            clear b9 x9 HB8 HX8
            go_wp2_with fail
            go_meet
            case rel => rw [HA1.out, HD1.out]; exact ⟨HB9.out, HX9.out⟩
        | false =>
          have h34 : ¬ (r = 3 ∨ r = 4) := fun h => by have := HT.out.2 h; cases this
          have HA1 := Lib.hid (HA.out.2 ⟨hr0, h34⟩)
          have HD1 := Lib.hid (HD.out.2 ⟨hr0, h34⟩)
          clear HA HD HT h34
          go_wp2_with fail
          go_meet
          case rel => rw [HA1.out, HD1.out]; exact ⟨HB6.out, HX6.out⟩
      case rest =>
        obtain ⟨b7, x7⟩ := hcut
        obtain ⟨w7, hw7⟩ : ∃ x, x = wc := ⟨_, rfl⟩
        rw [← hw7] at b7 x7 ⊢
        clear hw7 HA HD HT
        have hlaw := bits_law HI.out.c (o := opT o q) rfl ⟨by show (0 : Int) ≤ q; omega, by show (q : Int) < 256; omega⟩ HI.out.k
        obtain ⟨s', hs'⟩ : ∃ s', s' = s.op (opT o q) := ⟨_, rfl⟩
        obtain ⟨a7, ha7⟩ : ∃ a, a = acS s (opT o q) ac := ⟨_, rfl⟩
        obtain ⟨d7, hd7⟩ : ∃ a, a = diS s (opT o q) di := ⟨_, rfl⟩
        rw [← hs', ← ha7, ← hd7] at b7
        rw [← ha7] at HCNT
        have HLAW : Hid (∀ n, n < 256 → ((if takes (opT o q) (a7 n) then false else a7 n) && (s'.tab 5 n).isSome) = acO (s'.tab 5 n) ∧ (d7 n && (s'.tab 5 n).isSome) = diO (s'.tab 5 n)) := Lib.hid (by
          rw [hs', ha7, hd7]; exact hlaw)
        have HS := Lib.hid hs'
        clear hlaw hs' ha7 hd7
        have HB7 := Lib.hid b7
        have HX7 := Lib.hid x7
        clear b7 x7 HB6 HX6
        obtain ⟨wo, hwo⟩ : ∃ wo : World, wo = wr := ⟨_, rfl⟩
        rw [← hwo] at HX7 HI ⊢
        clear hwo
        go_wp2_with fail
        go_loopw [15, 16] (fun cv pv wq => ∃ n : Nat, n ≤ 256 ∧ pv = .int .i64 n ∧ cv = .int .i64 (cntB (fun p => takes (opT o q) (a7 p)) n : Nat) ∧ BW w wq p gA gD s' (accT (opT o q) (s'.tab 5) a7 n) (dirT (s'.tab 5) d7 n) ∧ Blk wq wo.heap.size 28 #[.int .i64 o.d, .int .i64 o.cpu, .int .i64 5, .int .i64 q, .int .i64 o.fr, .bool o.wr]) (fun _ pv _ => 256 - (intOf pv).toNat)
        case atStart => exact ⟨0, by omega, rfl, rfl, by rw [accT_zero, dirT_zero]; exact HB7.out, HX7.out⟩
        case round =>
          clear HB7 HX7
          obtain ⟨n, hn, rfl, rfl, bq, xq⟩ := hrel
          have HBQ := Lib.hid bq
          have HXQ := Lib.hid xq
          clear bq xq
          by_cases hlt2 : n < 256
          rotate_left
          · obtain rfl : n = 256 := by omega
            rw [← HCNT ()]
            clear HCNT
            have hb : ∃ ac' di', BI w wr p gA gD (i + 1) N (addK ks 5) s' ac' di' := ⟨_, _, HI.out.next HWT.out rfl HS.out HBQ.out (fun n hn => by
              have := HLAW.out n hn
              unfold accT dirT
              rw [if_pos hn, if_pos hn]
              exact this)⟩
            obtain ⟨ac', di', hbi⟩ := hb
            have HBI := Lib.hid hbi
            clear hbi HBQ HXQ HLAW HS HI HWF HWT
            have tf : ((lu : Int) != lu) = false := by simp
            go_wp2_with fail
            go_roundw
            case rel => exact ⟨i + 1, _, _, _, _, by omega, by go_num, HBI.out⟩
            case measure => simp [intOf]; omega
          · obtain ⟨ea, eb, ec, hl⟩ := HBQ.out.look_ hlt2
            have HLK := Lib.hid hl
            clear hl
            obtain ⟨ac0, hac0⟩ : ∃ b, b = acO (s'.tab 5 n) := ⟨_, rfl⟩
            obtain ⟨di0, hdi0⟩ : ∃ b, b = diO (s'.tab 5 n) := ⟨_, rfl⟩
            obtain ⟨tn, htn⟩ : ∃ b, b = (s'.tab 5 n).isSome := ⟨_, rfl⟩
            have hlw := HLAW.out n hlt2
            rw [← hac0, ← hdi0, ← htn] at hlw
            have HLW := Lib.hid hlw
            rw [← hac0, ← hdi0, ← htn] at HLK
            have HTN := Lib.hid htn
            have hle := cntB_le (fun p => takes (opT o q) (a7 p)) n
            have hsu := cntB_succ (fun p => takes (opT o q) (a7 p)) n
            obtain ⟨cn, hcn⟩ : ∃ c, c = cntB (fun p => takes (opT o q) (a7 p)) n := ⟨_, rfl⟩
            rw [← hcn] at hle hsu ⊢
            have HSU := Lib.hid hsu
            clear hlw hac0 hdi0 htn hcn hsu
            go_wp2_with fail
            refine HLK.out.mono ?_
            rintro e w8 ⟨rfl, k8⟩
            have b8 := HBQ.out.same k8
            have x8 := HXQ.out.keep k8 (by simp)
            have HB8 := Lib.hid b8
            have HX8 := Lib.hid x8
            clear b8 x8 HBQ HXQ HLK k8
            obtain ⟨t3, ht3⟩ : ∃ t3, t3 = takes (opT o q) (a7 n) := ⟨_, rfl⟩
            have hb0 : accT (opT o q) (s'.tab 5) a7 n n = a7 n := accT_now _ _ _ _
            have HB0 := Lib.hid hb0
            have ht4 : t3 = (decide (r = 7) && !o.wr && a7 n) := by rw [ht3, ← HR.out]; rfl
            have HT3 := Lib.hid ht3
            have HT4 := Lib.hid ht4
            clear ht3 ht4 hb0
            go_upto_region 28 with fail
            obtain ⟨xb, hxb⟩ : ∃ x, x = w8.heap.size := ⟨_, rfl⟩
            have bx := Blk.new w8 34 #[.int .i64 ea, .int .i64 eb, .bool ec, .bool ac0, .bool di0]
            have kx : Keeps [] w8 (w8.alloc (.cells #[.int .i64 ea, .int .i64 eb, .bool ec, .bool ac0, .bool di0] 34)) := (Keeps.refl _ _).alloc _
            have b9 := HB8.out.same kx
            have x9 := HX8.out.keep kx (by simp)
            rw [← hxb] at bx ⊢
            generalize w8.alloc (.cells #[.int .i64 ea, .int .i64 eb, .bool ec, .bool ac0, .bool di0] 34) = w9 at *
            clear hxb kx HB8 HX8
            have HB9 := Lib.hid b9
            have HX9 := Lib.hid x9
            have HE9 := Lib.hid bx
            clear b9 x9 bx
            go_cut [142] from 120 to 183 (fun v wc => v = .bool t3 ∧ wc = w9)
            case first =>
              have y5 := HX9.out.cell 5
              have ya := HB9.out.ta.cell hlt2
              rw [HB0.out] at ya
              have j1 : (0 : Int) ≤ n := by omega
              have j2 : (n : Int) < 256 := by omega
              by_cases h7 : r = 7
              · cases hw : o.wr with
                | true =>
                  have HX := Lib.hid (show t3 = false by rw [HT4.out, hw]; simp)
                  rw [hw] at y5
                  clear hw HT3 HT4
                  go_wp2_with fail
                  go_meet
                  case rel => rw [HX.out]; exact ⟨rfl, rfl⟩
                | false =>
                  cases ha : a7 n with
                  | true =>
                    have HX := Lib.hid (show t3 = true by rw [HT4.out, hw, ha, decide_eq_true h7]; rfl)
                    rw [hw] at y5
                    rw [ha] at ya
                    clear hw ha HT3 HT4
                    go_wp2_with fail
                    go_meet
                    case rel => rw [HX.out]; exact ⟨rfl, rfl⟩
                  | false =>
                    have HX := Lib.hid (show t3 = false by rw [HT4.out, ha]; simp)
                    rw [hw] at y5
                    rw [ha] at ya
                    clear hw ha HT3 HT4
                    go_wp2_with fail
                    go_meet
                    case rel => rw [HX.out]; exact ⟨rfl, rfl⟩
              · have HX := Lib.hid (show t3 = false by rw [HT4.out, decide_eq_false h7]; simp)
                have h7b : (r == 7) = false := by simpa using h7
                clear HT3 HT4
                go_wp2_with fail
                go_meet
                case rel => rw [HX.out]; exact ⟨rfl, rfl⟩
            case rest =>
            obtain ⟨rfl, hwc⟩ := hcut
            rw [hwc]
            clear HT4 hwc
            obtain ⟨b1, hb1⟩ : ∃ b, b = (if t3 then false else a7 n) := ⟨_, rfl⟩
            have HB1 := Lib.hid hb1
            clear hb1
            have hlw := HLW.out
            rw [← HT3.out, ← HB1.out] at hlw
            have HLW2 := Lib.hid hlw
            have hsu := HSU.out
            rw [← HT3.out] at hsu
            have HSU2 := Lib.hid hsu
            clear hlw hsu HLW
            go_upto_if 142 with fail
            go_cut [15] from 120 to 183 (fun c wc => c = .int .i64 (cntB (fun p => takes (opT o q) (a7 p)) (n + 1) : Nat) ∧ BW w wc p gA gD s' (updB (accT (opT o q) (s'.tab 5) a7 n) n b1) (dirT (s'.tab 5) d7 n) ∧ Blk wc wo.heap.size 28 #[.int .i64 o.d, .int .i64 o.cpu, .int .i64 5, .int .i64 q, .int .i64 o.fr, .bool o.wr] ∧ Blk wc xb 34 #[.int .i64 ea, .int .i64 eb, .bool ec, .bool ac0, .bool di0])
            case first =>
              have yf := HB9.out.ta.frozen n
              have ya := HB9.out.ta.cell hlt2
              have j1 : (0 : Int) ≤ n := by omega
              have j2 : (n : Int) < 256 := by omega
              cases t3 with
              | true =>
                have HX := Lib.hid (show b1 = false by rw [HB1.out]; rfl)
                clear HT3 HB1
                go_wp2_with fail
                go_meet
                case rel =>
                  rw [HSU2.out, HX.out]
                  exact ⟨by go_num, HB9.out.setA n false, HX9.out.far (p := ⟨gA, n, none⟩) (HB9.out.apart HX9.out (by decide)).1 _, HE9.out.far (p := ⟨gA, n, none⟩) (HB9.out.apart HE9.out (by decide)).1 _⟩
              | false =>
                have HX := Lib.hid (show b1 = a7 n by rw [HB1.out]; rfl)
                clear HT3 HB1
                go_wp2_with fail
                go_meet
                case rel =>
                  rw [HSU2.out, HX.out]
                  refine ⟨rfl, ?_, HX9.out, HE9.out⟩
                  have e := updB_self (accT (opT o q) (s'.tab 5) a7 n) n
                  rw [HB0.out] at e
                  rw [e]
                  exact HB9.out
            case rest =>
            obtain ⟨rfl, b10, x10, e10⟩ := hcut
            obtain ⟨w10, hw10⟩ : ∃ x, x = wc := ⟨_, rfl⟩
            rw [← hw10] at b10 x10 e10 ⊢
            obtain ⟨cn2, hcn2⟩ : ∃ c, c = cntB (fun p => takes (opT o q) (a7 p)) (n + 1) := ⟨_, rfl⟩
            rw [← hcn2]
            have HCN2 := Lib.hid hcn2
            clear hw10 hcn2 HSU HSU2
            have ya := b10.ta.cell hlt2
            have yf := b10.ta.frozen n
            rw [show updB (accT (opT o q) (s'.tab 5) a7 n) n b1 n = b1 by unfold updB; rw [if_pos rfl]] at ya
            have b11 := b10.setA n (b1 && tn)
            have x11 := x10.far (p := ⟨gA, n, none⟩) (b10.apart x10 (by decide)).1 (.bool (b1 && tn))
            have e11 := e10.far (p := ⟨gA, n, none⟩) (b10.apart e10 (by decide)).1 (.bool (b1 && tn))
            rw [updB_twice] at b11
            have hfa : updB (accT (opT o q) (s'.tab 5) a7 n) n (b1 && tn) = accT (opT o q) (s'.tab 5) a7 (n + 1) := by
              rw [HB1.out, HT3.out, HTN.out]; exact accT_succ _ _ _ _
            have hfd : updB (dirT (s'.tab 5) d7 n) n (d7 n && tn) = dirT (s'.tab 5) d7 (n + 1) := by
              rw [HTN.out]; exact dirT_succ _ _ _
            have hga : ac0 = accT (opT o q) (s'.tab 5) a7 (n + 1) n := by
              rw [← hfa]; unfold updB; rw [if_pos rfl]; exact HLW2.out.1.symm
            have hgd : di0 = dirT (s'.tab 5) d7 (n + 1) n := by
              rw [← hfd]; unfold updB; rw [if_pos rfl]; exact HLW2.out.2.symm
            rw [hfa] at b11
            rw [hga, hgd] at e11
            obtain ⟨dn, hdn⟩ : ∃ d, d = d7 n := ⟨_, rfl⟩
            have hdd : dirT (s'.tab 5) d7 n n = dn := by rw [dirT_now, hdn]
            rw [← hdn] at hfd
            have HFD := Lib.hid hfd
            have HDD := Lib.hid hdd
            have HB11 := Lib.hid b11
            have HX11 := Lib.hid x11
            have HE11 := Lib.hid e11
            clear b10 x10 e10 b11 x11 e11 hfa hfd hga hgd HB1 HT3 HTN HLW2 HB9 HX9 HE9 HB0 hdn hdd
            have j1 : (0 : Int) ≤ n := by omega
            have j2 : (n : Int) < 256 := by omega
            cases b1 with
            | true =>
              rw [Bool.true_and] at HB11 HX11 HE11
              go_upto_region 32 with fail
              generalize w10.setCell ⟨gA, n, none⟩ (.bool tn) = w11 at *
              clear ya yf
              have yd := HB11.out.td.cell hlt2
              have yg := HB11.out.td.frozen n
              rw [HDD.out] at yd
              have b12 := HB11.out.setD n (dn && tn)
              have x12 := HX11.out.far (p := ⟨gD, n, none⟩) (HB11.out.apart HX11.out (by decide)).2 (.bool (dn && tn))
              have e12 := HE11.out.far (p := ⟨gD, n, none⟩) (HB11.out.apart HE11.out (by decide)).2 (.bool (dn && tn))
              rw [HFD.out] at b12
              have HB12 := Lib.hid b12
              have HX12 := Lib.hid x12
              have HE12 := Lib.hid e12
              clear HB11 HX11 HE11 b12 x12 e12 HFD HDD
              cases dn with
              | true =>
                rw [Bool.true_and] at HB12 HX12 HE12
                go_upto_region 33 with fail
                refine reg33_any _ n gA gD xb _ _ _ _ _ _ hlt2 HB12.out.ta HB12.out.td HE12.out _ _ _ _ _ _ _ _ _ _ _ _ _ _ _ _ _ _ _ _ _ _ _ _ _ _ _ _ _ _ _ _ _ _ _ _ _ _ _ _ _ _ _ _ _ _ _ _ _ _ _ _ _ _ _ _ _ _ _ _ _ _ _ _ _ _ _ _ _ _ _ _ _ _ _ _ _ _ _ _ _ _ _ _ _ _ _ _ _ _ _ _ _ _ _ _ _ _ _ _ _ _ _ _ _ _ _ _ _ _ _ _ _ _ _ _ _ _ _ _ _ _ _ _ _ _ _ _ _ _ _ _ _ _ _ _ _ _ _ _ _ _ _ _ _ _ _ _ _ _ _ _ _ _ _ _ _ _ _ _ _ _ _ _ _ _ _ _ _ _ _ _ _ _ _ _ _ _ _ _ _ _ _ _ _ ?_
                intro v168 v169 v170 v171 v172 v173 v174 v175 v176 v177 v178 v179 v180 v181 v182 nq
                go_wp2_with fail
                go_roundw
                case rel => exact ⟨n + 1, by omega, by go_num, by rw [HCN2.out], HB12.out.same ((Keeps.refl [] _).drewN _), HX12.out.keep ((Keeps.refl [] _).drewN _) (by simp)⟩
                case measure => simp [intOf]; omega
              | false =>
                rw [Bool.false_and] at HB12 HX12 HE12
                go_upto_region 33 with fail
                refine reg33_any _ n gA gD xb _ _ _ _ _ _ hlt2 HB12.out.ta HB12.out.td HE12.out _ _ _ _ _ _ _ _ _ _ _ _ _ _ _ _ _ _ _ _ _ _ _ _ _ _ _ _ _ _ _ _ _ _ _ _ _ _ _ _ _ _ _ _ _ _ _ _ _ _ _ _ _ _ _ _ _ _ _ _ _ _ _ _ _ _ _ _ _ _ _ _ _ _ _ _ _ _ _ _ _ _ _ _ _ _ _ _ _ _ _ _ _ _ _ _ _ _ _ _ _ _ _ _ _ _ _ _ _ _ _ _ _ _ _ _ _ _ _ _ _ _ _ _ _ _ _ _ _ _ _ _ _ _ _ _ _ _ _ _ _ _ _ _ _ _ _ _ _ _ _ _ _ _ _ _ _ _ _ _ _ _ _ _ _ _ _ _ _ _ _ _ _ _ _ _ _ _ _ _ _ _ _ _ _ ?_
                intro v168 v169 v170 v171 v172 v173 v174 v175 v176 v177 v178 v179 v180 v181 v182 nq
                go_wp2_with fail
                go_roundw
                case rel => exact ⟨n + 1, by omega, by go_num, by rw [HCN2.out], HB12.out.same ((Keeps.refl [] _).drewN _), HX12.out.keep ((Keeps.refl [] _).drewN _) (by simp)⟩
                case measure => simp [intOf]; omega
            | false =>
              rw [Bool.false_and] at HB11 HX11 HE11
              go_upto_region 32 with fail
              generalize w10.setCell ⟨gA, n, none⟩ (.bool false) = w11 at *
              clear ya yf
              have yd := HB11.out.td.cell hlt2
              have yg := HB11.out.td.frozen n
              rw [HDD.out] at yd
              have b12 := HB11.out.setD n (dn && tn)
              have x12 := HX11.out.far (p := ⟨gD, n, none⟩) (HB11.out.apart HX11.out (by decide)).2 (.bool (dn && tn))
              have e12 := HE11.out.far (p := ⟨gD, n, none⟩) (HB11.out.apart HE11.out (by decide)).2 (.bool (dn && tn))
              rw [HFD.out] at b12
              have HB12 := Lib.hid b12
              have HX12 := Lib.hid x12
              have HE12 := Lib.hid e12
              clear HB11 HX11 HE11 b12 x12 e12 HFD HDD
              cases dn with
              | true =>
                rw [Bool.true_and] at HB12 HX12 HE12
                go_upto_region 33 with fail
                refine reg33_any _ n gA gD xb _ _ _ _ _ _ hlt2 HB12.out.ta HB12.out.td HE12.out _ _ _ _ _ _ _ _ _ _ _ _ _ _ _ _ _ _ _ _ _ _ _ _ _ _ _ _ _ _ _ _ _ _ _ _ _ _ _ _ _ _ _ _ _ _ _ _ _ _ _ _ _ _ _ _ _ _ _ _ _ _ _ _ _ _ _ _ _ _ _ _ _ _ _ _ _ _ _ _ _ _ _ _ _ _ _ _ _ _ _ _ _ _ _ _ _ _ _ _ _ _ _ _ _ _ _ _ _ _ _ _ _ _ _ _ _ _ _ _ _ _ _ _ _ _ _ _ _ _ _ _ _ _ _ _ _ _ _ _ _ _ _ _ _ _ _ _ _ _ _ _ _ _ _ _ _ _ _ _ _ _ _ _ _ _ _ _ _ _ _ _ _ _ _ _ _ _ _ _ _ _ _ _ _ ?_
                intro v168 v169 v170 v171 v172 v173 v174 v175 v176 v177 v178 v179 v180 v181 v182 nq
                go_wp2_with fail
                go_roundw
                case rel => exact ⟨n + 1, by omega, by go_num, by rw [HCN2.out], HB12.out.same ((Keeps.refl [] _).drewN _), HX12.out.keep ((Keeps.refl [] _).drewN _) (by simp)⟩
                case measure => simp [intOf]; omega
              | false =>
                rw [Bool.false_and] at HB12 HX12 HE12
                go_upto_region 33 with fail
                refine reg33_any _ n gA gD xb _ _ _ _ _ _ hlt2 HB12.out.ta HB12.out.td HE12.out _ _ _ _ _ _ _ _ _ _ _ _ _ _ _ _ _ _ _ _ _ _ _ _ _ _ _ _ _ _ _ _ _ _ _ _ _ _ _ _ _ _ _ _ _ _ _ _ _ _ _ _ _ _ _ _ _ _ _ _ _ _ _ _ _ _ _ _ _ _ _ _ _ _ _ _ _ _ _ _ _ _ _ _ _ _ _ _ _ _ _ _ _ _ _ _ _ _ _ _ _ _ _ _ _ _ _ _ _ _ _ _ _ _ _ _ _ _ _ _ _ _ _ _ _ _ _ _ _ _ _ _ _ _ _ _ _ _ _ _ _ _ _ _ _ _ _ _ _ _ _ _ _ _ _ _ _ _ _ _ _ _ _ _ _ _ _ _ _ _ _ _ _ _ _ _ _ _ _ _ _ _ _ _ _ ?_
                intro v168 v169 v170 v171 v172 v173 v174 v175 v176 v177 v178 v179 v180 v181 v182 nq
                go_wp2_with fail
                go_roundw
                case rel => exact ⟨n + 1, by omega, by go_num, by rw [HCN2.out], HB12.out.same ((Keeps.refl [] _).drewN _), HX12.out.keep ((Keeps.refl [] _).drewN _) (by simp)⟩
                case measure => simp [intOf]; omega
end Go.Proofs.Yteognipfnbocpaa
