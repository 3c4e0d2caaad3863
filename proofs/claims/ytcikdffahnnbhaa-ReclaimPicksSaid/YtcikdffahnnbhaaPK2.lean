/- The walk of ReclaimPicks. -/
import Derived.Test.YtcikdffahnnbhaaPK1
import Derived.Test.YtcikdffahnnbhaaPK3
import Derived.Deep.CutRange
import Derived.Deep.CutBlock
namespace Go.Proofs.Ytcikdffahnnbhaa
open Go.RowKit

theorem mkQ_on {s : Ck} {mk : Nat → Bool} {n f k : Nat} (hl : s.L.length = n) (h : s.h < n) (hk : k < n) (ha : mk f = true ∨ k ≤ s.dist f) (x : Nat) (hx : x < n) :
    upB (mkP s mk f k) ((s.h + k) % n) false x = mkP s mk f (k + 1) x := by
  subst hl; exact mkP_on h hk ha hx
/-- What holds ahead of round k. -/
structure PInv (w wr : World) (F : List Nat) (p gb n k : Nat) (s : Ck) (mk : Nat → Bool) : Prop where
  m : Mk s mk n
  N : s.N ≤ 3 * k
  r : CkRep wr F p s
  b : Bools wr gb n mk
  kp : Keeps [] w wr
theorem PInv.hh {w wr : World} {F : List Nat} {p gb n k : Nat} {s : Ck} {mk : Nat → Bool} (h : PInv w wr F p gb n k s mk) : s.h < n := by have := ck_hlt h.r; have := h.m.1; omega

set_option maxRecDepth 100000 in
set_option maxHeartbeats 12800000 in
theorem picks_any (w : World) (nn : Int) (A : Option Addr) (m c : Nat) (d f o : Nat → Int) (hm : m ≤ 9223372036854775807)
    (hA : 0 < m → ∃ bl off, A = some ⟨bl, off, none⟩ ∧ ActsAt w bl off m d f o) :
    Calls Try.prog 5 #[.int .i64 nn, .slice A m c] w fun e w' => e = .returned (.bool true) ∧ Keeps [] w w' := by
  by_cases g1 : nn < 1 ∨ 40 < nn ∨ 150 < m
  · by_cases a1 : nn < 1
    · go_enter Try.func5, Try.ntmps5
      go_wp2_with fail
      refine (small_any _).mono ?_
      rintro e w1 ⟨rfl, k1⟩
      go_wp2
      go_ret
      exact ⟨rfl, k1⟩
    by_cases a2 : 40 < nn
    · go_enter Try.func5, Try.ntmps5
      go_wp2_with fail
      refine (small_any _).mono ?_
      rintro e w1 ⟨rfl, k1⟩
      go_wp2
      go_ret
      exact ⟨rfl, k1⟩
    have a3 : 150 < m := by omega
    clear g1
    go_enter Try.func5, Try.ntmps5
    go_wp2_with fail
    refine (small_any _).mono ?_
    rintro e w1 ⟨rfl, k1⟩
    go_wp2
    go_ret
    exact ⟨rfl, k1⟩
  have b1 : 1 ≤ nn := by omega
  have b2 : nn ≤ 40 := by omega
  have b3 : m ≤ 150 := by omega
  obtain ⟨n, rfl⟩ : ∃ n : Nat, nn = n := ⟨nn.toNat, by omega⟩
  have b1 : 1 ≤ n := by omega
  have b2 : n ≤ 40 := by omega
  clear g1 hm
  obtain ⟨i0, hi0, hz, hsz, hby⟩ := info_parts info4
  have hmk : ∀ W : World, (Instr.makeSlice 30 (.int .i64 n) (.int .i64 n)).run Try.prog W = .ok (.slice (some ⟨W.heap.size, 0, none⟩) n n) (W.alloc (.cells (brow n (fun _ => false)) 4)) := fun W => by
    have := run_make W 30 4 i0 _ Try.underlying30 hi0 hz .i64 .i64 n n (by omega) (by omega) (by rw [hby]; omega) (by omega)
    rw [hsz, ← madeB] at *
    exact this
  clear hi0 hz hsz hby i0
  go_enter Try.func5, Try.ntmps5
  go_wp2_with fail
  refine (small_any _).mono ?_
  rintro e w1 ⟨rfl, k1⟩
  go_wp2_with fail
  refine (new_any _ n (by omega) (by omega)).mono ?_
  rintro e w2 ⟨F, p, rfl, r2, k2, f2⟩
  have K2 := k1.trans k2 (by simp)
  have F2 : ∀ x ∈ F, w.heap.size ≤ x := fun x hx => Nat.le_trans k1.size (f2 x hx)
  clear k1 k2 f2
  have kA : Keeps [] w2 (w2.alloc (.cells (brow n (fun _ => false)) 4)) := (Keeps.refl _ _).alloc _
  have rA := r2.keep kA (by simp)
  have bA : Bools (w2.alloc (.cells (brow n (fun _ => false)) 4)) w2.heap.size n (fun _ => false) := Blk.new _ _ _
  have KA := K2.trans kA (by simp)
  have gF : w2.heap.size ∉ F := fun h => by have := r2.lt _ h; omega
  have gw : w.heap.size ≤ w2.heap.size := K2.size
  clear r2 K2 kA
  go_wp2_with fail
  generalize w2.alloc (.cells (brow n (fun _ => false)) 4) = wA at *
  generalize w2.heap.size = gb at *
  have I0 : PInv w wA F p gb n 0 (ck0 n) (fun _ => false) := ⟨⟨by simp [ck0], fun x hx hu => by unfold Ck.g ck0 at hu; simp [List.getD, hx, fr0] at hu⟩, by simp [ck0], rA, bA, KA⟩
  clear rA bA KA
  go_loopw [8, 9, 10, 11, 12, 13, 14, 15, 16, 17, 18, 19, 20, 21, 22, 23, 24, 25, 26, 27, 28] (fun i _ _ _ _ _ _ _ _ _ _ _ _ _ _ _ _ _ _ _ _ wr => ∃ (k : Nat) (s : Ck) (mk : Nat → Bool), k ≤ m ∧ i = .int .i64 k ∧ PInv w wr F p gb n k s mk) (fun i _ _ _ _ _ _ _ _ _ _ _ _ _ _ _ _ _ _ _ _ _ => m - (intOf i).toNat)
  case atStart => exact ⟨0, ck0 n, _, by omega, rfl, I0⟩
  case round =>
    clear I0
    obtain ⟨k, s, mk, hk, rfl, I⟩ := hrel
    by_cases hlt : k < m
    rotate_left
    · obtain rfl : k = m := by omega
      go_wp2
      go_ret
      exact ⟨rfl, I.kp⟩
    obtain ⟨bl, off, rfl, O⟩ := hA (by omega)
    obtain ⟨x1, x2⟩ := O.ro k hlt
    have O1 := O.keep I.kp
    have q0 := O1.c0 k hlt
    have q1 := O1.c1 k hlt
    have q2 := O1.c2 k hlt
    clear O1 O hA
    obtain ⟨fk, hfk⟩ : ∃ fk, fk = f k := ⟨_, rfl⟩
    obtain ⟨dk, hdk⟩ : ∃ dk, dk = d k := ⟨_, rfl⟩
    obtain ⟨ok, hok⟩ : ∃ ok, ok = o k := ⟨_, rfl⟩
    rw [← hfk] at q1
    rw [← hdk] at q0
    rw [← hok] at q2 x1 x2
    clear hfk hdk hok
    have kB : Keeps [] wr (wr.alloc (.cells #[.int .i64 dk, .int .i64 fk, .int .i64 ok] 29)) := (Keeps.refl _ _).alloc _
    have bB : Blk (wr.alloc (.cells #[.int .i64 dk, .int .i64 fk, .int .i64 ok] 29)) wr.heap.size 29 #[.int .i64 dk, .int .i64 fk, .int .i64 ok] := Blk.new _ _ _
    have IB : PInv w (wr.alloc (.cells #[.int .i64 dk, .int .i64 fk, .int .i64 ok] 29)) F p gb n k s mk := ⟨I.m, I.N, I.r.keep kB (by simp), I.b.keep kB (by simp), I.kp.trans kB (by simp)⟩
    have hh := I.hh
    have xF : wr.heap.size ∉ F := fun h => by have := I.r.lt _ h; omega
    have xg : wr.heap.size ≠ gb := fun h => by have := Blk.lt I.b; omega
    have xw : w.heap.size ≤ wr.heap.size := I.kp.size
    have hr := residue_any (wr.alloc (.cells #[.int .i64 dk, .int .i64 fk, .int .i64 ok] 29)) dk 5 (by omega) (by omega)
    have hq0 := Int.emod_nonneg dk (by omega : (5 : Int) ≠ 0)
    have hq1 := Int.emod_lt_of_pos dk (by omega : (0 : Int) < 5)
    have HX := fun (W : World) (hW : CkRep W F p s) => do_any W F p s dk fk ok hW (by have := I.N; omega) x1 x2
    clear I kB
    go_wp2_with fail
    refine hr.mono ?_
    rintro e w3 ⟨rfl, rfl⟩
    obtain ⟨wB, hwB⟩ : ∃ W, W = (wr.alloc (.cells #[.int .i64 dk, .int .i64 fk, .int .i64 ok] 29)) := ⟨_, rfl⟩
    obtain ⟨xb, hxb⟩ : ∃ x, x = wr.heap.size := ⟨_, rfl⟩
    simp only [← hwB, ← hxb] at bB IB xF xg xw ⊢
    clear hwB hxb hr q0 q1 q2
    have q0 : wB.cell? ⟨xb, 0, none⟩ = some (.int .i64 dk) := bB.cell 0
    have q1 : wB.cell? ⟨xb, 1, none⟩ = some (.int .i64 fk) := bB.cell 1
    have q2 : wB.cell? ⟨xb, 2, none⟩ = some (.int .i64 ok) := bB.cell 2
    have hho := owner_any wB F p s fk IB.r
    have HHO := Lib.hid hho
    clear hho
    by_cases hkind : dk % 5 < 3
    · by_cases hin : 0 ≤ fk ∧ fk < n
      rotate_left
      · have hl := IB.m.1
        have ho := op_out (used_out (s := s) (f := fk) (by omega)) dk ok hkind
        have HE := Lib.hid ho
        clear ho hl
        generalize dk % 5 = q at *
        by_cases hlo : 0 ≤ fk
        · have hup : ¬ fk < n := by omega
          clear hin
          as_aux_lemma =>
            go_wp2_with fail
            refine HHO.out.mono ?_
            rintro e w4 ⟨rfl, rfl⟩
            go_wp2_with fail
            refine (HX _ IB.r).mono ?_
            rintro e w5 ⟨rfl, r5, k5⟩
            have b5 := IB.b.keep k5 gF
            have K5 := IB.kp.trans k5 (fun g hg => .inr (F2 g hg))
            rw [HE.out] at r5
            have I5 : PInv w w5 F p gb n (k + 1) s mk := ⟨IB.m, by have := IB.N; omega, r5, b5, K5⟩
            clear r5 b5 K5 k5 IB
            go_wp2
            go_roundw
            case rel => exact ⟨k + 1, s, mk, by omega, by go_num, I5⟩
            case measure => simp [intOf]; omega
        · clear hin
          as_aux_lemma =>
            go_wp2_with fail
            refine HHO.out.mono ?_
            rintro e w4 ⟨rfl, rfl⟩
            go_wp2_with fail
            refine (HX _ IB.r).mono ?_
            rintro e w5 ⟨rfl, r5, k5⟩
            have b5 := IB.b.keep k5 gF
            have K5 := IB.kp.trans k5 (fun g hg => .inr (F2 g hg))
            rw [HE.out] at r5
            have I5 : PInv w w5 F p gb n (k + 1) s mk := ⟨IB.m, by have := IB.N; omega, r5, b5, K5⟩
            clear r5 b5 K5 k5 IB
            go_wp2
            go_roundw
            case rel => exact ⟨k + 1, s, mk, by omega, by go_num, I5⟩
            case measure => simp [intOf]; omega
      · obtain ⟨f, rfl⟩ : ∃ f : Nat, fk = f := ⟨fk.toNat, by omega⟩
        have hfn : f < n := by omega
        have hl := IB.m.1
        have hm2 := IB.m.op hfn dk ok hkind
        have hN2 := op_N s dk f ok
        have HN := Lib.hid (show (s.op dk f ok).N ≤ 3 * (k + 1) by have := IB.N; omega)
        rw [used_g (by omega)] at HHO
        clear hN2 hin
        have j1 : (0 : Int) ≤ f := by omega
        have j2 : (f : Int) < n := by omega
        obtain e | e | e : dk % 5 = 0 ∨ dk % 5 = 1 ∨ dk % 5 = 2 := by omega
        · rw [e] at hm2
          simp only [decide_true, Bool.true_or] at hm2
          have HM := Lib.hid hm2
          clear hm2 hl hq0 hq1 hkind
          as_aux_lemma =>
            rw [e]
            clear e
            go_wp2_with fail
            refine HHO.out.mono ?_
            rintro e w4 ⟨rfl, rfl⟩
            go_wp2_with fail
            refine (HX _ IB.r).mono ?_
            rintro e w5 ⟨rfl, r5, k5⟩
            have b5 := IB.b.keep k5 gF
            have K5 := IB.kp.trans k5 (fun g hg => .inr (F2 g hg))
            have q1 : w5.cell? ⟨xb, 1, none⟩ = some (.int .i64 f) := (bB.keep k5 xF).cell 1
            have fz : w5.frozen? ⟨gb, f, none⟩ = false := Blk.frozen b5 f
            have ks : Keeps [gb] w5 (w5.setCell ⟨gb, f, none⟩ (.bool true)) := (Keeps.refl _ _).setCell (.inl (by simp)) _
            have bs := b5.set_ f true
            have b0 := b5.cell hfn
            have I5 : PInv w (w5.setCell ⟨gb, f, none⟩ (.bool true)) F p gb n (k + 1) _ _ := ⟨HM.out, HN.out, r5.keep ks (fun x hx hm => gF (by simp at hm; rwa [hm] at hx)), bs, K5.trans ks (fun g hg => .inr (by simp at hg; subst hg; exact gw))⟩
            clear r5 K5 k5 IB ks bs
            go_wp2
            go_roundw
            case rel => exact ⟨k + 1, _, _, by omega, by go_num, I5⟩
            case measure => simp [intOf]; omega
        · rw [e] at hm2
          simp only [Int.reduceEq, decide_false, Bool.false_and, Bool.or_self] at hm2
          have HM := Lib.hid hm2
          clear hm2 hl hq0 hq1 hkind
          as_aux_lemma =>
            rw [e]
            clear e
            go_wp2_with fail
            refine HHO.out.mono ?_
            rintro e w4 ⟨rfl, rfl⟩
            go_wp2_with fail
            refine (HX _ IB.r).mono ?_
            rintro e w5 ⟨rfl, r5, k5⟩
            have b5 := IB.b.keep k5 gF
            have K5 := IB.kp.trans k5 (fun g hg => .inr (F2 g hg))
            have q1 : w5.cell? ⟨xb, 1, none⟩ = some (.int .i64 f) := (bB.keep k5 xF).cell 1
            have fz : w5.frozen? ⟨gb, f, none⟩ = false := Blk.frozen b5 f
            have ks : Keeps [gb] w5 (w5.setCell ⟨gb, f, none⟩ (.bool false)) := (Keeps.refl _ _).setCell (.inl (by simp)) _
            have bs := b5.set_ f false
            have b0 := b5.cell hfn
            have I5 : PInv w (w5.setCell ⟨gb, f, none⟩ (.bool false)) F p gb n (k + 1) _ _ := ⟨HM.out, HN.out, r5.keep ks (fun x hx hm => gF (by simp at hm; rwa [hm] at hx)), bs, K5.trans ks (fun g hg => .inr (by simp at hg; subst hg; exact gw))⟩
            clear r5 K5 k5 IB ks bs
            go_wp2
            go_roundw
            case rel => exact ⟨k + 1, _, _, by omega, by go_num, I5⟩
            case measure => simp [intOf]; omega
        · rw [e] at hm2
          simp only [Int.reduceEq, decide_true, decide_false, Bool.true_and, Bool.false_or] at hm2
          have HM := Lib.hid hm2
          clear hm2 hl hq0 hq1 hkind
          obtain ⟨u, hu⟩ : ∃ u, u = (s.g f).u := ⟨_, rfl⟩
          rw [← hu] at HHO HM
          clear hu
          as_aux_lemma =>
            rw [e]
            clear e
            go_wp2_with fail
            refine HHO.out.mono ?_
            rintro e w4 ⟨rfl, rfl⟩
            go_wp2_with fail
            refine (HX _ IB.r).mono ?_
            rintro e w5 ⟨rfl, r5, k5⟩
            have b5 := IB.b.keep k5 gF
            have K5 := IB.kp.trans k5 (fun g hg => .inr (F2 g hg))
            have q1 : w5.cell? ⟨xb, 1, none⟩ = some (.int .i64 f) := (bB.keep k5 xF).cell 1
            have fz : w5.frozen? ⟨gb, f, none⟩ = false := Blk.frozen b5 f
            have ks : Keeps [gb] w5 (w5.setCell ⟨gb, f, none⟩ (.bool u)) := (Keeps.refl _ _).setCell (.inl (by simp)) _
            have bs := b5.set_ f u
            have b0 := b5.cell hfn
            have I5 : PInv w (w5.setCell ⟨gb, f, none⟩ (.bool u)) F p gb n (k + 1) _ _ := ⟨HM.out, HN.out, r5.keep ks (fun x hx hm => gF (by simp at hm; rwa [hm] at hx)), bs, K5.trans ks (fun g hg => .inr (by simp at hg; subst hg; exact gw))⟩
            clear r5 K5 k5 IB ks bs
            go_wp2
            go_roundw
            case rel => exact ⟨k + 1, _, _, by omega, by go_num, I5⟩
            case measure => simp [intOf]; omega
    · obtain ⟨FR, hFR⟩ : ∃ FR : Nat → Bool, FR = fun x => (s.g x).u && !mk x := ⟨_, rfl⟩
      obtain ⟨OV, hOV⟩ : ∃ OV : Nat → Bool, OV = fun x => (s.g x).u && !mk x && s.over (s.g x).o := ⟨_, rfl⟩
      obtain ⟨AN, hAN⟩ : ∃ AN : Nat → Bool, AN = fun x => (s.g x).u := ⟨_, rfl⟩
      have HO : Hid (∀ x, x < n → FR x = ((s.g x).u && !mk x) ∧ OV x = ((s.g x).u && !mk x && s.over (s.g x).o) ∧ AN x = (s.g x).u) := Lib.hid (fun x _ => by subst hFR hOV hAN; exact ⟨rfl, rfl, rfl⟩)
      have HB : Hid ((s.victim.2 = exB AN n) ∧ (s.victim.2 = true → ∃ f, f < n ∧ s.victim.1 = (f : Int) ∧ s.pickF = (f : Int) ∧ (s.g f).u = true ∧ (mk f = true → exB FR n = false) ∧ (exB OV n = true → s.over (s.g f).o = true) ∧ s.picked.h = (f + 1) % n ∧ Mk s.picked (mkP s mk f n) n)) := Lib.hid (pick_facts IB.m IB.hh hFR hOV hAN)
      clear hFR hOV hAN
      have hl := IB.m.1
      have hkd : dk % 5 = 3 ∨ dk % 5 = 4 := by omega
      have tk : decide (dk % 5 < 3) = false := by simp; omega
      generalize dk % 5 = q at *
      have HH := Lib.hid hh
      clear hq0 hq1 hkind xF xg xw HX x1 x2 bB
      go_upto_region 13 with fail
      go_cut [11] from 54 to 252 (fun s11 wc => (∃ b, s11 = .bool b) ∧ wc = wB)
      case first =>
        by_cases hlo : 0 ≤ fk
        · go_wp2_with fail
          go_meet
          case rel => exact ⟨⟨_, rfl⟩, rfl⟩
        · go_wp2_with fail
          go_meet
          case rel => exact ⟨⟨_, rfl⟩, rfl⟩
      case rest =>
        obtain ⟨⟨b11, rfl⟩, rfl⟩ := hcut
        go_wp2_with fail
        refine HHO.out.mono ?_
        rintro e w4 ⟨rfl, rfl⟩
        clear HHO
        go_wp2_with fail
        refine (hand_any _ F p s IB.r).mono ?_
        rintro e w5 ⟨rfl, rfl⟩
        go_wp2_with fail
        go_loopw [15, 16, 17, 18, 19, 20] (fun a b c i _ _ wr => ∃ (j : Nat), j ≤ n ∧ i = .int .i64 j ∧ a = .bool (exB FR j) ∧ b = .bool (exB OV j) ∧ c = .bool (exB AN j) ∧ PInv w wr F p gb n k s mk) (fun _ _ _ i _ _ _ => n - (intOf i).toNat)
        case atStart => exact ⟨0, by omega, rfl, rfl, rfl, rfl, IB⟩
        case round =>
          clear IB
          obtain ⟨j, hj, rfl, rfl, rfl, rfl, IB⟩ := hrel
          by_cases hlt : j < n
          · have ho := owner_any wr F p s j IB.r
            rw [used_g (by omega), own_g (by omega)] at ho
            obtain ⟨z1, z2, z3⟩ := HO.out j hlt
            have c0 := IB.b.cell hlt
            have hor := ck_or IB.r j (by omega)
            have hex : ∀ (B : Nat → Bool), exB B (j + 1) = (exB B j || B j) := fun _ => rfl
            have E1 := hex FR
            have E2 := hex OV
            have E3 := hex AN
            rw [z1] at E1
            rw [z2] at E2
            rw [z3] at E3
            clear hex z1 z2 z3
            cases hu : (s.g j).u with
            | false =>
              as_aux_lemma =>
                rw [hu] at E1 E2 E3 ho
                have HW := Lib.hid ho
                have HE := Lib.hid (And.intro E1 (And.intro E2 E3))
                clear ho E1 E2 E3 hu
                go_wp2_with fail
                refine HW.out.mono ?_
                rintro e w6 ⟨rfl, rfl⟩
                go_upto_region 27 with fail
                go_cut [17] from 98 to 143 (fun s17 wc => s17 = .bool (exB AN (j + 1)) ∧ PInv w wc F p gb n k s mk)
                case first =>
                  rcases Bool.eq_false_or_eq_true (exB AN j) with t0 | t0
                  · go_wp2_with fail
                    go_meet
                    case rel => exact ⟨by rw [HE.out.2.2, t0]; rfl, IB⟩
                  · go_wp2_with fail
                    go_meet
                    case rel => exact ⟨by rw [HE.out.2.2, t0]; rfl, IB⟩
                case rest =>
                obtain ⟨rfl, IB⟩ := hcut
                go_upto_region 28 with fail
                go_cut [15] from 98 to 143 (fun s15 wc => s15 = .bool (exB FR (j + 1)) ∧ PInv w wc F p gb n k s mk)
                case first =>
                  rcases Bool.eq_false_or_eq_true (exB FR j) with t0 | t0
                  · go_wp2_with fail
                    go_meet
                    case rel => exact ⟨by rw [HE.out.1, t0]; rfl, IB⟩
                  · go_wp2_with fail
                    go_meet
                    case rel => exact ⟨by rw [HE.out.1, t0]; rfl, IB⟩
                case rest =>
                obtain ⟨rfl, IB⟩ := hcut
                rcases Bool.eq_false_or_eq_true (exB OV j) with t0 | t0
                · go_wp2_with fail
                  go_roundw
                  case rel => exact ⟨j + 1, by omega, by go_num, rfl, by rw [HE.out.2.1, t0]; rfl, rfl, IB⟩
                  case measure => simp [intOf]; omega
                · go_wp2_with fail
                  go_roundw
                  case rel => exact ⟨j + 1, by omega, by go_num, rfl, by rw [HE.out.2.1, t0]; rfl, rfl, IB⟩
                  case measure => simp [intOf]; omega
            | true =>
              cases hmk2 : mk j with
              | true =>
                as_aux_lemma =>
                  rw [hu] at E1 E2 E3 ho
                  rw [hmk2] at E1 E2 c0
                  have HW := Lib.hid ho
                  have HE := Lib.hid (And.intro E1 (And.intro E2 E3))
                  clear ho E1 E2 E3 hu
                  go_wp2_with fail
                  refine HW.out.mono ?_
                  rintro e w6 ⟨rfl, rfl⟩
                  go_upto_region 27 with fail
                  go_cut [17] from 98 to 143 (fun s17 wc => s17 = .bool (exB AN (j + 1)) ∧ PInv w wc F p gb n k s mk)
                  case first =>
                    rcases Bool.eq_false_or_eq_true (exB AN j) with t0 | t0
                    · go_wp2_with fail
                      go_meet
                      case rel => exact ⟨by rw [HE.out.2.2, t0]; rfl, IB⟩
                    · go_wp2_with fail
                      go_meet
                      case rel => exact ⟨by rw [HE.out.2.2, t0]; rfl, IB⟩
                  case rest =>
                  obtain ⟨rfl, IB⟩ := hcut
                  have c0 := IB.b.cell hlt
                  rw [hmk2] at c0
                  go_upto_region 28 with fail
                  go_cut [15] from 98 to 143 (fun s15 wc => s15 = .bool (exB FR (j + 1)) ∧ PInv w wc F p gb n k s mk)
                  case first =>
                    rcases Bool.eq_false_or_eq_true (exB FR j) with t0 | t0
                    · go_wp2_with fail
                      go_meet
                      case rel => exact ⟨by rw [HE.out.1, t0]; rfl, IB⟩
                    · go_wp2_with fail
                      go_meet
                      case rel => exact ⟨by rw [HE.out.1, t0]; rfl, IB⟩
                  case rest =>
                  obtain ⟨rfl, IB⟩ := hcut
                  have c0 := IB.b.cell hlt
                  rw [hmk2] at c0
                  rcases Bool.eq_false_or_eq_true (exB OV j) with t0 | t0
                  · go_wp2_with fail
                    go_roundw
                    case rel => exact ⟨j + 1, by omega, by go_num, rfl, by rw [HE.out.2.1, t0]; rfl, rfl, IB⟩
                    case measure => simp [intOf]; omega
                  · go_wp2_with fail
                    go_roundw
                    case rel => exact ⟨j + 1, by omega, by go_num, rfl, by rw [HE.out.2.1, t0]; rfl, rfl, IB⟩
                    case measure => simp [intOf]; omega
              | false =>
                as_aux_lemma =>
                  rw [hu] at E1 E2 E3 ho
                  rw [hmk2] at E1 E2 c0
                  have HW := Lib.hid ho
                  have HE := Lib.hid (And.intro E1 (And.intro E2 E3))
                  clear ho E1 E2 E3 hu
                  go_wp2_with fail
                  refine HW.out.mono ?_
                  rintro e w6 ⟨rfl, rfl⟩
                  go_upto_region 27 with fail
                  go_cut [17] from 98 to 143 (fun s17 wc => s17 = .bool (exB AN (j + 1)) ∧ PInv w wc F p gb n k s mk)
                  case first =>
                    rcases Bool.eq_false_or_eq_true (exB AN j) with t0 | t0
                    · go_wp2_with fail
                      go_meet
                      case rel => exact ⟨by rw [HE.out.2.2, t0]; rfl, IB⟩
                    · go_wp2_with fail
                      go_meet
                      case rel => exact ⟨by rw [HE.out.2.2, t0]; rfl, IB⟩
                  case rest =>
                  obtain ⟨rfl, IB⟩ := hcut
                  have c0 := IB.b.cell hlt
                  rw [hmk2] at c0
                  go_upto_region 28 with fail
                  go_cut [15] from 98 to 143 (fun s15 wc => s15 = .bool (exB FR (j + 1)) ∧ PInv w wc F p gb n k s mk)
                  case first =>
                    rcases Bool.eq_false_or_eq_true (exB FR j) with t0 | t0
                    · go_wp2_with fail
                      go_meet
                      case rel => exact ⟨by rw [HE.out.1, t0]; rfl, IB⟩
                    · go_wp2_with fail
                      go_meet
                      case rel => exact ⟨by rw [HE.out.1, t0]; rfl, IB⟩
                  case rest =>
                  obtain ⟨rfl, IB⟩ := hcut
                  have c0 := IB.b.cell hlt
                  rw [hmk2] at c0
                  rcases Bool.eq_false_or_eq_true (exB OV j) with t0 | t0
                  · go_wp2_with fail
                    go_roundw
                    case rel => exact ⟨j + 1, by omega, by go_num, rfl, by rw [HE.out.2.1, t0]; rfl, rfl, IB⟩
                    case measure => simp [intOf]; omega
                  · go_wp2_with fail
                    refine (used_any _ F p s (s.g j).o IB.r hor.1 hor.2).mono ?_
                    rintro e w7 ⟨rfl, rfl⟩
                    go_wp2_with fail
                    refine (work_any _ F p s (s.g j).o IB.r hor.1 hor.2).mono ?_
                    rintro e w8 ⟨rfl, r8, k8⟩
                    have IB : PInv w w8 F p gb n k s mk := ⟨IB.m, IB.N, r8, IB.b.keep k8 (by simp), IB.kp.trans k8 (by simp)⟩
                    go_wp2
                    go_roundw
                    case rel => exact ⟨j + 1, by omega, by go_num, rfl, by rw [HE.out.2.1, t0]; rfl, rfl, IB⟩
                    case measure => simp [intOf]; omega
          · have hjn : n = j := by omega
            subst hjn
            have tl : decide ((n : Int) < n) = false := by simp
            obtain ⟨hb1, hb2⟩ := HB.out
            have t1 : decide ((s.h : Int) < 0) = false := by simp
            have t2 : decide ((n : Int) ≤ s.h) = false := by simp; omega
            have F3 : ∀ x, x ∈ F → x < wr.heap.size := IB.r.lt
            cases hv : s.victim.2 with
            | false =>
              rw [hv] at hb1
              have ha : exB AN n = false := hb1.symm
              have hps : s.picked = s := by unfold Ck.picked; rw [hv]; rfl
              clear hb2 hb1
              go_wp2_with fail
              refine (copy_any wr F p s IB.r).mono ?_
              rintro e w6 ⟨F', p', rfl, r6, k6, f6⟩
              have hp := pick_any w6 F p s (IB.r.keep k6 (by simp))
              rw [hps, hv] at hp
              have HP := Lib.hid hp
              clear hp hps hv r6
              go_wp2_with fail
              refine HP.out.mono ?_
              rintro e w7 ⟨rfl, r7, k7⟩
              have I7 : PInv w w7 F p gb n (k + 1) s mk := ⟨IB.m, by have := IB.N; omega, r7, (IB.b.keep k6 (by simp)).keep k7 gF, (IB.kp.trans k6 (by simp)).trans k7 (fun g hg => .inr (F2 g hg))⟩
              clear IB k6 k7
              go_wp2_with fail
              refine (hand_any _ F p s r7).mono ?_
              rintro e w8 ⟨rfl, rfl⟩
              go_wp2
              go_roundw
              case rel => exact ⟨k + 1, s, mk, by omega, by go_num, I7⟩
              case measure => simp [intOf]; omega
            | true =>
              rw [hv] at hb1
              have ha : exB AN n = true := hb1.symm
              obtain ⟨f, f1, f2, f3, f4, f5, f6, f7, f8⟩ := hb2 hv
              clear hb2 hb1
              go_wp2_with fail
              refine (copy_any wr F p s IB.r).mono ?_
              rintro e w6 ⟨F', p', rfl, r6, k6, f6'⟩
              have hp := pick_any w6 F p s (IB.r.keep k6 (by simp))
              rw [f3, hv] at hp
              have HP := Lib.hid hp
              have hdi := dist_int (s := s) (by omega) (f := f)
              have hor := ck_or IB.r f (by omega)
              have hpN := picked_N s
              rw [hl] at hdi
              clear hp hv f2 f3
              have j1 : decide ((f : Int) < 0) = false := by simp
              have j2 : decide ((n : Int) ≤ f) = false := by simp; omega
              go_wp2_with fail
              refine HP.out.mono ?_
              rintro e w7 ⟨rfl, r7, k7⟩
              have b7 := (IB.b.keep k6 (by simp)).keep k7 gF
              have K7 := (IB.kp.trans k6 (by simp)).trans k7 (fun g hg => .inr (F2 g hg))
              have r8 := r6.keep k7 (fun x hx hm => by have := F3 x hm; have := f6' x hx; omega)
              have HN := Lib.hid (show s.picked.N ≤ 3 * k by have := IB.N; omega)
              clear IB k6 k7 r6 HP f6' hpN
              have ho := owner_any w7 F' p' s f r8
              rw [used_g (by omega), own_g (by omega), f4, if_pos rfl] at ho
              have HO2 := Lib.hid ho
              clear ho
              go_wp2_with fail
              refine HO2.out.mono ?_
              rintro e w8 ⟨rfl, rfl⟩
              have c0 := b7.cell f1
              have nz : (n : Int) ≠ 0 := by omega
              have nz2 : n ≠ 0 := by omega
              have t3 : Int.tmod ((f : Int) + 1) n = ((f + 1) % n : Nat) := by rw [Int.tmod_eq_emod_of_nonneg (by omega), Int.natCast_emod, Int.natCast_add]; rfl
              have t4 : ((((f + 1) % n : Nat) : Int) != (((f + 1) % n : Nat) : Int)) = false := by simp
              go_upto_region 40 with fail
              go_cut [15, 16, 217] from 54 to 252 (fun _ _ s217 wc => s217 = .bool false ∧ CkRep wc F p s.picked ∧ Bools wc gb n mk ∧ Keeps [] w wc)
              case first =>
                obtain ⟨ho1, ho2⟩ := hor
                rcases Bool.eq_false_or_eq_true (exB FR n) with e0 | e0
                · have e1 : mk f = false := by
                    cases h : mk f with
                    | false => rfl
                    | true => rw [f5 h] at e0; simp at e0
                  rcases Bool.eq_false_or_eq_true (exB OV n) with e2 | e2
                  · as_aux_lemma =>
                      rw [e0, e2]
                      refine reg40_0 w7 n f p p' gb F F' s mk _ (by omega) (by omega) f1 r7 r8 b7 ho1 ho2 f7 e1 (f6 e2) _ _ _ _ _ _ _ _ _ _ _ _ _ _ _ _ _ _ _ _ _ _ _ _ _ _ _ _ _ _ _ _ _ _ _ _ _ _ _ _ _ _ _ _ _ _ _ _ _ _ _ _ _ _ _ _ _ _ _ _ _ _ _ _ _ _ _ _ _ _ _ _ _ _ _ _ _ _ _ _ _ _ _ _ _ _ _ _ _ _ _ _ _ _ _ _ _ _ _ _ _ _ _ _ _ _ _ _ _ _ _ _ _ _ _ _ _ _ _ _ _ _ _ _ _ _ _ _ _ _ _ _ _ _ _ _ _ _ _ _ _ _ _ _ _ _ _ _ _ _ _ _ _ _ _ _ _ _ _ _ _ _ _ _ _ _ _ _ _ _ _ _ _ _ _ _ _ _ _ _ _ _ _ _ _ _ _ _ _ _ _ _ _ _ _ _ _ _ _ _ _ _ _ _ _ _ _ _ _ _ _ _ _ _ _ _ _ _ _ _ _ _ _ _ _ _ _ _ _ _ _ _ _ _ _ _ _ _ _ _ _ _ _ _ _ ?_
                      intro v186 v187 v188 v189 v190 v191 v192 v193 v194 v195 v196 v197 v198 v199 v200 v201 v202 v203 v204 v205 v206 v207 v208 v209 v210 v211 v212 v213 v214 v215 v216 nq b hb
                      subst hb
                      go_wp2
                      go_meet
                      case rel =>
                        have kq : Keeps [] w7 (w7.drewN nq) := (Keeps.refl [] w7).drewN nq
                        exact ⟨rfl, r7.keep kq (by simp), b7.keep kq (by simp), K7.trans kq (by simp)⟩
                  · as_aux_lemma =>
                      rw [e0, e2]
                      refine reg40_1 w7 n f p p' gb F F' s mk _ (by omega) (by omega) f1 r7 r8 b7 ho1 ho2 f7 e1 _ _ _ _ _ _ _ _ _ _ _ _ _ _ _ _ _ _ _ _ _ _ _ _ _ _ _ _ _ _ _ _ _ _ _ _ _ _ _ _ _ _ _ _ _ _ _ _ _ _ _ _ _ _ _ _ _ _ _ _ _ _ _ _ _ _ _ _ _ _ _ _ _ _ _ _ _ _ _ _ _ _ _ _ _ _ _ _ _ _ _ _ _ _ _ _ _ _ _ _ _ _ _ _ _ _ _ _ _ _ _ _ _ _ _ _ _ _ _ _ _ _ _ _ _ _ _ _ _ _ _ _ _ _ _ _ _ _ _ _ _ _ _ _ _ _ _ _ _ _ _ _ _ _ _ _ _ _ _ _ _ _ _ _ _ _ _ _ _ _ _ _ _ _ _ _ _ _ _ _ _ _ _ _ _ _ _ _ _ _ _ _ _ _ _ _ _ _ _ _ _ _ _ _ _ _ _ _ _ _ _ _ _ _ _ _ _ _ _ _ _ _ _ _ _ _ _ _ _ _ _ _ _ _ _ _ _ _ _ _ _ _ _ _ _ ?_
                      intro v186 v187 v188 v189 v190 v191 v192 v193 v194 v195 v196 v197 v198 v199 v200 v201 v202 v203 v204 v205 v206 v207 v208 v209 v210 v211 v212 v213 v214 v215 v216 nq b hb
                      subst hb
                      go_wp2
                      go_meet
                      case rel =>
                        have kq : Keeps [] w7 (w7.drewN nq) := (Keeps.refl [] w7).drewN nq
                        exact ⟨rfl, r7.keep kq (by simp), b7.keep kq (by simp), K7.trans kq (by simp)⟩
                · rcases Bool.eq_false_or_eq_true (exB OV n) with e2 | e2
                  · as_aux_lemma =>
                      rw [e0, e2]
                      refine reg40_2 w7 n f p p' gb F F' s mk _ (by omega) (by omega) f1 r7 r8 b7 ho1 ho2 f7 (f6 e2) _ _ _ _ _ _ _ _ _ _ _ _ _ _ _ _ _ _ _ _ _ _ _ _ _ _ _ _ _ _ _ _ _ _ _ _ _ _ _ _ _ _ _ _ _ _ _ _ _ _ _ _ _ _ _ _ _ _ _ _ _ _ _ _ _ _ _ _ _ _ _ _ _ _ _ _ _ _ _ _ _ _ _ _ _ _ _ _ _ _ _ _ _ _ _ _ _ _ _ _ _ _ _ _ _ _ _ _ _ _ _ _ _ _ _ _ _ _ _ _ _ _ _ _ _ _ _ _ _ _ _ _ _ _ _ _ _ _ _ _ _ _ _ _ _ _ _ _ _ _ _ _ _ _ _ _ _ _ _ _ _ _ _ _ _ _ _ _ _ _ _ _ _ _ _ _ _ _ _ _ _ _ _ _ _ _ _ _ _ _ _ _ _ _ _ _ _ _ _ _ _ _ _ _ _ _ _ _ _ _ _ _ _ _ _ _ _ _ _ _ _ _ _ _ _ _ _ _ _ _ _ _ _ _ _ _ _ _ _ _ _ _ _ _ _ ?_
                      intro v186 v187 v188 v189 v190 v191 v192 v193 v194 v195 v196 v197 v198 v199 v200 v201 v202 v203 v204 v205 v206 v207 v208 v209 v210 v211 v212 v213 v214 v215 v216 nq b hb
                      subst hb
                      go_wp2
                      go_meet
                      case rel =>
                        have kq : Keeps [] w7 (w7.drewN nq) := (Keeps.refl [] w7).drewN nq
                        exact ⟨rfl, r7.keep kq (by simp), b7.keep kq (by simp), K7.trans kq (by simp)⟩
                  · as_aux_lemma =>
                      rw [e0, e2]
                      refine reg40_3 w7 n f p p' gb F F' s mk _ (by omega) (by omega) f1 r7 r8 b7 ho1 ho2 f7 _ _ _ _ _ _ _ _ _ _ _ _ _ _ _ _ _ _ _ _ _ _ _ _ _ _ _ _ _ _ _ _ _ _ _ _ _ _ _ _ _ _ _ _ _ _ _ _ _ _ _ _ _ _ _ _ _ _ _ _ _ _ _ _ _ _ _ _ _ _ _ _ _ _ _ _ _ _ _ _ _ _ _ _ _ _ _ _ _ _ _ _ _ _ _ _ _ _ _ _ _ _ _ _ _ _ _ _ _ _ _ _ _ _ _ _ _ _ _ _ _ _ _ _ _ _ _ _ _ _ _ _ _ _ _ _ _ _ _ _ _ _ _ _ _ _ _ _ _ _ _ _ _ _ _ _ _ _ _ _ _ _ _ _ _ _ _ _ _ _ _ _ _ _ _ _ _ _ _ _ _ _ _ _ _ _ _ _ _ _ _ _ _ _ _ _ _ _ _ _ _ _ _ _ _ _ _ _ _ _ _ _ _ _ _ _ _ _ _ _ _ _ _ _ _ _ _ _ _ _ _ _ _ _ _ _ _ _ _ _ _ _ _ _ _ ?_
                      intro v186 v187 v188 v189 v190 v191 v192 v193 v194 v195 v196 v197 v198 v199 v200 v201 v202 v203 v204 v205 v206 v207 v208 v209 v210 v211 v212 v213 v214 v215 v216 nq b hb
                      subst hb
                      go_wp2
                      go_meet
                      case rel =>
                        have kq : Keeps [] w7 (w7.drewN nq) := (Keeps.refl [] w7).drewN nq
                        exact ⟨rfl, r7.keep kq (by simp), b7.keep kq (by simp), K7.trans kq (by simp)⟩
              case rest =>
              obtain ⟨rfl, r8, b8, K8⟩ := hcut
              cases hm : mk f with
              | true =>
                as_aux_lemma =>
                  have c8 := b8.cell f1
                  rw [hm] at c8
                  go_wp2_with fail
                  go_loopw [27, 28] (fun i _ wr => ∃ (j : Nat), j ≤ n ∧ i = .int .i64 j ∧ CkRep wr F p s.picked ∧ Bools wr gb n (mkP s mk f j) ∧ Keeps [] w wr) (fun i _ _ => n - (intOf i).toNat)
                  case atStart => exact ⟨0, by omega, rfl, r8, by rw [mkP_zero]; exact b8, K8⟩
                  case round =>
                    clear r8 b8 K8 c8
                    obtain ⟨j, hj, rfl, r, bo, kp⟩ := hrel
                    by_cases hlt : j < n
                    · have t5 : Int.tmod ((s.h : Int) + j) n = ((s.h + j) % n : Nat) := by rw [Int.tmod_eq_emod_of_nonneg (by omega), Int.natCast_emod, Int.natCast_add]
                      have hwr5 : IntKind.i64.wrap ((s.h : Int) + j) = s.h + j := by rw [IntKind.wrap_i64]; omega
                      have g0 : (s.h + j) % n < n := Nat.mod_lt _ (by omega)
                      have fz : wr.frozen? ⟨gb, (s.h + j) % n, none⟩ = false := Blk.frozen bo _
                      have c9 := bo.cell g0
                      have ks : Keeps [gb] wr (wr.setCell ⟨gb, (s.h + j) % n, none⟩ (.bool false)) := (Keeps.refl _ _).setCell (.inl (by simp)) _
                      have rs := r.keep ks (fun x hx hm => gF (by simp at hm; rwa [hm] at hx))
                      have bs : Bools (wr.setCell ⟨gb, (s.h + j) % n, none⟩ (.bool false)) gb n (mkP s mk f (j + 1)) := (bo.set_ _ false).cong (fun x hx => mkQ_on hl HH.out hlt (.inl hm) x hx)
                      have K9 := kp.trans ks (fun g hg => .inr (by simp at hg; subst hg; exact gw))
                      have HR := Lib.hid (And.intro rs (And.intro bs K9))
                      have t6 : ((((s.h + j) % n : Nat) : Int) < n) := by omega
                      have t7 : (0 : Int) ≤ (((s.h + j) % n : Nat) : Int) := by omega
                      clear rs bs K9 ks r bo kp
                      generalize (s.h + j) % n = gi at *
                      go_wp2_with fail
                      go_roundw
                      case rel => exact ⟨j + 1, by omega, by go_num, HR.out⟩
                      case measure => simp [intOf]; omega
                    · have hjn : n = j := by omega
                      subst hjn
                      have tl : decide ((n : Int) < n) = false := by simp
                      rcases hkd with rfl | rfl
                      · have I9 : PInv w wr F p gb n (k + 1) s.picked (mkP s mk f n) := ⟨f8, by have := HN.out; omega, r, bo, kp⟩
                        clear r bo kp
                        go_wp2
                        go_roundw
                        case rel => exact ⟨k + 1, _, _, by omega, by go_num, I9⟩
                        case measure => simp [intOf]; omega
                      · have hg := gone_any wr F p s.picked f r (by have := HN.out; omega)
                        have hgN := gone_N s.picked f
                        have HN2 := Lib.hid (show (s.picked.gone f).N ≤ 3 * (k + 1) by have := HN.out; omega)
                        have HG := Lib.hid hg
                        clear hg hgN
                        go_wp2_with fail
                        refine HG.out.mono ?_
                        rintro e w9 ⟨rfl, r9, k9⟩
                        have b9 := bo.keep k9 gF
                        have K9 := kp.trans k9 (fun g hg => .inr (F2 g hg))
                        have fz : w9.frozen? ⟨gb, f, none⟩ = false := Blk.frozen b9 _
                        have c9 := b9.cell f1
                        have ks : Keeps [gb] w9 (w9.setCell ⟨gb, f, none⟩ (.bool false)) := (Keeps.refl _ _).setCell (.inl (by simp)) _
                        have I9 : PInv w (w9.setCell ⟨gb, f, none⟩ (.bool false)) F p gb n (k + 1) (s.picked.gone f) (upB (mkP s mk f n) f false) := ⟨f8.gone f1, HN2.out, r9.keep ks (fun x hx hm => gF (by simp at hm; rwa [hm] at hx)), b9.set_ f false, K9.trans ks (fun g hg => .inr (by simp at hg; subst hg; exact gw))⟩
                        clear r bo kp r9 b9 K9 ks k9
                        go_wp2
                        go_roundw
                        case rel => exact ⟨k + 1, _, _, by omega, by go_num, I9⟩
                        case measure => simp [intOf]; omega
              | false =>
                as_aux_lemma =>
                  have c8 := b8.cell f1
                  rw [hm] at c8
                  go_wp2_with fail
                  go_loopw [27, 28] (fun i _ wr => ∃ (j : Nat), j ≤ n ∧ i = .int .i64 j ∧ CkRep wr F p s.picked ∧ Bools wr gb n (mkP s mk f j) ∧ Keeps [] w wr) (fun i _ _ => n - (intOf i).toNat)
                  case atStart => exact ⟨0, by omega, rfl, r8, by rw [mkP_zero]; exact b8, K8⟩
                  case round =>
                    clear r8 b8 K8 c8
                    obtain ⟨j, hj, rfl, r, bo, kp⟩ := hrel
                    by_cases hlt : j < n
                    · have t5 : Int.tmod ((s.h : Int) + j) n = ((s.h + j) % n : Nat) := by rw [Int.tmod_eq_emod_of_nonneg (by omega), Int.natCast_emod, Int.natCast_add]
                      have hwr5 : IntKind.i64.wrap ((s.h : Int) + j) = s.h + j := by rw [IntKind.wrap_i64]; omega
                      have hwr6 : IntKind.i64.wrap ((f : Int) - s.h) = f - s.h := by rw [IntKind.wrap_i64]; omega
                      have hre := residue_any wr ((f : Int) - s.h) n (by omega) (by omega)
                      rw [hdi] at hre
                      have HRE := Lib.hid hre
                      clear hre
                      by_cases hle : j ≤ s.dist f
                      · have t8 : decide ((j : Int) ≤ (s.dist f : Int)) = true := by simp; omega
                        have g0 : (s.h + j) % n < n := Nat.mod_lt _ (by omega)
                        have fz : wr.frozen? ⟨gb, (s.h + j) % n, none⟩ = false := Blk.frozen bo _
                        have c9 := bo.cell g0
                        have ks : Keeps [gb] wr (wr.setCell ⟨gb, (s.h + j) % n, none⟩ (.bool false)) := (Keeps.refl _ _).setCell (.inl (by simp)) _
                        have rs := r.keep ks (fun x hx hm => gF (by simp at hm; rwa [hm] at hx))
                        have bs : Bools (wr.setCell ⟨gb, (s.h + j) % n, none⟩ (.bool false)) gb n (mkP s mk f (j + 1)) := (bo.set_ _ false).cong (fun x hx => mkQ_on hl HH.out hlt (.inr hle) x hx)
                        have K9 := kp.trans ks (fun g hg => .inr (by simp at hg; subst hg; exact gw))
                        have HR := Lib.hid (And.intro rs (And.intro bs K9))
                        have t6 : ((((s.h + j) % n : Nat) : Int) < n) := by omega
                        have t7 : (0 : Int) ≤ (((s.h + j) % n : Nat) : Int) := by omega
                        clear rs bs K9 ks r bo kp
                        generalize (s.h + j) % n = gi at *
                        go_wp2_with fail
                        refine HRE.out.mono ?_
                        rintro e w9 ⟨rfl, rfl⟩
                        go_wp2_with fail
                        go_roundw
                        case rel => exact ⟨j + 1, by omega, by go_num, HR.out⟩
                        case measure => simp [intOf]; omega
                      · have t8 : decide ((j : Int) ≤ (s.dist f : Int)) = false := by simp; omega
                        have bs := bo.cong (fun x _ => mkP_off hm hle x)
                        go_wp2_with fail
                        refine HRE.out.mono ?_
                        rintro e w9 ⟨rfl, rfl⟩
                        go_wp2_with fail
                        go_roundw
                        case rel => exact ⟨j + 1, by omega, by go_num, r, bs, kp⟩
                        case measure => simp [intOf]; omega
                    · have hjn : n = j := by omega
                      subst hjn
                      have tl : decide ((n : Int) < n) = false := by simp
                      rcases hkd with rfl | rfl
                      · have I9 : PInv w wr F p gb n (k + 1) s.picked (mkP s mk f n) := ⟨f8, by have := HN.out; omega, r, bo, kp⟩
                        clear r bo kp
                        go_wp2
                        go_roundw
                        case rel => exact ⟨k + 1, _, _, by omega, by go_num, I9⟩
                        case measure => simp [intOf]; omega
                      · have hg := gone_any wr F p s.picked f r (by have := HN.out; omega)
                        have hgN := gone_N s.picked f
                        have HN2 := Lib.hid (show (s.picked.gone f).N ≤ 3 * (k + 1) by have := HN.out; omega)
                        have HG := Lib.hid hg
                        clear hg hgN
                        go_wp2_with fail
                        refine HG.out.mono ?_
                        rintro e w9 ⟨rfl, r9, k9⟩
                        have b9 := bo.keep k9 gF
                        have K9 := kp.trans k9 (fun g hg => .inr (F2 g hg))
                        have fz : w9.frozen? ⟨gb, f, none⟩ = false := Blk.frozen b9 _
                        have c9 := b9.cell f1
                        have ks : Keeps [gb] w9 (w9.setCell ⟨gb, f, none⟩ (.bool false)) := (Keeps.refl _ _).setCell (.inl (by simp)) _
                        have I9 : PInv w (w9.setCell ⟨gb, f, none⟩ (.bool false)) F p gb n (k + 1) (s.picked.gone f) (upB (mkP s mk f n) f false) := ⟨f8.gone f1, HN2.out, r9.keep ks (fun x hx hm => gF (by simp at hm; rwa [hm] at hx)), b9.set_ f false, K9.trans ks (fun g hg => .inr (by simp at hg; subst hg; exact gw))⟩
                        clear r bo kp r9 b9 K9 ks k9
                        go_wp2
                        go_roundw
                        case rel => exact ⟨k + 1, _, _, by omega, by go_num, I9⟩
                        case measure => simp [intOf]; omega
end Go.Proofs.Ytcikdffahnnbhaa
