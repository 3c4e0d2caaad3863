/- The walk of ReclaimDrains. -/
import Derived.Test.YtcikdffahnnbhaaD1
namespace Go.Proofs.Ytcikdffahnnbhaa
open Go.RowKit

set_option maxRecDepth 100000 in
set_option maxHeartbeats 3200000 in
theorem drains_any (w : World) (nn : Int) (A : Option Addr) (m c : Nat) (d f o : Nat → Int) (hm : m ≤ 9223372036854775807)
    (hA : 0 < m → ∃ bl off, A = some ⟨bl, off, none⟩ ∧ ActsAt w bl off m d f o) :
    Calls Try.prog 3 #[.int .i64 nn, .slice A m c] w fun e w' => e = .returned (.bool true) ∧ Keeps [] w w' := by
  by_cases g1 : nn < 1 ∨ 40 < nn ∨ 150 < m
  · by_cases a1 : nn < 1
    · go_enter Try.func3, Try.ntmps3
      go_wp2_with fail
      refine (small_any _).mono ?_
      rintro e w1 ⟨rfl, k1⟩
      go_wp2
      go_ret
      exact ⟨rfl, k1⟩
    by_cases a2 : 40 < nn
    · go_enter Try.func3, Try.ntmps3
      go_wp2_with fail
      refine (small_any _).mono ?_
      rintro e w1 ⟨rfl, k1⟩
      go_wp2
      go_ret
      exact ⟨rfl, k1⟩
    have a3 : 150 < m := by omega
    clear g1
    go_enter Try.func3, Try.ntmps3
    go_wp2_with fail
    refine (small_any _).mono ?_
    rintro e w1 ⟨rfl, k1⟩
    go_wp2
    go_ret
    exact ⟨rfl, k1⟩
  have b1 : 1 ≤ nn := by omega
  have b2 : nn ≤ 40 := by omega
  have b3 : m ≤ 150 := by omega
  obtain ⟨n, rfl⟩ : ∃ n : Nat, nn = n := ⟨nn.toNat, by omega⟩
  have b1 : 1 ≤ n := by omega
  have b2 : n ≤ 40 := by omega
  clear g1 hm
  obtain ⟨i0, hi0, hz, hsz, hby⟩ := info_parts info4
  have hmk : ∀ W : World, (Instr.makeSlice 30 (.int .i64 n) (.int .i64 n)).run Try.prog W = .ok (.slice (some ⟨W.heap.size, 0, none⟩) n n) (W.alloc (.cells (brow n (fun _ => false)) 4)) := fun W => by
    have := run_make W 30 4 i0 _ Try.underlying30 hi0 hz .i64 .i64 n n (by omega) (by omega) (by rw [hby]; omega) (by omega)
    rw [hsz, ← madeB] at *
    exact this
  clear hi0 hz hsz hby i0
  go_enter Try.func3, Try.ntmps3
  go_wp2_with fail
  refine (small_any _).mono ?_
  rintro e w1 ⟨rfl, k1⟩
  go_wp2_with fail
  refine (new_any _ n (by omega) (by omega)).mono ?_
  rintro e w2 ⟨F, p, rfl, r2, k2, f2⟩
  have K2 := k1.trans k2 (by simp)
  have F2 : ∀ x ∈ F, w.heap.size ≤ x := fun x hx => Nat.le_trans k1.size (f2 x hx)
  clear k1 k2 f2
  go_wp2_with fail
  go_loopw [7] (fun i wr => ∃ (k : Nat) (s : Ck), k ≤ m ∧ i = .int .i64 k ∧ s.L.length = n ∧ s.N ≤ 3 * k ∧ CkRep wr F p s ∧ Keeps [] w wr) (fun i _ => m - (intOf i).toNat)
  case atStart => exact ⟨0, ck0 n, by omega, rfl, by simp [ck0], by simp [ck0], r2, K2⟩
  case round =>
    clear r2 K2
    obtain ⟨k, s, hk, rfl, hl, hN, r, kp⟩ := hrel
    by_cases hlt : k < m
    · obtain ⟨bl, off, rfl, O⟩ := hA (by omega)
      obtain ⟨x1, x2⟩ := O.ro k hlt
      have O1 := O.keep kp
      have q0 := O1.c0 k hlt
      have q1 := O1.c1 k hlt
      have q2 := O1.c2 k hlt
      have e1 := op_len s (d k) (f k) (o k)
      have e2 := op_N s (d k) (f k) (o k)
      have hx := do_any wr F p s (d k) (f k) (o k) r (by omega) x1 x2
      have HE := Lib.hid (show (s.op (d k) (f k) (o k)).L.length = n ∧ (s.op (d k) (f k) (o k)).N ≤ 3 * (k + 1) by omega)
      clear O1 e1 e2 O
      go_wp2_with fail
      refine hx.mono ?_
      clear hx
      rintro e w3 ⟨rfl, r3, k3⟩
      have K3 := kp.trans k3 (fun g hg => .inr (F2 g hg))
      clear k3 r kp
      go_wp2
      go_roundw
      case rel => exact ⟨k + 1, _, by omega, by go_num, HE.out.1, HE.out.2, r3, K3⟩
      case measure => simp [intOf]; omega
    · obtain rfl : k = m := by omega
      have tk : decide ((k : Int) < (k : Int)) = false := by simp
      clear hA
      have kA : Keeps [] wr (wr.alloc (.cells (brow n (fun _ => false)) 4)) := (Keeps.refl _ _).alloc _
      have rA := r.keep kA (by simp)
      have bA : Bools (wr.alloc (.cells (brow n (fun _ => false)) 4)) wr.heap.size n (fun _ => false) := Blk.new _ _ _
      have KA := kp.trans kA (by simp)
      have gF : wr.heap.size ∉ F := fun h => by have := r.lt _ h; omega
      have gw : w.heap.size ≤ wr.heap.size := kp.size
      have hs := ck_hlt r
      clear r kp kA
      go_wp2_with fail
      generalize wr.alloc (.cells (brow n (fun _ => false)) 4) = wA at *
      generalize wr.heap.size = gb at *
      subst hl
      go_loopw [9, 10] (fun ct i wr => ∃ (j : Nat), j ≤ s.L.length ∧ i = .int .i64 j ∧ ct = .int .i64 (cnt (fun x => (s.g x).u) j : Nat) ∧ CkRep wr F p s ∧ Bools wr gb s.L.length (fun x => decide (x < j) && (s.g x).u) ∧ Keeps [] w wr) (fun _ i _ => s.L.length - (intOf i).toNat)
      case atStart => exact ⟨0, by omega, rfl, rfl, rA, bA.cong (fun x _ => by simp), KA⟩
      case round =>
        clear rA bA KA
        obtain ⟨j, hj, rfl, rfl, r, bo, kp⟩ := hrel
        have hc := cnt_le (fun x => (s.g x).u) j
        by_cases hlt : j < s.L.length
        · have ho := owner_any wr F p s j r
          have hu : s.used (j : Int) = (s.g j).u := by rw [Ck.used_nat hlt]; unfold Ck.g; simp [List.getD, hlt]
          rw [hu] at ho
          have HO := Lib.hid ho
          clear ho hu
          have bs := bo.set_ j (s.g j).u
          have b0 := bo.cell hlt
          have fz : wr.frozen? ⟨gb, j, none⟩ = false := Blk.frozen bo j
          simp only [Nat.lt_irrefl, decide_false, Bool.false_and] at b0
          have ks : Keeps [gb] wr (wr.setCell ⟨gb, j, none⟩ (.bool (s.g j).u)) := (Keeps.refl _ _).setCell (.inl (by simp)) _
          have rs := r.keep ks (fun x hx hm => gF (by simp at hm; rwa [hm] at hx))
          have bs : Bools (wr.setCell ⟨gb, j, none⟩ (.bool (s.g j).u)) gb s.L.length (fun x => decide (x < j + 1) && (s.g x).u) := bs.cong (fun x _ => by
            unfold upB; by_cases e : x = j
            · simp [e]
            · rw [if_neg e, decide_eq_decide.2 (show x < j + 1 ↔ x < j by omega)])
          have c1 : (wr.setCell ⟨gb, j, none⟩ (.bool (s.g j).u)).cell? ⟨gb, j, none⟩ = some (.bool (s.g j).u) := by
            rw [bs.cell hlt]; simp
          have K3 := kp.trans ks (fun g hg => .inr (by simp at hg; subst hg; exact gw))
          have HR := Lib.hid (And.intro rs (And.intro bs K3))
          have HC : cnt (fun x => (s.g x).u) (j + 1) = cnt (fun x => (s.g x).u) j + if (s.g j).u then 1 else 0 := rfl
          have HC := Lib.hid HC
          clear rs bs K3 ks r bo kp
          cases hb : (s.g j).u with
          | true =>
            rw [hb] at c1 HO HR HC
            clear hb
            go_wp2_with fail
            refine HO.out.mono ?_
            rintro e w3 ⟨rfl, rfl⟩
            go_wp2
            go_roundw
            case rel => exact ⟨j + 1, by omega, by go_num, by rw [HC.out]; go_num, HR.out⟩
            case measure => simp [intOf]; omega
          | false =>
            rw [hb] at c1 HO HR HC
            clear hb
            go_wp2_with fail
            refine HO.out.mono ?_
            rintro e w3 ⟨rfl, rfl⟩
            go_wp2
            go_roundw
            case rel => exact ⟨j + 1, by omega, by go_num, by rw [HC.out]; go_num, HR.out⟩
            case measure => simp [intOf]; omega
        · obtain rfl : j = s.L.length := by omega
          have tk2 : decide ((s.L.length : Int) < (s.L.length : Int)) = false := by simp
          have bo : Bools wr gb s.L.length (fun x => (s.g x).u) := bo.cong (fun x hx => by simp [hx])
          generalize hn : s.L.length = n at *
          generalize hq : cnt (fun x => (s.g x).u) n = q at *
          go_wp2_with fail
          go_loopw [11, 12, 13] (fun i _ _ wr => ∃ (j : Nat) (t : Ck), j ≤ q ∧ i = .int .i64 j ∧ t.L.length = n ∧ t.N ≤ 450 + j ∧ cnt (fun x => (t.g x).u) n + j = q ∧ CkRep wr F p t ∧ Bools wr gb n (fun x => (t.g x).u) ∧ Keeps [] w wr) (fun i _ _ _ => q - (intOf i).toNat)
          case atStart => exact ⟨0, s, by omega, rfl, hn, by omega, by omega, r, bo, kp⟩
          case round =>
            clear r bo kp
            obtain ⟨j, t, hj, rfl, hl, hN, hq2, r, bo, kp⟩ := hrel
            have ht := ck_hlt r
            by_cases hlt : j < q
            · obtain ⟨f, f1, f2, f3, f4, f5⟩ := pick_gone ht (by rw [hl]; omega)
              rw [hl] at f1
              have g1 := (bo.cell f1)
              rw [f4] at g1
              have hp := pick_any wr F p t r
              rw [f2, f3] at hp
              have e0 : ((t.picked.gone (f : Int)).L.length = n) := by rw [gone_len, picked_len, hl]
              have e1 : (t.picked.gone (f : Int)).N ≤ 450 + (j + 1) := by have := gone_N t.picked f; rw [picked_N] at this; omega
              have e2 := cnt_off (f := fun x => (t.g x).u) f1 f4
              have e3 : cnt (fun x => ((t.picked.gone (f : Int)).g x).u) n + (j + 1) = q := by
                rw [cnt_congr (g := upB (fun x => (t.g x).u) f false) (fun x _ => f5 x)]; omega
              have HP := Lib.hid hp
              have HE := Lib.hid (And.intro e0 (And.intro e1 (And.intro e3 f5)))
              have hN2 : t.picked.N ≤ 1000000 := by rw [picked_N]; omega
              have HN2 := Lib.hid hN2
              clear hp e0 e1 e2 e3 f5 f2 f3 f4 hN2 r
              go_wp2_with fail
              refine HP.out.mono ?_
              rintro e w3 ⟨rfl, r3, k3⟩
              have gb3 := bo.keep k3 gF
              have K3 := kp.trans k3 (fun g hg => .inr (F2 g hg))
              have g3 : w3.cell? ⟨gb, f, none⟩ = some (.bool true) := by rw [gb3.cell f1, ← bo.cell f1]; exact g1
              have fz : w3.frozen? ⟨gb, f, none⟩ = false := Blk.frozen gb3 f
              have ks : Keeps [gb] w3 (w3.setCell ⟨gb, f, none⟩ (.bool false)) := (Keeps.refl _ _).setCell (.inl (by simp)) _
              have rs := r3.keep ks (fun x hx hm => gF (by simp at hm; rwa [hm] at hx))
              have bs := gb3.set_ f false
              have K4 := K3.trans ks (fun g hg => .inr (by simp at hg; subst hg; exact gw))
              clear kp k3 r3 K3 ks gb3 g1 bo
              go_wp2_with fail
              refine (gone_any _ F p t.picked f rs HN2.out).mono ?_
              rintro e w5 ⟨rfl, r5, k5⟩
              have K5 := K4.trans k5 (fun g hg => .inr (F2 g hg))
              have b5 := bs.keep k5 gF
              clear rs bs K4 k5
              go_wp2
              go_roundw
              case rel => exact ⟨j + 1, t.picked.gone f, by omega, by go_num, HE.out.1, HE.out.2.1, HE.out.2.2.1, r5, b5.cong (fun x _ => (HE.out.2.2.2 x).symm), K5⟩
              case measure => simp [intOf]; omega
            · obtain rfl : j = q := by omega
              have hv := pick_none ht (by rw [hl]; omega)
              have hp := pick_any wr F p t r
              rw [hv] at hp
              have HP := Lib.hid hp
              clear hp r hv
              go_wp2_with fail
              refine HP.out.mono ?_
              rintro e w3 ⟨rfl, r3, k3⟩
              have K3 := kp.trans k3 (fun g hg => .inr (F2 g hg))
              go_wp2
              go_ret
              exact ⟨rfl, K3⟩
end Go.Proofs.Ytcikdffahnnbhaa
