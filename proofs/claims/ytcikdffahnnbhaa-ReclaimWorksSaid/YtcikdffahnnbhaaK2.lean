/- The walk of ReclaimWorks. -/
import Derived.Test.YtcikdffahnnbhaaK1
import Derived.Test.YtcikdffahnnbhaaInts
namespace Go.Proofs.Ytcikdffahnnbhaa
open Go.RowKit

set_option maxRecDepth 100000 in
set_option maxHeartbeats 3200000 in
theorem works_any (w : World) (nn : Int) (A : Option Addr) (m c : Nat) (z : Nat → Int) (o1 o2 : Int) (hm : m ≤ 9223372036854775807) (w1 : -9223372036854775808 ≤ o1 ∧ o1 ≤ 9223372036854775807) (w2 : -9223372036854775808 ≤ o2 ∧ o2 ≤ 9223372036854775807)
    (hA : 0 < m → ∃ bl off, A = some ⟨bl, off, none⟩ ∧ IntsAt w bl off m z) :
    Calls Try.prog 4 #[.int .i64 nn, .slice A m c, .int .i64 o1, .int .i64 o2] w fun e w' => e = .returned (.bool true) ∧ Keeps [] w w' := by
  by_cases g1 : nn < 1 ∨ 40 < nn ∨ 100 < m ∨ o1 = o2
  · by_cases a1 : nn < 1
    · go_enter Try.func4, Try.ntmps4
      go_wp2_with fail
      refine (small_any _).mono ?_
      rintro e w1 ⟨rfl, k1⟩
      go_wp2
      go_ret
      exact ⟨rfl, k1⟩
    by_cases a2 : 40 < nn
    · go_enter Try.func4, Try.ntmps4
      go_wp2_with fail
      refine (small_any _).mono ?_
      rintro e w1 ⟨rfl, k1⟩
      go_wp2
      go_ret
      exact ⟨rfl, k1⟩
    by_cases a3 : 100 < m
    · clear g1
      go_enter Try.func4, Try.ntmps4
      go_wp2_with fail
      refine (small_any _).mono ?_
      rintro e w1 ⟨rfl, k1⟩
      go_wp2
      go_ret
      exact ⟨rfl, k1⟩
    obtain rfl : o1 = o2 := by omega
    clear g1
    go_enter Try.func4, Try.ntmps4
    go_wp2_with fail
    refine (small_any _).mono ?_
    rintro e w1 ⟨rfl, k1⟩
    go_wp2
    go_ret
    exact ⟨rfl, k1⟩
  have b1 : 1 ≤ nn := by omega
  have b2 : nn ≤ 40 := by omega
  have b3 : m ≤ 100 := by omega
  have b4 : o1 ≠ o2 := by omega
  obtain ⟨n, rfl⟩ : ∃ n : Nat, nn = n := ⟨nn.toNat, by omega⟩
  have b1 : 1 ≤ n := by omega
  have b2 : n ≤ 40 := by omega
  clear g1 hm
  obtain ⟨x1, x2⟩ := w1
  obtain ⟨x3, x4⟩ := w2
  obtain ⟨i0, hi0, hz, hsz, hby⟩ := info_parts info4
  have hmk : ∀ W : World, (Instr.makeSlice 30 (.int .i64 n) (.int .i64 n)).run Try.prog W = .ok (.slice (some ⟨W.heap.size, 0, none⟩) n n) (W.alloc (.cells (brow n (fun _ => false)) 4)) := fun W => by
    have := run_make W 30 4 i0 _ Try.underlying30 hi0 hz .i64 .i64 n n (by omega) (by omega) (by rw [hby]; omega) (by omega)
    rw [hsz, ← madeB] at *
    exact this
  clear hi0 hz hsz hby i0
  have te : (o1 == o2) = false := by simpa using b4
  go_enter Try.func4, Try.ntmps4
  go_wp2_with fail
  refine (small_any _).mono ?_
  rintro e w1 ⟨rfl, k1⟩
  go_wp2_with fail
  refine (new_any _ n (by omega) (by omega)).mono ?_
  rintro e w2 ⟨F, p, rfl, r2, k2, f2⟩
  have K2 := k1.trans k2 (by simp)
  have F2 : ∀ x ∈ F, w.heap.size ≤ x := fun x hx => Nat.le_trans k1.size (f2 x hx)
  clear k1 k2 f2
  have kA : Keeps [] w2 (w2.alloc (.cells (brow n (fun _ => false)) 4)) := (Keeps.refl _ _).alloc _
  have rA := r2.keep kA (by simp)
  have bA : Bools (w2.alloc (.cells (brow n (fun _ => false)) 4)) w2.heap.size n (fun _ => false) := Blk.new _ _ _
  have KA := K2.trans kA (by simp)
  have gF : w2.heap.size ∉ F := fun h => by have := r2.lt _ h; omega
  have gw : w.heap.size ≤ w2.heap.size := K2.size
  clear r2 K2 kA
  go_wp2_with fail
  generalize w2.alloc (.cells (brow n (fun _ => false)) 4) = wA at *
  generalize w2.heap.size = gb at *
  have wi0 := WI.start o1 o2 n
  go_loopw [12, 13, 14] (fun ct i _ wr => ∃ (k cc : Nat) (s : Ck) (mine : Nat → Bool), k ≤ m ∧ i = .int .i64 k ∧ ct = .int .i64 cc ∧ WI s o1 o2 mine n cc ∧ s.N ≤ 4 * k ∧ (k = 0 → cc = 0) ∧ (0 < k → ∃ x, x < n ∧ (s.g x).u = true) ∧ CkRep wr F p s ∧ Bools wr gb n mine ∧ Keeps [] w wr) (fun _ i _ _ => m - (intOf i).toNat)
  case atStart => exact ⟨0, 0, ck0 n, _, by omega, rfl, rfl, wi0, by simp [ck0], fun _ => rfl, fun h => absurd h (by omega), rA, bA, KA⟩
  case round =>
    clear rA bA KA wi0
    obtain ⟨k, cc, s, mine, hk, rfl, rfl, wi, hN, hz0, hex, r, bo, kp⟩ := hrel
    have hc40 : cc ≤ 40 := by have := cnt_le mine n; have := wi.cc; omega
    by_cases hlt : k < m
    · obtain ⟨bl, off, rfl, O⟩ := hA (by omega)
      have O1 := O.keep kp
      have q0 := O1.c k hlt
      have hr := residue_any wr (z k) n (by omega) (by omega)
      have h1 := Int.emod_nonneg (z k) (by omega : (n : Int) ≠ 0)
      have h2 := Int.emod_lt_of_pos (z k) (by omega : (0 : Int) < n)
      obtain ⟨f, hf⟩ : ∃ f : Nat, z k % n = f := ⟨(z k % n).toNat, by omega⟩
      rw [hf] at hr h1 h2
      have hfn : f < n := by omega
      have HR := Lib.hid hr
      clear hr hf O1 O hA hex
      by_cases h3 : f % 3 = 2
      · have ht : (Int.tmod (f : Int) 3 == 2) = true := by
          rw [Int.tmod_eq_emod_of_nonneg (by omega)]; simp; omega
        obtain ⟨wi2, hu2⟩ := wi.other b4 hfn h3
        have hN2 := use_N s f o2
        have hu := use_any wr F p s f o2 r (by omega) x3 x4
        have HU := Lib.hid hu
        have HE := Lib.hid (And.intro wi2 (show (s.use f o2).N ≤ 4 * (k + 1) by omega))
        clear hu wi2 hN2 wi
        go_wp2_with fail
        refine HR.out.mono ?_
        rintro e w3 ⟨rfl, rfl⟩
        go_wp2_with fail
        refine HU.out.mono ?_
        rintro e w4 ⟨rfl, r4, k4⟩
        have K4 := kp.trans k4 (fun g hg => .inr (F2 g hg))
        have b4' := bo.keep k4 gF
        clear r bo kp k4
        go_wp2
        go_roundw
        case rel => exact ⟨k + 1, cc, _, mine, by omega, by go_num, rfl, HE.out.1, HE.out.2, fun h => absurd h (by omega), fun _ => ⟨f, hfn, hu2⟩, r4, b4', K4⟩
        case measure => simp [intOf]; omega
      · have ht : (Int.tmod (f : Int) 3 == 2) = false := by
          rw [Int.tmod_eq_emod_of_nonneg (by omega)]; simp; omega
        obtain ⟨wi2, hu2, hN2⟩ := wi.own hfn h3
        have hNu := use_N s f o1
        have hu := use_any wr F p s f o1 r (by omega) x1 x2
        have HU := Lib.hid hu
        have q1 := bo.cell hfn
        have bs := fun {W : World} (b : Bools W gb n mine) => b.set_ f true
        cases hmf : mine f with
        | true =>
          rw [hmf] at wi2 q1
          simp only [if_true] at wi2
          have hup : upB mine f true = mine := by
            funext x; unfold upB; by_cases e : x = f
            · subst e; simp [hmf]
            · simp [e]
          rw [hup] at wi2
          have HE := Lib.hid (And.intro wi2 (show ((s.use f o1).touch f).N ≤ 4 * (k + 1) by omega))
          have HN := Lib.hid (show (s.use f o1).N ≤ 1000000 by omega)
          clear hu wi2 hNu hN2 wi bs hup
          go_wp2_with fail
          refine HR.out.mono ?_
          rintro e w3 ⟨rfl, rfl⟩
          go_wp2_with fail
          refine HU.out.mono ?_
          rintro e w4 ⟨rfl, r4, k4⟩
          have K4 := kp.trans k4 (fun g hg => .inr (F2 g hg))
          have b4' := bo.keep k4 gF
          clear r bo kp k4
          go_wp2_with fail
          refine (touch_any _ F p _ f r4 HN.out).mono ?_
          rintro e w5 ⟨rfl, r5, k5⟩
          have K5 := K4.trans k5 (fun g hg => .inr (F2 g hg))
          have b5 := b4'.keep k5 gF
          clear r4 b4' K4 k5
          have q5 := b5.cell hfn
          rw [hmf] at q5
          have hU := HE.out.1.cu
          have hW := HE.out.1.cn
          have hB := HE.out.1.b0 o1
          go_wp2_with fail
          refine (used_any _ F p _ o1 r5 x1 x2).mono ?_
          rw [hU]
          rintro e w6 ⟨rfl, rfl⟩
          go_wp2_with fail
          refine (work_any _ F p _ o1 r5 x1 x2).mono ?_
          rw [hW, hB, show max ((cc : Int) : Int) 0 = (cc : Int) by omega]
          rintro e w7 ⟨rfl, r7, k7⟩
          have K7 := K5.trans k7 (by simp)
          have b7 := b5.keep k7 (by simp)
          clear hU hW hB r5 K5 b5 k7
          go_wp2
          go_roundw
          case rel => exact ⟨k + 1, cc, _, mine, by omega, by go_num, by go_num, HE.out.1, HE.out.2, fun h => absurd h (by omega), fun _ => ⟨f, hfn, hu2⟩, r7, b7, K7⟩
          case measure => simp [intOf]; omega
        | false =>
          rw [hmf] at wi2 q1
          simp only [Bool.false_eq_true, if_false] at wi2
          have HE := Lib.hid (And.intro wi2 (show ((s.use f o1).touch f).N ≤ 4 * (k + 1) by omega))
          have HN := Lib.hid (show (s.use f o1).N ≤ 1000000 by omega)
          clear hu wi2 hNu hN2 wi bs
          go_wp2_with fail
          refine HR.out.mono ?_
          rintro e w3 ⟨rfl, rfl⟩
          go_wp2_with fail
          refine HU.out.mono ?_
          rintro e w4 ⟨rfl, r4, k4⟩
          have K4 := kp.trans k4 (fun g hg => .inr (F2 g hg))
          have b4' := bo.keep k4 gF
          clear r bo kp k4
          go_wp2_with fail
          refine (touch_any _ F p _ f r4 HN.out).mono ?_
          rintro e w5 ⟨rfl, r5, k5⟩
          have K5 := K4.trans k5 (fun g hg => .inr (F2 g hg))
          have b5 := b4'.keep k5 gF
          clear r4 b4' K4 k5
          have q5 := b5.cell hfn
          rw [hmf] at q5
          have fz : w5.frozen? ⟨gb, f, none⟩ = false := Blk.frozen b5 f
          have ks : Keeps [gb] w5 (w5.setCell ⟨gb, f, none⟩ (.bool true)) := (Keeps.refl _ _).setCell (.inl (by simp)) _
          have rs := r5.keep ks (fun x hx hm => gF (by simp at hm; rwa [hm] at hx))
          have b6 := b5.set_ f true
          have K6 := K5.trans ks (fun g hg => .inr (by simp at hg; subst hg; exact gw))
          clear r5 K5 ks b5
          have hU := HE.out.1.cu
          have hW := HE.out.1.cn
          have hB := HE.out.1.b0 o1
          go_wp2_with fail
          refine (used_any _ F p _ o1 rs x1 x2).mono ?_
          rw [hU]
          rintro e w6 ⟨rfl, rfl⟩
          go_wp2_with fail
          refine (work_any _ F p _ o1 rs x1 x2).mono ?_
          rw [hW, hB, show max (((cc + 1 : Nat) : Int) : Int) 0 = ((cc + 1 : Nat) : Int) by omega]
          rintro e w7 ⟨rfl, r7, k7⟩
          have K7 := K6.trans k7 (by simp)
          have b7 := b6.keep k7 (by simp)
          clear hU hW hB rs K6 b6 k7
          go_wp2
          go_roundw
          case rel => exact ⟨k + 1, cc + 1, _, upB mine f true, by omega, by go_num, by go_num, HE.out.1, HE.out.2, fun h => absurd h (by omega), fun _ => ⟨f, hfn, hu2⟩, r7, b7, K7⟩
          case measure => simp [intOf]; omega
    · obtain rfl : k = m := by omega
      clear hA
      by_cases hk0 : k = 0
      · subst hk0
        have hW := wi.cn
        have hB := wi.b0 o1
        obtain rfl := hz0 rfl
        clear hex wi bo
        go_wp2_with fail
        refine (work_any _ F p _ o1 r x1 x2).mono ?_
        rw [hW, hB]
        rintro e w7 ⟨rfl, r7, k7⟩
        have K7 := kp.trans k7 (by simp)
        go_wp2
        go_ret
        exact ⟨rfl, K7⟩
      · obtain ⟨x, hx, hxu⟩ := hex (by omega)
        obtain ⟨f, f1, f2, f3, f4, f5⟩ := wi.pick hx hxu
        have hp := pick_any wr F p s r
        rw [f2, f3] at hp
        have HP := Lib.hid hp
        clear hp f2 f3 hex hx hxu wi bo r
        by_cases hl : f + 1 = n
        · rw [if_pos hl] at f4
          have ht : ((f : Int) == (n : Int) - 1) = true := by simp; omega
          clear hl
          go_wp2_with fail
          refine HP.out.mono ?_
          rintro e w3 ⟨rfl, r3, k3⟩
          have K3 := kp.trans k3 (fun g hg => .inr (F2 g hg))
          clear kp k3
          go_wp2_with fail
          refine (work_any _ F p _ o1 r3 x1 x2).mono ?_
          rw [f4]
          rintro e w7 ⟨rfl, r7, k7⟩
          have K7 := K3.trans k7 (by simp)
          clear r3 K3 k7
          go_wp2_with fail
          refine (used_any _ F p _ o1 r7 x1 x2).mono ?_
          rw [f5]
          rintro e w8 ⟨rfl, rfl⟩
          go_wp2
          go_ret
          exact ⟨rfl, K7⟩
        · rw [if_neg hl] at f4
          have ht : ((f : Int) == (n : Int) - 1) = false := by simp; omega
          clear hl
          go_wp2_with fail
          refine HP.out.mono ?_
          rintro e w3 ⟨rfl, r3, k3⟩
          have K3 := kp.trans k3 (fun g hg => .inr (F2 g hg))
          clear kp k3
          go_wp2_with fail
          refine (work_any _ F p _ o1 r3 x1 x2).mono ?_
          rw [f4]
          rintro e w7 ⟨rfl, r7, k7⟩
          have K7 := K3.trans k7 (by simp)
          clear r3 K3 k7
          go_wp2_with fail
          refine (used_any _ F p _ o1 r7 x1 x2).mono ?_
          rw [f5]
          rintro e w8 ⟨rfl, rfl⟩
          go_wp2
          go_ret
          exact ⟨by simp, K7⟩
end Go.Proofs.Ytcikdffahnnbhaa
