/- TablesLevels: the walk. -/
import Derived.Test.YtnnoekcnhdcodaaL1
namespace Go.Proofs.Ytnnoekcnhdcodaa
open Go.RowKit

/-- What holds at the head of each round of the second loop. -/
structure LevInv (w wr : World) (F : List Nat) (p : Nat) (m : Nat → Option E) (k : Nat) (v : Value) : Prop where
  r : TbRep wr F p m
  o : wr.ownsRow 0 27 5 v (ents m k).length (cells5 (ents m k))
  f : ∀ x ∈ fp v, w.heap.size ≤ x
  n : ∀ g ∈ F, g ∉ fp v
  kp : Keeps [] w wr

set_option maxRecDepth 100000 in
set_option maxHeartbeats 16000000 in
theorem lev_any (w : World) (A : Option Addr) (n c : Nat) (d pg f : Nat → Int) (b : Nat → Bool) (hn : n ≤ 9223372036854775807)
    (hA : 0 < n → ∃ bl off, A = some ⟨bl, off, none⟩ ∧ ActsAt w bl off n d pg f b) :
    Calls Try.prog 5 #[.slice A n c] w fun e w' => e = .returned (.bool true) ∧ Keeps [] w w' := by
  by_cases g1 : 200 < n
  · go_enter Try.func5, Try.ntmps5
    go_wp2_with fail
    refine (small_any _).mono ?_
    rintro e w1 ⟨rfl, k1⟩
    go_wp2
    go_ret
    exact ⟨rfl, k1⟩
  go_enter Try.func5, Try.ntmps5
  go_wp2_with fail
  refine (small_any _).mono ?_
  rintro e w1 ⟨rfl, k1⟩
  go_wp2_with fail
  refine (new_any _).mono ?_
  rintro e w2 ⟨F, p, rfl, r2, k2, f2⟩
  have K2 := k1.trans k2 (by simp)
  have F2 : ∀ x ∈ F, w.heap.size ≤ x := fun x hx => Nat.le_trans k1.size (f2 x hx)
  clear k1 k2 f2
  go_wp2_with fail
  go_loopw [5] (fun i wr => ∃ (k : Nat) (m : Nat → Option E) (F : List Nat), k ≤ n ∧ i = .int .i64 k ∧ TbRep wr F p m ∧ Keeps [] w wr ∧ ∀ x ∈ F, w.heap.size ≤ x) (fun i _ => n - (intOf i).toNat)
  case atStart => exact ⟨0, _, F, by omega, rfl, r2, K2, F2⟩
  case round =>
    clear r2 K2 F2
    obtain ⟨k, m, F, hk, rfl, r, kp, fF⟩ := hrel
    by_cases hlt : k < n
    · obtain ⟨bl, off, rfl, O⟩ := hA (by omega)
      obtain ⟨x1, x2⟩ := O.rg k hlt
      obtain ⟨x3, x4⟩ := O.rf k hlt
      have O1 := O.keep kp
      have q0 := O1.c0 k hlt
      have q1 := O1.c1 k hlt
      have q2 := O1.c2 k hlt
      have q3 := O1.c3 k hlt
      clear O1
      have hx := do_any wr F p m (d k) (pg k) (f k) (b k) r x1 x2 x3 x4
      go_wp2_with fail
      refine hx.mono ?_
      clear hx
      rintro e w3 ⟨F3, rfl, r3, k3, f3⟩
      have K3 := kp.trans k3 (fun g hg => .inr (fF g hg))
      have hs := kp.size
      have f4 : ∀ x ∈ F3, w.heap.size ≤ x := fun x hx => by rcases f3 x hx with h1 | h1; exact fF x h1; omega
      clear k3 r kp f3 fF
      go_wp2
      go_roundw
      case rel => exact ⟨k + 1, _, F3, by omega, by go_num, r3, K3, f4⟩
      case measure => simp [intOf]; omega
    · obtain rfl : k = n := by omega
      have tk : decide ((k : Int) < (k : Int)) = false := by simp
      clear hA
      go_wp2_with fail
      have I0 : LevInv w wr F p m 0 (.slice none 0 0) := ⟨r, World.ownsRow_nil _ _ _ _, by simp, by simp, kp⟩
      clear r kp
      obtain ⟨w0, rfl⟩ : ∃ w0 : World, w0 = wr := ⟨_, rfl⟩
      go_loopw [6, 7, 8, 9] (fun v l s q wr => ∃ (page : Int) (k : Nat), -2 ≤ page ∧ page ≤ 258 ∧ q = .int .i64 page ∧ k = (max 0 (min page 256)).toNat ∧ l = .int .i64 (lv m k).1 ∧ s = .int .i64 (lv m k).2 ∧ LevInv w wr F p m k v) (fun _ _ _ q _ => (258 - intOf q).toNat)
      case atStart => exact ⟨-2, 0, by omega, by omega, rfl, rfl, rfl, rfl, I0⟩
      case round =>
        clear I0
        obtain ⟨page, k, p1, p2, rfl, hk, rfl, rfl, I⟩ := hrel
        by_cases ht : page < 258
        rotate_left
        · obtain rfl : page = 258 := by omega
          have hk : k = 256 := by rw [hk]; decide
          subst hk
          have hl := (lv_levs m 16).1
          rw [show 16 * 16 = 256 from rfl] at hl
          rw [hl]
          clear hl
          have oi := I.o
          have ri := I.r
          have ki := I.kp
          clear I
          go_wp2_with fail
          refine (entries_any _ F p m ri).mono ?_
          rintro e w5 ⟨u, rfl, o5, k5, -⟩
          have r5 := ri.keep k5 (by simp)
          go_wp2_with fail
          refine (same_any _ _ _ _ o5 (own_keep oi k5 (by simp))).mono ?_
          rintro e w6 ⟨rfl, k6⟩
          have r6 := r5.keep k6 (by simp)
          go_wp2_with fail
          refine (levels_any _ F p m r6).mono ?_
          rintro e w7 ⟨rfl, rfl⟩
          have K := (ki.trans k5 (by simp)).trans k6 (by simp)
          go_wp2
          go_ret
          exact ⟨rfl, K⟩
        have HO := Lib.hid I.r.o
        have hv := own_shape I.o
        obtain ⟨A2, cap2, rfl, hc1, hc2, -⟩ := hv
        have hel := ents_len m k
        have hl0 := lv_le m k
        have hx := look_any2 wr F p m page I.r (by omega) (by omega)
        cases he : ent m page with
        | none =>
          rw [lookX_none he, he] at hx
          simp only [Option.isSome_none] at hx
          have HX := Lib.hid hx
          have hk2 : ∃ k2, k2 = (max 0 (min (page + 1) 256)).toNat ∧ lv m k2 = lv m k ∧ ents m k2 = ents m k := by
            by_cases a : 0 ≤ page ∧ page < 256
            · have hkp : page = k := by omega
              subst hkp
              rw [ent_nat] at he
              exact ⟨k + 1, by omega, lv_none he, ents_none he⟩
            · exact ⟨k, by omega, rfl, rfl⟩
          obtain ⟨k2, h1, h2, h3⟩ := hk2
          have H1 := Lib.hid h1
          have H2 := Lib.hid h2
          have H3 := Lib.hid h3
          clear hx he h1 h2 h3 hk
          go_wp2_with fail
          refine HX.out.mono ?_
          rintro e w5 ⟨rfl, r5, k5⟩
          have kn : Keeps [] w5 (w5.alloc (.cells #[.int .i64 0, .int .i64 0, .bool false, .bool false, .bool false] 27)) := (Keeps.refl _ _).alloc _
          have J : Hid (LevInv w (w5.alloc (.cells #[.int .i64 0, .int .i64 0, .bool false, .bool false, .bool false] 27)) F p m k2 (.slice A2 (ents m k).length cap2)) :=
            Lib.hid ⟨r5.keep kn (by simp), by rw [H3.out]; exact own_keep (own_keep I.o k5 (by simp)) kn (by simp), I.f, I.n, (I.kp.trans k5 (by simp)).trans kn (by simp)⟩
          clear r5 k5 kn I HX
          go_wp2
          go_roundw
          case rel => exact ⟨page + 1, k2, by omega, by omega, by go_num, H1.out, by rw [H2.out], by rw [H2.out], J.out⟩
          case measure => simp [intOf]; omega
        | some x =>
          rw [lookX_some he, he] at hx
          simp only [Option.isSome_some] at hx
          have a0 := ent_nonneg he
          obtain ⟨pn, rfl⟩ := Int.eq_ofNat_of_zero_le a0
          rw [ent_nat] at he
          have a1 : pn < 256 := by
            rcases Nat.lt_or_ge pn 256 with h | h
            · exact h
            · rw [HO.out pn h] at he; cases he
          obtain rfl : k = pn := by omega
          have HX := Lib.hid hx
          have HE := Lib.hid (ents_some he)
          have h16 : ((k / 16 : Nat) : Int) = ((k : Int) / 16) := by omega
          have hkk : Hid (k + 1 = (max 0 (min ((k : Int) + 1) 256)).toNat) := Lib.hid (by omega)
          have hnew := fun h => lv_new he h
          have hsame := fun h => lv_same he h
          rw [h16] at hnew hsame
          have HN := Lib.hid hnew
          have HS := Lib.hid hsame
          clear hx he hk h16 hnew hsame
          generalize hS : (lv m k).2 = s at *
          have HSS := Lib.hid hS
          clear hS
          go_wp2_with fail
          refine HX.out.mono ?_
          rintro e w5 ⟨rfl, r5, k5⟩
          have kn : Keeps [] w5 ((w5.alloc (.cells #[.int .i64 k, .int .i64 x.fr, .bool x.wr, .bool x.ac, .bool x.di] 27)).alloc (.cells #[.int .i64 k, .int .i64 x.fr, .bool x.wr, .bool x.ac, .bool x.di] 27)) := ((Keeps.refl _ _).alloc _).alloc _
          have HRd : Hid (Reads ((w5.alloc (.cells #[.int .i64 k, .int .i64 x.fr, .bool x.wr, .bool x.ac, .bool x.di] 27)).alloc (.cells #[.int .i64 k, .int .i64 x.fr, .bool x.wr, .bool x.ac, .bool x.di] 27)) (w5.heap.size + 1 + 1) 5 (some ⟨w5.heap.size + 1, 0, none⟩) 1 (c5 (k, x))) := Lib.hid (by
            have := reads_cells (w5.alloc (.cells #[.int .i64 k, .int .i64 x.fr, .bool x.wr, .bool x.ac, .bool x.di] 27)) #[.int .i64 k, .int .i64 x.fr, .bool x.wr, .bool x.ac, .bool x.di] 1 5 27 rfl
            rw [show (w5.alloc (.cells #[.int .i64 k, .int .i64 x.fr, .bool x.wr, .bool x.ac, .bool x.di] 27)).heap.size = w5.heap.size + 1 by simp] at this
            exact this)
          have nF : Hid (∀ g ∈ F, g ∉ fp (.slice A2 (ents m k).length cap2)) := Lib.hid I.n
          have o5 := own_keep I.o (k5.trans kn (by simp)) (by simp)
          have r6 := r5.keep kn (by simp)
          have K6 := (I.kp.trans k5 (by simp)).trans kn (by simp)
          have fv := I.f
          clear r5 k5 kn I HX
          by_cases hs : ((k : Int) / 16) = s
          · have ts : ((k : Int) / 16 != s) = false := by simp [hs]
            have HT := Lib.hid hs
            clear hs
            go_wp2_with (at_builtin; refine wpList_app _ rfl (.tmp 59) (.tmp 61) _ rfl 27 (.agg #[.int .i64 0, .int .i64 0, .bool false, .bool false, .bool false]) 5 24 Try.underlying39 (by kernel_rfl) rfl (by omega) (.slice A2 (ents m k).length cap2) _ _ rfl o5 _ _ _ _ (c5 (k, x)) rfl HRd.out (by simp [c5, Value.oneCell']) (by unfold maxLen; omega) (by omega) ?_)
            intro v' w' ho' hk' hf'
            have J : Hid (LevInv w w' F p m (k + 1) v') := Lib.hid ⟨r6.keep hk' nF.out, by rw [HE.out, cells5_snoc]; simpa using ho', fun g hg => by
              rcases hf' g hg with h1 | h1
              · exact fv g h1
              · have := K6.size; simp at this; omega, fun g hg h => by
              rcases hf' g h with h1 | h1
              · exact nF.out g hg h1
              · have := r6.lt g hg; simp at this; omega, K6.trans hk' (fun g hg => .inr (fv g hg))⟩
            clear ho' hk' hf' o5 r6 K6 HRd nF
            go_wp2
            go_roundw
            case rel => exact ⟨(k : Int) + 1, k + 1, by omega, by omega, by go_num, hkk.out, by rw [HS.out HT.out], by rw [HS.out HT.out, HSS.out], J.out⟩
            case measure => simp [intOf]; omega
          · have ts : ((k : Int) / 16 != s) = true := by simp [hs]
            have HT := Lib.hid hs
            clear hs
            go_wp2_with (at_builtin; refine wpList_app _ rfl (.tmp 59) (.tmp 61) _ rfl 27 (.agg #[.int .i64 0, .int .i64 0, .bool false, .bool false, .bool false]) 5 24 Try.underlying39 (by kernel_rfl) rfl (by omega) (.slice A2 (ents m k).length cap2) _ _ rfl o5 _ _ _ _ (c5 (k, x)) rfl HRd.out (by simp [c5, Value.oneCell']) (by unfold maxLen; omega) (by omega) ?_)
            intro v' w' ho' hk' hf'
            have J : Hid (LevInv w w' F p m (k + 1) v') := Lib.hid ⟨r6.keep hk' nF.out, by rw [HE.out, cells5_snoc]; simpa using ho', fun g hg => by
              rcases hf' g hg with h1 | h1
              · exact fv g h1
              · have := K6.size; simp at this; omega, fun g hg h => by
              rcases hf' g h with h1 | h1
              · exact nF.out g hg h1
              · have := r6.lt g hg; simp at this; omega, K6.trans hk' (fun g hg => .inr (fv g hg))⟩
            clear ho' hk' hf' o5 r6 K6 HRd nF
            go_wp2
            go_roundw
            case rel => exact ⟨(k : Int) + 1, k + 1, by omega, by omega, by go_num, hkk.out, by rw [HN.out HT.out]; go_num, by rw [HN.out HT.out], J.out⟩
            case measure => simp [intOf]; omega
end Go.Proofs.Ytnnoekcnhdcodaa
