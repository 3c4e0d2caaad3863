/- TablesMap: the walk. -/
import Derived.Test.YtnnoekcnhdcodaaM1
import Derived.Deep.DeepCutAuto
namespace Go.Proofs.Ytnnoekcnhdcodaa
open Go.RowKit

set_option maxRecDepth 100000 in
set_option maxHeartbeats 16000000 in
theorem map_law (w : World) (A : Option Addr) (n c : Nat) (d pg f : Nat → Int) (b : Nat → Bool) (page : Int) (hn : n ≤ 9223372036854775807) (p1 : -9223372036854775808 ≤ page) (p2 : page ≤ 9223372036854775807)
    (hA : 0 < n → ∃ bl off, A = some ⟨bl, off, none⟩ ∧ ActsAt w bl off n d pg f b) :
    Calls Try.prog 3 #[.slice A n c, .int .i64 page] w fun e w' => e = .returned (.bool true) ∧ Keeps [] w w' := by
  by_cases g1 : 200 < n
  · go_enter Try.func3, Try.ntmps3
    go_wp2_with fail
    refine (small_any _).mono ?_
    rintro e w1 ⟨rfl, k1⟩
    go_wp2
    go_ret
    exact ⟨rfl, k1⟩
  go_enter Try.func3, Try.ntmps3
  go_wp2_with fail
  refine (small_any _).mono ?_
  rintro e w1 ⟨rfl, k1⟩
  go_wp2_with fail
  refine (new_any _).mono ?_
  rintro e w2 ⟨F, p, rfl, r2, k2, f2⟩
  have I0 : MapInv w (w2.alloc (.cells (cX (0, ⟨0, false, false, false⟩)) 27)) F p w2.heap.size (fun _ => none) page false := by
    have hl : lookX (fun _ => none) page = (0, ⟨0, false, false, false⟩) := lookX_none (by unfold ent; split <;> rfl)
    have kk : Keeps [] w2 (w2.alloc (.cells (cX (0, ⟨0, false, false, false⟩)) 27)) := (Keeps.refl _ _).alloc _
    refine ⟨r2.keep kk (by simp), by rw [hl]; exact Blk.new _ _ _, by unfold ent; split <;> rfl, fun h => by have := r2.lt _ h; omega, Nat.le_trans k1.size k2.size, (k1.trans k2 (by simp)).trans kk (by simp), fun x hx => Nat.le_trans k1.size (f2 x hx)⟩
  clear r2 k1 k2 f2
  go_wp2_with fail
  generalize w2.heap.size = g at I0
  go_loopw [8, 9] (fun t i wr => ∃ (k : Nat) (m : Nat → Option E) (F : List Nat) (th : Bool), k ≤ n ∧ i = .int .i64 k ∧ t = .bool th ∧ MapInv w wr F p g m page th) (fun _ i _ => n - (intOf i).toNat)
  case atStart => exact ⟨0, _, F, false, by omega, rfl, rfl, I0⟩
  case round =>
    clear I0
    obtain ⟨k, m, F, th, hk, rfl, rfl, I⟩ := hrel
    by_cases hlt : k < n
    rotate_left
    · go_wp2
      go_ret
      exact ⟨rfl, I.kp⟩
    obtain ⟨bl, off, rfl, O⟩ := hA (by omega)
    obtain ⟨x1, x2⟩ := O.rg k hlt
    obtain ⟨x3, x4⟩ := O.rf k hlt
    have O1 := O.keep I.kp
    have q0 := O1.c0 k hlt
    have q1 := O1.c1 k hlt
    have q2 := O1.c2 k hlt
    have q3 := O1.c3 k hlt
    clear O1
    have hx := do_any wr F p m (d k) (pg k) (f k) (b k) I.r x1 x2 x3 x4
    go_wp2_with fail
    refine hx.mono ?_
    clear hx
    rintro e w3 ⟨F3, rfl, r3, k3, f3⟩
    have K3 := I.kp.trans k3 (fun g hg => .inr (I.f g hg))
    have O1 := O.keep K3
    have q0 := O1.c0 k hlt
    have q1 := O1.c1 k hlt
    have q2 := O1.c2 k hlt
    have q3 := O1.c3 k hlt
    have b3 := I.b.keep k3 I.ng
    go_upto_if 39 with fail
    have g3 : g ∉ F3 := fun h => by rcases f3 g h with h1 | h1; exact I.ng h1; exact absurd I.b.lt (by omega)
    have f4 : ∀ x ∈ F3, w.heap.size ≤ x := fun x hx => by rcases f3 x hx with h1 | h1; exact I.f x h1; have := I.kp.size; omega
    have z0 : w3.cell? ⟨g, 0, none⟩ = some (.int .i64 (lookX m page).1) := b3.cell 0
    have z1 : w3.cell? ⟨g, 1, none⟩ = some (.int .i64 (lookX m page).2.fr) := b3.cell 1
    have z2 : w3.cell? ⟨g, 2, none⟩ = some (.bool (lookX m page).2.wr) := b3.cell 2
    have z3 : w3.cell? ⟨g, 3, none⟩ = some (.bool (lookX m page).2.ac) := b3.cell 3
    have z4 : w3.cell? ⟨g, 4, none⟩ = some (.bool (lookX m page).2.di) := b3.cell 4
    have y0 := b3.frozen 0
    have y1 := b3.frozen 1
    have y2 := b3.frozen 2
    have y3 := b3.frozen 3
    have y4 := b3.frozen 4
    have ht := I.t
    clear k3 f3
    have HR := Lib.hid r3
    have HK := Lib.hid K3
    have HG := Lib.hid g3
    have HF := Lib.hid f4
    have HB := Lib.hid b3
    have hgw := I.gw
    have hbg : bl ≠ g := by have := O.lt; omega
    have hgb : g ≠ bl := hbg.symm
    clear r3 K3 g3 f4 b3 I O1
    go_cut [8] (fun s8 wc => s8 = .bool (ent (doM m (d k) (pg k) (f k) (b k)) page).isSome ∧ Blk wc g 27 (cX (lookX (doM m (d k) (pg k) (f k) (b k)) page)) ∧ Keeps [g] w3 wc)
    case first =>
      by_cases he : pg k = page
      rotate_left
      · have te : (pg k == page) = false := by simpa using he
        have HE := Lib.hid (ent_doM_ne (m := m) (d := d k) (f := f k) (b := b k) he)
        have HL := Lib.hid (lookX_congr HE.out)
        have HT := Lib.hid ht
        clear he ht
        go_wp2_with fail
        go_meet
        case rel => exact ⟨by rw [HE.out, HT.out], by rw [HL.out]; exact HB.out, Keeps.refl _ _⟩
      have te : (pg k == page) = true := by simpa using he
      by_cases e0 : opk (d k) = 0
      · have E : bits .and .i64 (d k) 7 = 0 := e0
        have t0 : (bits .and .i64 (d k) 7 == 0) = true := by simp [E]
        have HD := Lib.hid (do_m0 (m := m) (pg := pg k) (fr := f k) (wr := b k) e0)
        clear E e0
        by_cases hr : 0 ≤ page ∧ page < 256 ∧ 0 ≤ f k
        · have HM := Lib.hid (ent_map (m := m) (b := b k) hr)
          obtain ⟨r0, r1, r2⟩ := hr
          have HE := Lib.hid he; clear he ht
          go_wp2_with fail
          go_region
          all_goals
            go_wp2_with fail
            go_meet
            case rel =>
              rw [HD.out, HE.out, lookX_some HM.out, HM.out]
              exact ⟨rfl, ((((((HB.out.set_ 0 _).set_ 1 _).set_ 2 _).set_ 3 _).set_ 4 _).to_ (by simp [cX])).drew, ((((((Keeps.refl _ _).setCell (.inl (by simp)) _).setCell (.inl (by simp)) _).setCell (.inl (by simp)) _).setCell (.inl (by simp)) _).setCell (.inl (by simp)) _).drew⟩
        · have HM := Lib.hid (ent_map_no (m := m) (b := b k) hr)
          have HT := Lib.hid ht
          have HE := Lib.hid he
          clear ht
          by_cases a0 : 0 ≤ page
          · by_cases a1 : page < 256
            · have a2 : f k < 0 := by omega
              clear hr he
              go_wp2_with fail
              go_meet
              case rel => exact ⟨by rw [HD.out, HE.out, HM.out, HT.out], by rw [HD.out, HE.out, lookX_congr HM.out]; exact HB.out, Keeps.refl _ _⟩
            · clear hr he
              go_wp2_with fail
              go_meet
              case rel => exact ⟨by rw [HD.out, HE.out, HM.out, HT.out], by rw [HD.out, HE.out, lookX_congr HM.out]; exact HB.out, Keeps.refl _ _⟩
          · clear hr he
            go_wp2_with fail
            go_meet
            case rel => exact ⟨by rw [HD.out, HE.out, HM.out, HT.out], by rw [HD.out, HE.out, lookX_congr HM.out]; exact HB.out, Keeps.refl _ _⟩
      by_cases e1 : opk (d k) = 1
      · have E : bits .and .i64 (d k) 7 = 1 := e1
        have t0 : (bits .and .i64 (d k) 7 == 0) = false := by simp [E]
        have t1 : (bits .and .i64 (d k) 7 == 1) = true := by simp [E]
        have HD := Lib.hid (do_m1 (m := m) (pg := pg k) (fr := f k) (wr := b k) e1)
        clear E e1 e0
        by_cases hr : 0 ≤ page ∧ page < 256 ∧ 0 ≤ f k
        · have HM := Lib.hid (ent_map (m := m) (b := b k) hr)
          obtain ⟨r0, r1, r2⟩ := hr
          have HE := Lib.hid he; clear he ht
          go_wp2_with fail
          go_region
          all_goals
            go_wp2_with fail
            go_meet
            case rel =>
              rw [HD.out, HE.out, lookX_some HM.out, HM.out]
              exact ⟨rfl, ((((((HB.out.set_ 0 _).set_ 1 _).set_ 2 _).set_ 3 _).set_ 4 _).to_ (by simp [cX])).drew, ((((((Keeps.refl _ _).setCell (.inl (by simp)) _).setCell (.inl (by simp)) _).setCell (.inl (by simp)) _).setCell (.inl (by simp)) _).setCell (.inl (by simp)) _).drew⟩
        · have HM := Lib.hid (ent_map_no (m := m) (b := b k) hr)
          have HT := Lib.hid ht
          have HE := Lib.hid he
          clear ht
          by_cases a0 : 0 ≤ page
          · by_cases a1 : page < 256
            · have a2 : f k < 0 := by omega
              clear hr he
              go_wp2_with fail
              go_meet
              case rel => exact ⟨by rw [HD.out, HE.out, HM.out, HT.out], by rw [HD.out, HE.out, lookX_congr HM.out]; exact HB.out, Keeps.refl _ _⟩
            · clear hr he
              go_wp2_with fail
              go_meet
              case rel => exact ⟨by rw [HD.out, HE.out, HM.out, HT.out], by rw [HD.out, HE.out, lookX_congr HM.out]; exact HB.out, Keeps.refl _ _⟩
          · clear hr he
            go_wp2_with fail
            go_meet
            case rel => exact ⟨by rw [HD.out, HE.out, HM.out, HT.out], by rw [HD.out, HE.out, lookX_congr HM.out]; exact HB.out, Keeps.refl _ _⟩
      by_cases e2 : opk (d k) = 2
      · have E : bits .and .i64 (d k) 7 = 2 := e2
        have t0 : (bits .and .i64 (d k) 7 == 0) = false := by simp [E]
        have t1 : (bits .and .i64 (d k) 7 == 1) = false := by simp [E]
        have t2 : (bits .and .i64 (d k) 7 == 2) = true := by simp [E]
        have HD := Lib.hid (do_m2 (m := m) (pg := pg k) (fr := f k) (wr := b k) e2)
        have HM := Lib.hid (ent_unm m page)
        have HE := Lib.hid he
        clear E e0 e1 e2 he ht
        go_wp2_with fail
        go_meet
        case rel =>
          rw [HD.out, HE.out, lookX_none HM.out, HM.out]
          exact ⟨rfl, (((((HB.out.set_ 0 _).set_ 1 _).set_ 2 _).set_ 3 _).set_ 4 _).to_ (by simp [cX]), (((((Keeps.refl _ _).setCell (.inl (by simp)) _).setCell (.inl (by simp)) _).setCell (.inl (by simp)) _).setCell (.inl (by simp)) _).setCell (.inl (by simp)) _⟩
      by_cases e3 : opk (d k) = 3
      · have E : bits .and .i64 (d k) 7 = 3 := e3
        have t0 : (bits .and .i64 (d k) 7 == 0) = false := by simp [E]
        have t1 : (bits .and .i64 (d k) 7 == 1) = false := by simp [E]
        have t2 : (bits .and .i64 (d k) 7 == 2) = false := by simp [E]
        have t3 : (bits .and .i64 (d k) 7 == 3) = true := by simp [E]
        have HD := Lib.hid (do_m3 (m := m) (pg := pg k) (fr := f k) (wr := b k) e3)
        have HE := Lib.hid he
        clear E e0 e1 e2 e3 he
        cases hm : ent m page with
        | none =>
          have HM := Lib.hid (ent_wlk_no (b := b k) hm)
          have HN := Lib.hid hm
          obtain rfl : th = false := by rw [ht, hm]; rfl
          clear ht hm
          go_wp2_with fail
          go_meet
          case rel => exact ⟨by rw [HD.out, HE.out, HM.out]; rfl, by rw [HD.out, HE.out, lookX_congr (HM.out.trans HN.out.symm)]; exact HB.out, Keeps.refl _ _⟩
        | some x =>
          have HM := Lib.hid (ent_wlk (b := b k) hm)
          obtain rfl : th = true := by rw [ht, hm]; rfl
          rw [lookX_some hm] at z0 z1 z2 z3 z4
          have HB2 := HB.out; rw [lookX_some hm] at HB2; have HB2 := Lib.hid HB2
          obtain ⟨x1, x2, x3, x4⟩ := x
          simp only [] at z0 z1 z2 z3 z4
          clear ht hm HB
          generalize b k = bb at *
          cases bb
          all_goals cases x2
          all_goals cases x4
          all_goals
            go_wp2_with fail
            go_meet
            case rel =>
              rw [HD.out, HE.out, lookX_some HM.out, HM.out]
              first
                | exact ⟨rfl, HB2.out, Keeps.refl _ _⟩
                | exact ⟨rfl, ((HB2.out.set_ 3 _).set_ 4 _).to_ (by simp [cX]), ((Keeps.refl _ _).setCell (.inl (by simp)) _).setCell (.inl (by simp)) _⟩
      by_cases e4 : opk (d k) = 4
      · have E : bits .and .i64 (d k) 7 = 4 := e4
        have t0 : (bits .and .i64 (d k) 7 == 0) = false := by simp [E]
        have t1 : (bits .and .i64 (d k) 7 == 1) = false := by simp [E]
        have t2 : (bits .and .i64 (d k) 7 == 2) = false := by simp [E]
        have t3 : (bits .and .i64 (d k) 7 == 3) = false := by simp [E]
        have t4 : (bits .and .i64 (d k) 7 == 4) = true := by simp [E]
        have HD := Lib.hid (do_m4 (m := m) (pg := pg k) (fr := f k) (wr := b k) e4)
        have HE := Lib.hid he
        clear E e0 e1 e2 e3 e4 he
        cases hm : ent m page with
        | none =>
          have HM := Lib.hid (ent_wlk_no (b := b k) hm)
          have HN := Lib.hid hm
          obtain rfl : th = false := by rw [ht, hm]; rfl
          clear ht hm
          go_wp2_with fail
          go_meet
          case rel => exact ⟨by rw [HD.out, HE.out, HM.out]; rfl, by rw [HD.out, HE.out, lookX_congr (HM.out.trans HN.out.symm)]; exact HB.out, Keeps.refl _ _⟩
        | some x =>
          have HM := Lib.hid (ent_wlk (b := b k) hm)
          obtain rfl : th = true := by rw [ht, hm]; rfl
          rw [lookX_some hm] at z0 z1 z2 z3 z4
          have HB2 := HB.out; rw [lookX_some hm] at HB2; have HB2 := Lib.hid HB2
          obtain ⟨x1, x2, x3, x4⟩ := x
          simp only [] at z0 z1 z2 z3 z4
          clear ht hm HB
          generalize b k = bb at *
          cases bb
          all_goals cases x2
          all_goals cases x4
          all_goals
            go_wp2_with fail
            go_meet
            case rel =>
              rw [HD.out, HE.out, lookX_some HM.out, HM.out]
              first
                | exact ⟨rfl, HB2.out, Keeps.refl _ _⟩
                | exact ⟨rfl, ((HB2.out.set_ 3 _).set_ 4 _).to_ (by simp [cX]), ((Keeps.refl _ _).setCell (.inl (by simp)) _).setCell (.inl (by simp)) _⟩
      by_cases e6 : opk (d k) = 6
      · have E : bits .and .i64 (d k) 7 = 6 := e6
        have t0 : (bits .and .i64 (d k) 7 == 0) = false := by simp [E]
        have t1 : (bits .and .i64 (d k) 7 == 1) = false := by simp [E]
        have t2 : (bits .and .i64 (d k) 7 == 2) = false := by simp [E]
        have t3 : (bits .and .i64 (d k) 7 == 3) = false := by simp [E]
        have t4 : (bits .and .i64 (d k) 7 == 4) = false := by simp [E]
        have t6 : (bits .and .i64 (d k) 7 == 6) = true := by simp [E]
        have HD := Lib.hid (do_m6 (m := m) (pg := pg k) (fr := f k) (wr := b k) e6)
        have HE := Lib.hid he
        clear E e0 e1 e2 e3 e4 e6 he
        cases hm : ent m page with
        | none =>
          have HM := Lib.hid (ent_clr_no hm)
          have HB2 := HB.out; rw [lookX_none hm] at HB2; have HB2 := Lib.hid HB2
          have HT := Lib.hid (show th = false by rw [ht, hm]; rfl)
          clear ht hm
          go_wp2_with fail
          go_meet
          case rel =>
            rw [HD.out, HE.out, lookX_none HM.out, HM.out]
            exact ⟨by rw [HT.out]; rfl, (HB2.out.set_ 3 _).to_ (by simp [cX]), (Keeps.refl _ _).setCell (.inl (by simp)) _⟩
        | some x =>
          have HM := Lib.hid (ent_clr hm)
          have HB2 := HB.out; rw [lookX_some hm] at HB2; have HB2 := Lib.hid HB2
          have HT := Lib.hid (show th = true by rw [ht, hm]; rfl)
          clear ht hm
          go_wp2_with fail
          go_meet
          case rel =>
            rw [HD.out, HE.out, lookX_some HM.out, HM.out]
            exact ⟨by rw [HT.out]; rfl, (HB2.out.set_ 3 _).to_ (by simp [cX]), (Keeps.refl _ _).setCell (.inl (by simp)) _⟩
      have t0 : (bits .and .i64 (d k) 7 == 0) = false := by simpa [opk] using e0
      have t1 : (bits .and .i64 (d k) 7 == 1) = false := by simpa [opk] using e1
      have t2 : (bits .and .i64 (d k) 7 == 2) = false := by simpa [opk] using e2
      have t3 : (bits .and .i64 (d k) 7 == 3) = false := by simpa [opk] using e3
      have t4 : (bits .and .i64 (d k) 7 == 4) = false := by simpa [opk] using e4
      have t6 : (bits .and .i64 (d k) 7 == 6) = false := by simpa [opk] using e6
      have HD : Hid (doM m (d k) (pg k) (f k) (b k) = m) := Lib.hid (do_m7 e0 e1 e2 e3 e4 e6)
      have HT := Lib.hid ht
      clear he ht e0 e1 e2 e3 e4 e6
      go_wp2_with fail
      go_meet
      case rel => exact ⟨by rw [HD.out, HT.out], by rw [HD.out]; exact HB.out, Keeps.refl _ _⟩
    case rest =>
      obtain ⟨rfl, bc, kc⟩ := hcut
      have rc := HR.out.keep kc (fun x hx h => by obtain rfl := List.mem_singleton.1 h; exact HG.out hx)
      have Kc := HK.out.trans kc (fun x hx => .inr (by rw [List.mem_singleton.1 hx]; exact hgw))
      generalize doM m (d k) (pg k) (f k) (b k) = m' at *
      clear z0 z1 z2 z3 z4 y0 y1 y2 y3 y4 HB HK HR q0 q1 q2 q3 ht
      go_wp2_with fail
      refine (look_any2 _ F3 p m' page rc p1 p2).mono ?_
      rintro e w4 ⟨rfl, r4, k4⟩
      have b4 := bc.keep k4 (by simp)
      have K4 := Kc.trans k4 (by simp)
      have kn : Keeps [] w4 (w4.alloc (.cells (cX (lookX m' page)) 27)) := (Keeps.refl _ _).alloc _
      have b5 := b4.keep kn (by simp)
      have z0 : (w4.alloc (.cells #[.int .i64 (lookX m' page).1, .int .i64 (lookX m' page).2.fr, .bool (lookX m' page).2.wr, .bool (lookX m' page).2.ac, .bool (lookX m' page).2.di] 27)).cell? ⟨g, 0, none⟩ = some (.int .i64 (lookX m' page).1) := b5.cell 0
      have z1 : (w4.alloc (.cells #[.int .i64 (lookX m' page).1, .int .i64 (lookX m' page).2.fr, .bool (lookX m' page).2.wr, .bool (lookX m' page).2.ac, .bool (lookX m' page).2.di] 27)).cell? ⟨g, 1, none⟩ = some (.int .i64 (lookX m' page).2.fr) := b5.cell 1
      have z2 : (w4.alloc (.cells #[.int .i64 (lookX m' page).1, .int .i64 (lookX m' page).2.fr, .bool (lookX m' page).2.wr, .bool (lookX m' page).2.ac, .bool (lookX m' page).2.di] 27)).cell? ⟨g, 2, none⟩ = some (.bool (lookX m' page).2.wr) := b5.cell 2
      have z3 : (w4.alloc (.cells #[.int .i64 (lookX m' page).1, .int .i64 (lookX m' page).2.fr, .bool (lookX m' page).2.wr, .bool (lookX m' page).2.ac, .bool (lookX m' page).2.di] 27)).cell? ⟨g, 3, none⟩ = some (.bool (lookX m' page).2.ac) := b5.cell 3
      have z4 : (w4.alloc (.cells #[.int .i64 (lookX m' page).1, .int .i64 (lookX m' page).2.fr, .bool (lookX m' page).2.wr, .bool (lookX m' page).2.ac, .bool (lookX m' page).2.di] 27)).cell? ⟨g, 4, none⟩ = some (.bool (lookX m' page).2.di) := b5.cell 4
      have J : MapInv w (w4.alloc (.cells (cX (lookX m' page)) 27)) F3 p g m' page (ent m' page).isSome := ⟨r4.keep kn (by simp), b5, rfl, HG.out, hgw, K4.trans kn (by simp), HF.out⟩
      have HJ := Lib.hid J
      clear J kn r4 k4 b4 b5 K4 bc kc rc Kc
      go_wp2
      go_roundw
      case rel => exact ⟨k + 1, m', F3, _, by omega, by go_num, rfl, HJ.out⟩
      case measure => simp [intOf]; omega
end Go.Proofs.Ytnnoekcnhdcodaa
