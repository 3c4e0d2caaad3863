/- The reference's Map. -/
import Derived.Test.YtnnoekcnhdcodaaR3
import Derived.StillTailTactics
namespace Go.Proofs.Ytnnoekcnhdcodaa
open Go.RowKit

theorem own_two {w : World} {e size n cap : Nat} {A : Option Addr} {xs : List Value} (h : w.ownsRow 0 e size (.slice A n cap) n xs) : (A = none ∧ n = 0 ∧ cap = 0) ∨ ∃ g, A = some ⟨g, 0, none⟩ := by
  rcases h.2 with ⟨h2, _⟩ | ⟨g, cap', cur, hv, _⟩
  · injection h2 with a b c
    exact .inl ⟨a, b, c⟩
  · injection hv with a b c
    exact .inr ⟨g, a⟩

set_option maxRecDepth 100000 in
set_option maxHeartbeats 1600000 in
theorem rmap_any (w : World) (G : List Nat) (q : Nat) (m : Nat → Option E) (pg fr : Int) (wr : Bool) (h : RfRep w G q m) :
    Calls Try.prog 22 #[.pointer (some ⟨q, 0, none⟩), .int .i64 pg, .int .i64 fr, .bool wr] w (RMapped w G q (mapM m pg fr wr) (.int .i64 (mapN pg fr))) := by
  by_cases hr : 0 ≤ pg ∧ pg < 256 ∧ 0 ≤ fr
  rotate_left
  · have e1 : mapN pg fr = 3 := by unfold mapN; rw [if_neg hr]
    have e2 : mapM m pg fr wr = m := by unfold mapM; rw [if_neg hr]
    have E1 := Lib.hid e1
    have E2 := Lib.hid e2
    clear e1 e2
    by_cases a0 : 0 ≤ pg
    · by_cases a1 : pg ≤ 255
      · have a2 : fr < 0 := by omega
        clear hr
        go_enter Try.func22, Try.ntmps22
        go_wp2
        go_ret
        rw [E1.out, E2.out]
        exact ⟨G, rfl, h, Keeps.refl _ _, fun g hg => .inl hg⟩
      · clear hr
        go_enter Try.func22, Try.ntmps22
        go_wp2
        go_ret
        rw [E1.out, E2.out]
        exact ⟨G, rfl, h, Keeps.refl _ _, fun g hg => .inl hg⟩
    · clear hr
      go_enter Try.func22, Try.ntmps22
      go_wp2
      go_ret
      rw [E1.out, E2.out]
      exact ⟨G, rfl, h, Keeps.refl _ _, fun g hg => .inl hg⟩
  have e1 : mapN pg fr = 0 := by unfold mapN; rw [if_pos hr]
  have e2 : mapM m pg fr wr = upd m pg.toNat (some ⟨fr, wr, false, false⟩) := by unfold mapM; rw [if_pos hr]
  obtain ⟨a0, a1, a2⟩ := hr
  obtain ⟨k, hkp⟩ := Int.eq_ofNat_of_zero_le a0
  rw [hkp, Int.toNat_natCast, ← hkp] at e2
  have E1 := Lib.hid e1
  have E2 := Lib.hid e2
  have hk : k < 256 := by omega
  have a3 : pg ≤ 255 := by omega
  clear e1 e2 a1
  have hi := index_any _ G q m pg h
  rw [show ent m pg = m k by rw [hkp, ent_nat], show idx m pg = idx m (k : Int) by rw [hkp]] at hi
  have HP := Lib.hid hkp
  obtain ⟨A, cap, hA⟩ := h
  obtain ⟨hn, hcap, hmax, hAA⟩ := hA.len
  cases hm : m k with
  | some x =>
    rw [hm] at hi
    simp only [Option.isSome_some] at hi
    have HI := Lib.hid hi
    obtain ⟨hil, hit⟩ := idx_at hk hm
    obtain ⟨g, rfl⟩ := hAA (by omega)
    have HM := Lib.hid hm
    clear hi hit hAA hm hil hn hcap hmax hkp
    go_enter Try.func22, Try.ntmps22
    go_wp2_with fail
    refine HI.out.mono ?_
    rintro e w1 ⟨rfl, k2⟩
    obtain ⟨hil, -⟩ := idx_at hk HM.out
    obtain ⟨hn, hcap, hmax, -⟩ := hA.len
    have h1 := hA.keep k2 (by simp)
    have hql := (hA.b.keep k2 (by simp)).lt
    have hgl : g < w1.heap.size := own_lt (hA.keep k2 (by simp)).o (by simp)
    have c0 : w1.cell? ⟨q, 0, none⟩ = some (.slice (some ⟨g, 0, none⟩) (ents m 256).length cap) := (hA.b.keep k2 (by simp)).cell 0
    have hgG : g ∈ G := by rw [hA.f]; simp
    have h2 := (((((h1.one hk HM.out (j := 0) (by omega) (e' := x) (v := .int .i64 pg) (by rw [HP.out]; rfl)).one hk (upd_same _ _ _) (j := 1) (by omega) (e' := ⟨fr, x.wr, x.ac, x.di⟩) (v := .int .i64 fr) rfl).one hk (upd_same _ _ _) (j := 2) (by omega) (e' := ⟨fr, wr, x.ac, x.di⟩) (v := .bool wr) rfl).one hk (upd_same _ _ _) (j := 3) (by omega) (e' := ⟨fr, wr, false, x.di⟩) (v := .bool false) rfl).one hk (upd_same _ _ _) (j := 4) (by omega) (e' := ⟨fr, wr, false, false⟩) (v := .bool false) rfl)
    simp only [idx_upd _ hk, Nat.add_zero] at h2
    have huu : upd (upd (upd (upd (upd m k (some x)) k (some ⟨fr, x.wr, x.ac, x.di⟩)) k (some ⟨fr, wr, x.ac, x.di⟩)) k (some ⟨fr, wr, false, x.di⟩)) k (some ⟨fr, wr, false, false⟩) = upd m k (some ⟨fr, wr, false, false⟩) := by funext z; unfold upd; split <;> rfl
    rw [huu] at h2
    have hp := fun j (v : Value) (hj : j < 5) (hc : (c5 (k, x))[j]? = some v) => h1.cellj hk HM.out hj hc
    have p0 := hp 0 _ (by omega) rfl
    have p1 := hp 1 _ (by omega) rfl
    have p2 := hp 2 _ (by omega) rfl
    have p3 := hp 3 _ (by omega) rfl
    have p4 := hp 4 _ (by omega) rfl
    simp only [Nat.add_zero] at p0
    have f0 := own_free h1.o (idx m (k : Int) * 5)
    have f1 := own_free h1.o (idx m (k : Int) * 5 + 1)
    have f2 := own_free h1.o (idx m (k : Int) * 5 + 2)
    have f3 := own_free h1.o (idx m (k : Int) * 5 + 3)
    have f4 := own_free h1.o (idx m (k : Int) * 5 + 4)
    have hi0 : (0 : Int) ≤ (idx m (k : Int) : Nat) := by omega
    have hi1 : ((idx m (k : Int) : Nat) : Int) < ((ents m 256).length : Nat) := by omega
    have H2 := Lib.hid h2
    have HK := Lib.hid ((((((k2.mono (G := G) (by simp)).setCell (p := ⟨g, idx m (k : Int) * 5, none⟩) (.inl hgG) (.int .i64 pg)).setCell (p := ⟨g, idx m (k : Int) * 5 + 1, none⟩) (.inl hgG) (.int .i64 fr)).setCell (p := ⟨g, idx m (k : Int) * 5 + 2, none⟩) (.inl hgG) (.bool wr)).setCell (p := ⟨g, idx m (k : Int) * 5 + 3, none⟩) (.inl hgG) (.bool false)).setCell (p := ⟨g, idx m (k : Int) * 5 + 4, none⟩) (.inl hgG) (.bool false))
    clear h1 h2 hp k2 HI hA huu
    go_wp2_with fail
    go_region
    all_goals
      go_wp2
      go_ret
      rw [E1.out, E2.out]
      exact ⟨G, rfl, ⟨_, _, H2.out.keep (((Keeps.refl [] _).alloc _).drew) (by simp)⟩, (HK.out.alloc _).drew, fun g hg => .inl hg⟩
  | none =>
    rw [hm] at hi
    simp only [Option.isSome_none] at hi
    have HI := Lib.hid hi
    have hz : Hid (∀ i, 256 ≤ i → upd m k (some ⟨fr, wr, false, false⟩) i = none) := Lib.hid (fun i hi => by rw [upd_ne (by omega)]; exact hA.z i hi)
    obtain ⟨ht1, ht2⟩ := take_idx (m := m) hk
    have hd := drop_idx_no hk hm
    have hu := ents_upd m hk (some ⟨fr, wr, false, false⟩)
    simp only [opt1] at hu
    have hle := idx_le m (k : Int)
    have HNEW : Hid (Unit → ents (upd m k (some ⟨fr, wr, false, false⟩)) 256 = (ents m 256).take (idx m (k : Int)) ++ ([(k, ⟨fr, wr, false, false⟩)] ++ (ents m 256).drop (idx m (k : Int)))) := Lib.hid (fun _ => by rw [ht1, hd, hu]; simp)
    have HLEN : Hid (Unit → (ents (upd m k (some ⟨fr, wr, false, false⟩)) 256).length = 0 + idx m (k : Int) + (1 + ((ents m 256).length - idx m (k : Int)))) := Lib.hid (fun _ => by rw [HNEW.out (), List.length_append, List.length_append, List.length_take, List.length_drop]; simp; omega)
    generalize hI : idx m (k : Int) = i at *
    generalize hL : ents m 256 = L at *
    have hL2 : Hid (Unit → ents m 256 = L) := Lib.hid (fun _ => hL)
    clear ht1 ht2 hd hu hI hL hi hm
    have hp3 : (i : Int) ≤ (L.length : Int) := by omega
    have hp4 : (i : Int) ≤ (cap : Int) := by omega
    have hp5 : (0 : Int) ≤ (i : Int) := by omega
    have h63 : 0 + i ≤ maxLen := by unfold maxLen; omega
    have h64 : 1 + (L.length - i) ≤ maxLen := by unfold maxLen; omega
    have h65 : 0 + i + (1 + (L.length - i)) ≤ maxLen := by unfold maxLen; omega
    have h66 : i + (1 + (L.length - i)) ≤ maxLen := by unfold maxLen; omega
    have P1 := Lib.hid (cells5_one (L.take i))
    have P2 := Lib.hid (cells5_one (L.drop i))
    have P3 := Lib.hid (cells5_one ([(k, ⟨fr, wr, false, false⟩)] ++ L.drop i))
    have HI27 := Lib.hid info27
    have HO : Hid (∀ W : World, Keeps [] w W → W.ownsRow 0 27 5 (.slice A L.length cap) L.length (cells5 L)) := Lib.hid (fun W hk => by
      have := own_keep hA.o hk (by simp)
      rw [hL2.out ()] at this
      exact this)
    have HA := Lib.hid hA
    have HCC : Hid (∀ W1 : World, Keeps [] w W1 → Reads W1 W1.heap.size 5 (if cap = i then A else A.map (·.add (i * 5))) (L.length - i) (cells5 (L.drop i))) := Lib.hid (by
      intro W1 hk
      have := (reads_own (HO.out W1 hk)).cut (k := i) (by omega) (by omega)
      rw [← cells5_drop] at this
      exact this)
    have HFF : Hid (∀ W1 : World, Keeps [] w W1 → Reads W1 W1.heap.size 5 A i (cells5 (L.take i))) := Lib.hid (fun W1 hk => (reads_own (HO.out W1 hk)).first rfl (by omega))
    have HW : Hid (∀ (v : Value) (W : World), W.ownsRow 0 27 5 v (0 + i + (1 + (L.length - i))) (([] ++ cells5 (L.take i)) ++ ([.int .i64 pg, .int .i64 fr, .bool wr, .bool false, .bool false] ++ cells5 (L.drop i))) → W.ownsRow 0 27 5 v (ents (upd m k (some ⟨fr, wr, false, false⟩)) 256).length (cells5 (ents (upd m k (some ⟨fr, wr, false, false⟩)) 256))) := Lib.hid (by
      intro v W h
      rw [HLEN.out (), HNEW.out (), cells5_append, cells5_append]
      rw [HP.out] at h
      exact h)
    have HONE : Hid (∀ u ∈ [.int .i64 pg, .int .i64 fr, .bool wr, .bool false, .bool false] ++ cells5 (L.drop i), u.oneCell' = true) := Lib.hid (by
      intro u hu
      rcases List.mem_append.1 hu with h | h
      · simp at h; rcases h with rfl | rfl | rfl | rfl | rfl <;> rfl
      · exact P2.out u h)
    have own2 := own_two hA.o
    clear HNEW HLEN hle hkp hmax hAA hA
    rcases own2 with ⟨rfl, -, rfl⟩ | ⟨g, rfl⟩
    · obtain rfl : L = [] := List.eq_nil_of_length_eq_zero (by omega)
      obtain rfl : i = 0 := by simp at hp3; omega
      have h63' : 0 + 0 ≤ maxLen := by unfold maxLen; omega
      have h64' : 0 + 1 ≤ maxLen := by unfold maxLen; omega
      have h66' : 0 + (1 + 0) ≤ maxLen := by unfold maxLen; omega
      have Q2 : Hid (∀ u ∈ cells5 [], u.oneCell' = true) := Lib.hid (cells5_one [])
      clear P1 P2 P3 h63 h64 h65 h66 HCC HFF HO hp3 hp4 hp5 hcap hn
      go_enter Try.func22, Try.ntmps22
      go_wp2_with fail
      refine HI.out.mono ?_
      rintro e w1 ⟨rfl, k2⟩
      have c0 : w1.cell? ⟨q, 0, none⟩ = some (.slice none 0 0) := by rw [(HA.out.b.keep k2 (by simp)).cell 0, hL2.out ()]; rfl
      have hql := (HA.out.b.keep k2 (by simp)).lt
      have hsz := k2.size
      have HK1 : Hid (Keeps [] w ((w1.alloc (.cells #[.int .i64 pg, .int .i64 fr, .bool wr, .bool false, .bool false] 27)).alloc (.cells #[.int .i64 pg, .int .i64 fr, .bool wr, .bool false, .bool false] 27)).drew) := Lib.hid (((k2.alloc _).alloc _).drew)
      have HE : Hid (((w1.alloc (.cells #[.int .i64 pg, .int .i64 fr, .bool wr, .bool false, .bool false] 27)).alloc (.cells #[.int .i64 pg, .int .i64 fr, .bool wr, .bool false, .bool false] 27)).drew.ownsRow 0 27 5 (.slice (some ⟨w1.heap.size + 1, 0, none⟩) 1 1) 1 [.int .i64 pg, .int .i64 fr, .bool wr, .bool false, .bool false]) := Lib.hid (own_drew (by
        have := own_of_blk (n := 1) (size := 5) (cap := 1) (xs := [.int .i64 pg, .int .i64 fr, .bool wr, .bool false, .bool false]) (Blk.new (w1.alloc (.cells #[.int .i64 pg, .int .i64 fr, .bool wr, .bool false, .bool false] 27)) 27 #[.int .i64 pg, .int .i64 fr, .bool wr, .bool false, .bool false]) (by omega) (by unfold maxLen; omega) rfl rfl
        simpa using this))
      have HK4 : Hid (Keeps [] w (((w1.alloc (.cells #[.int .i64 pg, .int .i64 fr, .bool wr, .bool false, .bool false] 27)).alloc (.cells #[.int .i64 pg, .int .i64 fr, .bool wr, .bool false, .bool false] 27)).alloc (.cells #[] 27)).drew) := Lib.hid ((((k2.alloc _).alloc _).alloc _).drew)
      have HE4 : Hid ((((w1.alloc (.cells #[.int .i64 pg, .int .i64 fr, .bool wr, .bool false, .bool false] 27)).alloc (.cells #[.int .i64 pg, .int .i64 fr, .bool wr, .bool false, .bool false] 27)).alloc (.cells #[] 27)).drew.ownsRow 0 27 5 (.slice (some ⟨w1.heap.size + 1 + 1, 0, none⟩) 0 0) 0 []) := Lib.hid (own_drew (by
        have := own_of_blk (n := 0) (size := 5) (cap := 0) (xs := []) (Blk.new ((w1.alloc (.cells #[.int .i64 pg, .int .i64 fr, .bool wr, .bool false, .bool false] 27)).alloc (.cells #[.int .i64 pg, .int .i64 fr, .bool wr, .bool false, .bool false] 27)) 27 #[]) (by omega) (by unfold maxLen; omega) rfl rfl
        simpa using this))
      have HR4 : Hid (Reads (((w1.alloc (.cells #[.int .i64 pg, .int .i64 fr, .bool wr, .bool false, .bool false] 27)).alloc (.cells #[.int .i64 pg, .int .i64 fr, .bool wr, .bool false, .bool false] 27)).alloc (.cells #[] 27)).drew (((w1.alloc (.cells #[.int .i64 pg, .int .i64 fr, .bool wr, .bool false, .bool false] 27)).alloc (.cells #[.int .i64 pg, .int .i64 fr, .bool wr, .bool false, .bool false] 27)).alloc (.cells #[] 27)).drew.heap.size 5 (some ⟨w1.heap.size + 1, 0, none⟩) 1 [.int .i64 pg, .int .i64 fr, .bool wr, .bool false, .bool false]) := Lib.hid (reads_own (own_keep HE.out ((Keeps.refl [] _).alloc (.cells #[] 27)) (by simp)))
      have HO1 : Hid (∀ u ∈ ([.int .i64 pg, .int .i64 fr, .bool wr, .bool false, .bool false] : List Value), u.oneCell' = true) := Lib.hid (by
        intro u h
        simp at h; rcases h with rfl | rfl | rfl | rfl | rfl <;> rfl)
      have c4 : (((w1.alloc (.cells #[.int .i64 pg, .int .i64 fr, .bool wr, .bool false, .bool false] 27)).alloc (.cells #[.int .i64 pg, .int .i64 fr, .bool wr, .bool false, .bool false] 27)).alloc (.cells #[] 27)).cell? ⟨q, 0, none⟩ = some (.slice none 0 0) := by rw [((((HA.out.b.keep k2 (by simp)).alloc _).alloc _).alloc _).cell 0, hL2.out ()]; rfl
      go_wp2_with fail
      go_region
      all_goals
        go_wp2_with (at_builtin; refine wpList_app _ rfl (.tmp 58) (.tmp 59) _ rfl 27 (.agg #[.int .i64 0, .int .i64 0, .bool false, .bool false, .bool false]) 5 24 Try.underlying39 HI27.out rfl (by omega) (.slice (some ⟨w1.heap.size + 1 + 1, 0, none⟩) 0 0) 0 [] rfl HE4.out _ (some ⟨w1.heap.size + 1, 0, none⟩) 1 1 [.int .i64 pg, .int .i64 fr, .bool wr, .bool false, .bool false] rfl HR4.out HO1.out h64' (by omega) ?_)
        intro v3 w5 ho3 hk3 hf3
        have kk := HA.out.swap (m' := upd m k (some ⟨fr, wr, false, false⟩)) (HK4.out.trans hk3 (fun g hg => .inr (by have h2 : g = w1.heap.size + 1 + 1 := (by simpa using hg); omega))) (HW.out _ _ (by simpa [cells5] using ho3)) (fun g hg => by
          rcases hf3 g hg with h | h
          · have h2 : g = w1.heap.size + 1 + 1 := by simpa using h
            omega
          · have h2 : w1.heap.size + 1 + 1 + 1 ≤ g := by simpa using h
            omega) hz.out
        obtain ⟨A6, cap6, rfl, d0, d1, hr, hk, hn⟩ := kk
        have HN1 := Lib.hid hr
        have HN2 := Lib.hid hk
        have HN3 := Lib.hid hn
        clear hr hk hn ho3 hk3 hf3
        go_wp2
        go_ret
        rw [E1.out, E2.out]
        exact ⟨_, rfl, HN1.out, HN2.out, HN3.out⟩
    · obtain ⟨A2, hA2⟩ : ∃ A2 : Option Addr, (if cap = i then some (⟨g, 0, none⟩ : Addr) else some ⟨g, i * 5, none⟩) = A2 := ⟨_, rfl⟩
      have HC : Hid (∀ W1 : World, Keeps [] w W1 → Reads W1 W1.heap.size 5 A2 (L.length - i) (cells5 (L.drop i))) := Lib.hid (by
        intro W1 hk
        have := HCC.out W1 hk
        rw [← hA2]
        have e : (if cap = i then some (⟨g, 0, none⟩ : Addr) else some ⟨g, i * 5, none⟩) = (if cap = i then some ⟨g, 0, none⟩ else (some ⟨g, 0, none⟩ : Option Addr).map (·.add (i * 5))) := by
          split
          · rfl
          · simp [add_of_plain]
        rw [e]
        exact this)
      clear HCC
      go_enter Try.func22, Try.ntmps22
      go_wp2_with fail
      refine HI.out.mono ?_
      rintro e w1 ⟨rfl, k2⟩
      have c0 : w1.cell? ⟨q, 0, none⟩ = some (.slice (some ⟨g, 0, none⟩) L.length cap) := by rw [(HA.out.b.keep k2 (by simp)).cell 0, hL2.out ()]; rfl
      have hql := (HA.out.b.keep k2 (by simp)).lt
      have hsz := k2.size
      have HK1 : Hid (Keeps [] w ((w1.alloc (.cells #[.int .i64 pg, .int .i64 fr, .bool wr, .bool false, .bool false] 27)).alloc (.cells #[.int .i64 pg, .int .i64 fr, .bool wr, .bool false, .bool false] 27)).drew) := Lib.hid (((k2.alloc _).alloc _).drew)
      have HE : Hid (((w1.alloc (.cells #[.int .i64 pg, .int .i64 fr, .bool wr, .bool false, .bool false] 27)).alloc (.cells #[.int .i64 pg, .int .i64 fr, .bool wr, .bool false, .bool false] 27)).drew.ownsRow 0 27 5 (.slice (some ⟨w1.heap.size + 1, 0, none⟩) 1 1) 1 [.int .i64 pg, .int .i64 fr, .bool wr, .bool false, .bool false]) := Lib.hid (own_drew (by
        have := own_of_blk (n := 1) (size := 5) (cap := 1) (xs := [.int .i64 pg, .int .i64 fr, .bool wr, .bool false, .bool false]) (Blk.new (w1.alloc (.cells #[.int .i64 pg, .int .i64 fr, .bool wr, .bool false, .bool false] 27)) 27 #[.int .i64 pg, .int .i64 fr, .bool wr, .bool false, .bool false]) (by omega) (by unfold maxLen; omega) rfl rfl
        simpa using this))
      go_wp2_with fail
      go_region_law (refine step_app (by rfl) (.tmp 42) (.tmp 48) 39 (by rfl) 27 (.agg #[.int .i64 0, .int .i64 0, .bool false, .bool false, .bool false]) 5 24 Try.underlying39 HI27.out rfl (by omega) (.slice (some ⟨w1.heap.size + 1, 0, none⟩) 1 1) 1 [.int .i64 pg, .int .i64 fr, .bool wr, .bool false, .bool false] (by simp [Act.eval, Act.put]) HE.out _ A2 (L.length - i) (cap - i) (cells5 (L.drop i)) (by simp [Act.eval, Act.put]) (HC.out _ HK1.out) P2.out h64 (by omega) (fun v1 w3 ho1 hk1 hf1 => ?_); have kk1 := HK1.out.trans hk1 (fun g hg => .inr (by rw [List.mem_singleton.1 hg]; show w.heap.size ≤ w1.heap.size + 1; omega)); have ff1 : ∀ g ∈ fp v1, w.heap.size ≤ g := (fun g hg => (hf1 g hg).elim (fun h => by rw [List.mem_singleton.1 h]; show w.heap.size ≤ w1.heap.size + 1; omega) (fun h => Nat.le_trans HK1.out.size h)); clear hk1 hf1)
      all_goals
        obtain ⟨A5, cap5, rfl, -⟩ := own_shape ho1
        have c3 : w3.cell? ⟨q, 0, none⟩ = some (.slice (some ⟨g, 0, none⟩) L.length cap) := by rw [(HA.out.b.keep kk1 (by simp)).cell 0, hL2.out ()]; rfl
        have hq3 := (HA.out.b.keep kk1 (by simp)).lt
        have HO1 := Lib.hid ho1
        have HKK1 := Lib.hid kk1
        have HFF1 := Lib.hid ff1
        have HE3 : Hid ((w3.alloc (.cells #[] 27)).ownsRow 0 27 5 (.slice (some ⟨w3.heap.size, 0, none⟩) 0 0) 0 []) := Lib.hid (own_of_blk (Blk.new w3 27 #[]) (by omega) (by omega) rfl rfl)
        have HK3 := Lib.hid (kk1.alloc (.cells #[] 27))
        have hs3 := kk1.size
        clear ho1 kk1 ff1 k2 c0
        have RR1 : Hid (Reads (w3.alloc (.cells #[] 27)) (w3.alloc (.cells #[] 27)).heap.size 5 (some ⟨g, 0, none⟩) i (cells5 (L.take i))) := Lib.hid (HFF.out _ HK3.out)
        go_wp2_with (at_builtin; refine wpList_app _ rfl (.tmp 51) (.tmp 57) _ rfl 27 (.agg #[.int .i64 0, .int .i64 0, .bool false, .bool false, .bool false]) 5 24 Try.underlying39 HI27.out rfl (by omega) (.slice (some ⟨w3.heap.size, 0, none⟩) 0 0) 0 [] rfl HE3.out _ (some ⟨g, 0, none⟩) i cap (cells5 (L.take i)) rfl RR1.out P1.out h63 (by omega) ?_)
        intro v2 w4 ho2 hk2 hf2
        have kk2 := HK3.out.trans hk2 (fun g hg => .inr (by have h2 : g = w3.heap.size := (by simpa using hg); omega))
        have ff2 : ∀ g ∈ fp v2, w3.heap.size ≤ g := by
          intro g hg
          rcases hf2 g hg with h | h
          · have h' : g = w3.heap.size := by simpa using h
            omega
          · have h' : w3.heap.size + 1 ≤ g := by simpa using h
            omega
        have HO1b : Hid (Reads w4 w4.heap.size 5 A5 (1 + (L.length - i)) ([.int .i64 pg, .int .i64 fr, .bool wr, .bool false, .bool false] ++ cells5 (L.drop i))) := Lib.hid (by
          have h1 := own_keep (own_keep HO1.out ((Keeps.refl [] _).alloc (.cells #[] 27)) (by simp)) hk2 (fun g hg h => by have h2 : g = w3.heap.size := (by simpa using h); have := own_lt HO1.out hg; omega)
          exact reads_own h1)
        have HO2 : Hid (w4.ownsRow 0 27 5 v2 i (cells5 (L.take i))) := Lib.hid (by simpa using ho2)
        have HK4 := Lib.hid kk2
        have HF2 := Lib.hid ff2
        have hs4 := kk2.size
        clear ho2 hk2 hf2 kk2 ff2
        go_wp2_with (at_builtin; refine wpList_app _ rfl (.tmp 58) (.tmp 59) _ rfl 27 (.agg #[.int .i64 0, .int .i64 0, .bool false, .bool false, .bool false]) 5 24 Try.underlying39 HI27.out rfl (by omega) v2 i (cells5 (L.take i)) rfl HO2.out _ A5 (1 + (L.length - i)) cap5 ([.int .i64 pg, .int .i64 fr, .bool wr, .bool false, .bool false] ++ cells5 (L.drop i)) rfl HO1b.out HONE.out h66 (by omega) ?_)
        intro v3 w5 ho3 hk3 hf3
        have kk := HA.out.swap (m' := upd m k (some ⟨fr, wr, false, false⟩)) (HK4.out.trans hk3 (fun g hg => .inr (Nat.le_trans hs3 (HF2.out g hg)))) (HW.out _ _ (by simpa using ho3)) (fun g hg => (hf3 g hg).elim (fun h => Nat.le_trans hs3 (HF2.out g h)) (fun h => Nat.le_trans hs4 h)) hz.out
        obtain ⟨A6, cap6, rfl, d0, d1, hr, hk, hn⟩ := kk
        have HN1 := Lib.hid hr
        have HN2 := Lib.hid hk
        have HN3 := Lib.hid hn
        clear hr hk hn ho3 hk3 hf3
        go_wp2
        go_ret
        rw [E1.out, E2.out]
        exact ⟨_, rfl, HN1.out, HN2.out, HN3.out⟩
end Go.Proofs.Ytnnoekcnhdcodaa
