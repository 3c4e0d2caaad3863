/- Texts of elder seats, turned to this one. -/
import Derived.Test.YteognipfnbocpaaGreatT12A
import Derived.Deep.RegionLaw
import Derived.StillTailTactics
namespace Go.Proofs.YteognipfnbocpaaGreat.T12
open Go.RowKit

/-- The entry of page k, if it is there, as a list. -/
def opt1 (k : Nat) (o : Option E) : List (Nat × E) := match o with | none => [] | some e => [(k, e)]
/-- The entries of the n pages from c on. -/
def entsF (m : Nat → Option E) (c : Nat) : Nat → List (Nat × E)
  | 0 => []
  | n + 1 => entsF m c n ++ opt1 (c + n) (m (c + n))
theorem ents_add (m : Nat → Option E) (c n : Nat) : ents m (c + n) = ents m c ++ entsF m c n := by
  induction n with
  | zero => simp [entsF]
  | succ n ih =>
    have e1 : ents m (c + n + 1) = ents m (c + n) ++ opt1 (c + n) (m (c + n)) := rfl
    have e2 : entsF m c (n + 1) = entsF m c n ++ opt1 (c + n) (m (c + n)) := rfl
    rw [← Nat.add_assoc, e1, e2, ih, List.append_assoc]
theorem ents_congr {m m' : Nat → Option E} {n : Nat} (h : ∀ i, i < n → m' i = m i) : ents m' n = ents m n := by
  induction n with
  | zero => rfl
  | succ n ih => unfold ents; rw [ih (fun i hi => h i (by omega)), h n (by omega)]
theorem entsF_congr {m m' : Nat → Option E} {c n : Nat} (h : ∀ i, i < n → m' (c + i) = m (c + i)) : entsF m' c n = entsF m c n := by
  induction n with
  | zero => rfl
  | succ n ih => unfold entsF; rw [ih (fun i hi => h i (by omega)), h n (by omega)]
theorem ents_three (m : Nat → Option E) {k : Nat} (hk : k < 256) : ents m 256 = ents m k ++ opt1 k (m k) ++ entsF m (k + 1) (255 - k) := by
  have h := ents_add m (k + 1) (255 - k)
  rw [show k + 1 + (255 - k) = 256 by omega] at h
  have e1 : ents m (k + 1) = ents m k ++ opt1 k (m k) := rfl
  rw [h, e1]
theorem ents_upd (m : Nat → Option E) {k : Nat} (hk : k < 256) (o : Option E) : ents (upd m k o) 256 = ents m k ++ opt1 k o ++ entsF m (k + 1) (255 - k) := by
  rw [ents_three _ hk, upd_same, ents_congr (m := m) (fun i hi => upd_ne (by omega)), entsF_congr (m := m) (fun i hi => upd_ne (by omega))]
theorem ents_lt (m : Nat → Option E) (n : Nat) : ∀ x ∈ ents m n, x.1 < n := by
  induction n with
  | zero => simp [ents]
  | succ n ih =>
    intro x hx
    unfold ents at hx
    rcases List.mem_append.1 hx with h | h
    · have := ih x h; omega
    · cases hm : m n with
      | none => simp [hm] at h
      | some e => simp [hm] at h; subst h; simp
theorem entsF_ge (m : Nat → Option E) (c n : Nat) : ∀ x ∈ entsF m c n, c ≤ x.1 := by
  induction n with
  | zero => simp [entsF]
  | succ n ih =>
    intro x hx
    unfold entsF opt1 at hx
    rcases List.mem_append.1 hx with h | h
    · exact ih x h
    · cases hm : m (c + n) with
      | none => simp [hm] at h
      | some e => simp [hm] at h; subst h; simp
def cl (pg : Int) : Nat := (max 0 (min pg 256)).toNat
theorem cl_nat {k : Nat} (h : k ≤ 256) : cl (k : Int) = k := by unfold cl; omega
/-- The place of page pg in the list. -/
def idx (m : Nat → Option E) (pg : Int) : Nat := (ents m (cl pg)).length
theorem ents_cl (m : Nat → Option E) (pg : Int) : ∃ r, ents m 256 = ents m (cl pg) ++ r ∧ ∀ x ∈ r, pg ≤ x.1 := by
  have hc : cl pg ≤ 256 := by unfold cl; omega
  refine ⟨entsF m (cl pg) (256 - cl pg), ?_, fun x hx => ?_⟩
  · rw [← ents_add, show cl pg + (256 - cl pg) = 256 by omega]
  · have h1 := entsF_ge m _ _ x hx
    by_cases h : pg ≤ 256
    · unfold cl at h1; omega
    · have : cl pg = 256 := by unfold cl; omega
      rw [this] at hx
      simp [entsF] at hx
theorem idx_le (m : Nat → Option E) (pg : Int) : idx m pg ≤ (ents m 256).length := by
  obtain ⟨r, h, _⟩ := ents_cl m pg
  rw [h, List.length_append]; unfold idx; omega
/-- The first place whose page is at least pg is that of pg. -/
theorem idx_of (m : Nat → Option E) (pg : Int) (k : Nat) (hk : k ≤ (ents m 256).length) (h0 : ∀ j (hj : j < (ents m 256).length), j < k → ((ents m 256)[j].1 : Int) < pg)
    (h1 : ∀ hk : k < (ents m 256).length, pg ≤ (ents m 256)[k].1) : k = idx m pg := by
  obtain ⟨r, e, hr⟩ := ents_cl m pg
  have hl : (ents m 256).length = idx m pg + r.length := by rw [e, List.length_append]; rfl
  rcases Nat.lt_trichotomy k (idx m pg) with h | h | h
  · have hkl : k < (ents m 256).length := by omega
    have h2 := h1 hkl
    have h3 : (ents m 256)[k] ∈ ents m (cl pg) := by
      have : (ents m 256)[k] = (ents m (cl pg))[k]'h := by simp only [e]; exact List.getElem_append_left h
      rw [this]; exact List.getElem_mem _
    have h4 := ents_lt m _ _ h3
    unfold cl at h4
    omega
  · exact h
  · have hkl : idx m pg < (ents m 256).length := by omega
    have h2 := h0 (idx m pg) hkl h
    have h3 : (ents m 256)[idx m pg] ∈ r := by
      have hlen : idx m pg - (ents m (cl pg)).length < r.length := by unfold idx; rw [Nat.sub_self]; omega
      have : (ents m 256)[idx m pg] = r[idx m pg - (ents m (cl pg)).length]'hlen := by simp only [e]; exact List.getElem_append_right (Nat.le_refl _)
      rw [this]; exact List.getElem_mem _
    have h4 := hr _ h3
    omega
theorem ent_some_cl {m : Nat → Option E} {pg : Int} {e : E} (ho : ∀ k, 256 ≤ k → m k = none) (h : ent m pg = some e) : ∃ k : Nat, pg = k ∧ k < 256 ∧ m k = some e := by
  have h0 := ent_nonneg h
  obtain ⟨k, rfl⟩ := Int.eq_ofNat_of_zero_le h0
  rw [ent_nat] at h
  refine ⟨k, rfl, ?_, h⟩
  rcases Nat.lt_or_ge k 256 with h1 | h1
  · exact h1
  · rw [ho k h1] at h; cases h
theorem idx_at {m : Nat → Option E} {k : Nat} {e : E} (hk : k < 256) (h : m k = some e) : ∃ hl : idx m (k : Int) < (ents m 256).length, (ents m 256)[idx m (k : Int)] = (k, e) := by
  have h3 := ents_three m hk
  rw [h] at h3
  have hi : idx m (k : Int) = (ents m k).length := by unfold idx; rw [cl_nat (by omega)]
  have hl : idx m (k : Int) < (ents m 256).length := by rw [h3, hi]; simp [opt1]
  refine ⟨hl, ?_⟩
  simp only [h3, hi]
  simp [opt1]
theorem idx_no {m : Nat → Option E} {pg : Int} (h : ent m pg = none) (hl : idx m pg < (ents m 256).length) : ((ents m 256)[idx m pg].1 : Int) ≠ pg := by
  intro e
  generalize hx : (ents m 256)[idx m pg] = x at *
  have hmem : x ∈ ents m 256 := by rw [← hx]; exact List.getElem_mem _
  have key : ∀ n, ∀ x ∈ ents m n, m x.1 = some x.2 := by
    intro n
    induction n with
    | zero => simp [ents]
    | succ n ih =>
      intro x hx
      unfold ents at hx
      rcases List.mem_append.1 hx with h | h
      · exact ih x h
      · cases hm : m n with
        | none => simp [hm] at h
        | some e => simp [hm] at h; subst h; exact hm
  have := key _ x hmem
  rw [← e, ent_nat, this] at h
  cases h

theorem idx_hit {m : Nat → Option E} {pg : Int} (ho : ∀ k, 256 ≤ k → m k = none) {k : Nat} (hk : k < (ents m 256).length) (h0 : ∀ j (hj : j < (ents m 256).length), j < k → ((ents m 256)[j].1 : Int) < pg)
    (h1 : pg ≤ (ents m 256)[k].1) : k = idx m pg ∧ (((ents m 256)[k].1 : Int) == pg) = (ent m pg).isSome := by
  have e := idx_of m pg k (by omega) h0 (fun _ => h1)
  refine ⟨e, ?_⟩
  subst e
  cases he : ent m pg with
  | none => simpa using idx_no he hk
  | some x =>
    obtain ⟨n, rfl, h2, h3⟩ := ent_some_cl ho he
    obtain ⟨_, h4⟩ := idx_at h2 h3
    simp only [h4]
    simp
theorem idx_end {m : Nat → Option E} {pg : Int} (ho : ∀ k, 256 ≤ k → m k = none) (h0 : ∀ j (hj : j < (ents m 256).length), j < (ents m 256).length → ((ents m 256)[j].1 : Int) < pg) :
    (ents m 256).length = idx m pg ∧ false = (ent m pg).isSome := by
  have e := idx_of m pg _ (Nat.le_refl _) h0 (fun h => absurd h (by omega))
  refine ⟨e, ?_⟩
  cases he : ent m pg with
  | none => rfl
  | some x =>
    obtain ⟨n, rfl, h2, h3⟩ := ent_some_cl ho he
    obtain ⟨h4, _⟩ := idx_at h2 h3
    omega

/-- The reference's table with the entries m lies at block q; G are all its blocks. -/
structure RfAt (w : World) (G : List Nat) (q : Nat) (m : Nat → Option E) (A : Option Addr) (cap : Nat) : Prop where
  f : G = q :: fp (.slice A (ents m 256).length cap)
  b : Blk w q 77 #[.slice A (ents m 256).length cap]
  o : w.ownsRow 0 42 5 (.slice A (ents m 256).length cap) (ents m 256).length (cells5 (ents m 256))
  z : ∀ k, 256 ≤ k → m k = none
def RfRep (w : World) (G : List Nat) (q : Nat) (m : Nat → Option E) : Prop := ∃ A cap, RfAt w G q m A cap
section
variable {w w' : World} {F G : List Nat} {q : Nat} {m : Nat → Option E} {A : Option Addr} {cap : Nat}
theorem RfAt.off (h : RfAt w G q m A cap) : q ∉ fp (.slice A (ents m 256).length cap) := own_blk_off h.o h.b (by decide)
theorem RfRep.lt (h : RfRep w G q m) : ∀ g ∈ G, g < w.heap.size := by
  obtain ⟨A, cap, h⟩ := h
  intro g hg
  rw [h.f] at hg
  rcases List.mem_cons.1 hg with rfl | hg
  · exact h.b.lt
  · exact own_lt h.o hg
theorem RfAt.keep (h : RfAt w G q m A cap) (hk : Keeps F w w') (hd : ∀ g ∈ G, g ∉ F) : RfAt w' G q m A cap := by
  have hf := h.f
  exact ⟨hf, h.b.keep hk (hd q (by rw [hf]; simp)), own_keep h.o hk (fun g hg => hd g (by rw [hf]; simp [hg])), h.z⟩
theorem RfRep.keep (h : RfRep w G q m) (hk : Keeps F w w') (hd : ∀ g ∈ G, g ∉ F) : RfRep w' G q m := by
  obtain ⟨A, cap, h⟩ := h
  exact ⟨A, cap, h.keep hk hd⟩
theorem RfAt.len (h : RfAt w G q m A cap) : (ents m 256).length ≤ 256 ∧ (ents m 256).length ≤ cap ∧ cap ≤ 9223372036854775807 ∧ (0 < (ents m 256).length → ∃ g, A = some ⟨g, 0, none⟩) := by
  obtain ⟨_, _, hv, hcap, hmax, hA⟩ := own_shape h.o
  injection hv with h1 h2 h3
  subst h1
  subst h3
  exact ⟨ents_len m 256, hcap, hmax, hA⟩
end

set_option maxHeartbeats 800000 in
theorem index_any (w : World) (G : List Nat) (q : Nat) (m : Nat → Option E) (pg : Int) (h : RfRep w G q m) :
    Calls Tryz.prog 74 #[.pointer (some ⟨q, 0, none⟩), .int .i64 pg] w fun e w' => e = .returned (.tuple #[.int .i64 (idx m pg), .bool (ent m pg).isSome]) ∧ Keeps [] w w' := by
  obtain ⟨A, cap, h⟩ := h
  obtain ⟨hn, hcap, hmax, hA⟩ := h.len
  have c0 : w.cell? ⟨q, 0, none⟩ = some (.slice A (ents m 256).length cap) := h.b.cell 0
  have HI := Lib.hid (fun k hk => idx_hit (m := m) (pg := pg) h.z (k := k) hk)
  have HJ := Lib.hid (idx_end (m := m) (pg := pg) h.z)
  have ho := h.o
  have hlt0 := h.b.lt
  clear h
  generalize hL : ents m 256 = L at *
  clear hL
  go_enter Tryz.func74, Tryz.ntmps74
  go_wp2
  go_loop [6] (fun i => ∃ k : Nat, k ≤ L.length ∧ i = .int .i64 k ∧ ∀ j (hj : j < L.length), j < k → (L[j].1 : Int) < pg) (fun i => L.length - (intOf i).toNat)
  case atStart => exact ⟨0, by omega, rfl, fun j _ h => absurd h (by omega)⟩
  case round =>
    obtain ⟨k, hk, rfl, hall⟩ := hrel
    by_cases hlt : k < L.length
    · obtain ⟨g, rfl⟩ := hA (by omega)
      have a0 : w.cell? ⟨g, k * 5, none⟩ = some (.int .i64 L[k].1) := own_cell ho (by have := cells5_at L k 0 hlt (by omega); simpa [c5] using this)
      have HA := Lib.hid hall
      have hi0 : (0 : Int) ≤ (k : Int) := by omega
      have hi1 : (k : Int) < (L.length : Int) := by omega
      by_cases hp : (L[k].1 : Int) < pg
      · have HP := Lib.hid hp
        generalize hx : L[k].1 = x at hp a0
        clear hall ho hA hx
        go_wp2
        go_round
        case rel => exact ⟨k + 1, by omega, by go_num, fun j hj h => by
          by_cases e : j = k
          · subst e; exact HP.out
          · exact HA.out j hj (by omega)⟩
        case measure => simp [intOf]; omega
      · have hp2 : pg ≤ (L[k].1 : Int) := by omega
        obtain ⟨e1, e2⟩ := HI.out k hlt hall hp2
        have E1 := Lib.hid e1
        generalize hx : L[k].1 = x at *
        have E2 := Lib.hid e2
        clear hall ho hA hx e1 e2 hp
        go_wp2_with fail
        go_quiet (fail)
        go_wp2
        go_ret2
        rw [← E1.out, ← E2.out]
        exact ⟨rfl, (Keeps.refl _ _).drewN _⟩
    · obtain rfl : k = L.length := by omega
      obtain ⟨e1, e2⟩ := HJ.out hall
      have E1 := Lib.hid e1
      have E2 := Lib.hid e2
      clear e1 e2 hall
      go_wp2
      go_ret2
      rw [← E1.out, ← E2.out]
      exact ⟨rfl, Keeps.refl _ _⟩
end Go.Proofs.YteognipfnbocpaaGreat.T12
namespace Go.Proofs.YteognipfnbocpaaGreat.T12
open Go.RowKit

theorem cells5_set (L : List (Nat × E)) (i j : Nat) (hi : i < L.length) (hj : j < 5) (v : Value) (x : Nat × E) (hx : c5 x = (c5 L[i]).set j v) : (cells5 L).set (i * 5 + j) v = cells5 (L.set i x) := by
  induction L generalizing i with
  | nil => simp at hi
  | cons y r ih =>
    have hc : (c5 y).length = 5 := rfl
    show (c5 y ++ cells5 r).set (i * 5 + j) v = _
    cases i with
    | zero =>
      rw [List.set_append_left _ _ (by rw [hc]; omega)]
      simp only [List.getElem_cons_zero] at hx
      rw [Nat.zero_mul, Nat.zero_add, ← hx]
      rfl
    | succ i =>
      rw [List.set_append_right _ _ (by rw [hc]; omega), hc, show (i + 1) * 5 + j - 5 = i * 5 + j by omega, ih i (by simpa using hi) (by simpa using hx)]
      rfl
theorem ents_set {m : Nat → Option E} {k : Nat} {e : E} (hk : k < 256) (h : m k = some e) (e' : E) : ents (upd m k (some e')) 256 = (ents m 256).set (idx m (k : Int)) (k, e') := by
  rw [ents_upd _ hk, ents_three _ hk, h]
  have hi : idx m (k : Int) = (ents m k).length := by unfold idx; rw [cl_nat (by omega)]
  rw [hi]
  simp [opt1]
theorem idx_upd (m : Nat → Option E) {k : Nat} (hk : k < 256) (o : Option E) : idx (upd m k o) (k : Int) = idx m (k : Int) := by
  unfold idx
  rw [cl_nat (by omega), ents_congr (m := m) (fun i hi => upd_ne (by omega))]
theorem RfAt.one {w : World} {G : List Nat} {q : Nat} {m : Nat → Option E} {g cap : Nat} {k j : Nat} {e e' : E} {v : Value} (h : RfAt w G q m (some ⟨g, 0, none⟩) cap) (hk : k < 256) (hm : m k = some e) (hj : j < 5)
    (hc : c5 (k, e') = (c5 (k, e)).set j v) : RfAt (w.setCell ⟨g, idx m (k : Int) * 5 + j, none⟩ v) G q (upd m k (some e')) (some ⟨g, 0, none⟩) cap := by
  have hl : (ents (upd m k (some e')) 256).length = (ents m 256).length := by rw [ents_set hk hm, List.length_set]
  obtain ⟨hil, hit⟩ := idx_at hk hm
  have hq : q ≠ g := by have := h.off; simpa using this
  refine ⟨by rw [hl]; exact h.f, by rw [hl]; exact h.b.far hq _, ?_, fun i hi => ?_⟩
  · rw [hl, ents_set hk hm, ← cells5_set _ _ j hil hj v _ (by rw [hit]; exact hc)]
    exact own_set h.o _ _
  · rw [upd_ne (by omega)]; exact h.z i hi
theorem RfAt.cellj {w : World} {G : List Nat} {q : Nat} {m : Nat → Option E} {g cap : Nat} {k j : Nat} {e : E} {v : Value} (h : RfAt w G q m (some ⟨g, 0, none⟩) cap) (hk : k < 256) (hm : m k = some e) (hj : j < 5)
    (hc : (c5 (k, e))[j]? = some v) : w.cell? ⟨g, idx m (k : Int) * 5 + j, none⟩ = some v := by
  obtain ⟨hil, hit⟩ := idx_at hk hm
  refine own_cell h.o ?_
  rw [cells5_at _ _ _ hil hj, hit]
  exact hc

set_option maxRecDepth 100000 in
set_option maxHeartbeats 800000 in
theorem rlook_any (w : World) (G : List Nat) (q : Nat) (m : Nat → Option E) (pg : Int) (h : RfRep w G q m) :
    Calls Tryz.prog 43 #[.pointer (some ⟨q, 0, none⟩), .int .i64 pg] w fun e w' => e = .returned (.tuple #[.agg #[.int .i64 (lookX m pg).1, .int .i64 (lookX m pg).2.fr, .bool (lookX m pg).2.wr, .bool (lookX m pg).2.ac, .bool (lookX m pg).2.di], .bool (ent m pg).isSome]) ∧ RfRep w' G q m ∧ Keeps [] w w' := by
  have k1 : Keeps [] w (w.alloc (.cells #[.int .i64 0, .int .i64 0, .bool false, .bool false, .bool false] 42)) := (Keeps.refl _ _).alloc _
  have hA := h.keep k1 (by simp)
  have hi := index_any _ G q m pg hA
  have bz : Blk (w.alloc (.cells #[.int .i64 0, .int .i64 0, .bool false, .bool false, .bool false] 42)) w.heap.size 42 #[.int .i64 0, .int .i64 0, .bool false, .bool false, .bool false] := Blk.new _ _ _
  have HB := Lib.hid bz
  have HK := Lib.hid k1
  clear bz k1
  cases he : ent m pg with
  | none =>
    rw [he] at hi
    simp only [Option.isSome_none] at hi
    have HI := Lib.hid hi
    have HX := Lib.hid (lookX_none he)
    clear hi he
    go_enter Tryz.func43, Tryz.ntmps43
    go_wp2_with fail
    refine HI.out.mono ?_
    rintro e w1 ⟨rfl, k2⟩
    have b2 := HB.out.keep k2 (by simp)
    have z0 := b2.cell 0
    have z1 := b2.cell 1
    have z2 := b2.cell 2
    have z3 := b2.cell 3
    have z4 := b2.cell 4
    have f0 := b2.frozen 0
    have f1 := b2.frozen 1
    have f2 := b2.frozen 2
    have f3 := b2.frozen 3
    have f4 := b2.frozen 4
    have HB2 := Lib.hid b2
    have HR := Lib.hid (hA.keep k2 (by simp))
    have HK2 := Lib.hid (HK.out.trans k2 (by simp))
    clear b2 k2 HI
    go_wp2_with (refine wpList_store_blk rfl 42 _ _ rfl rfl w.heap.size rfl 42 _ #[.int .i64 0, .int .i64 0, .bool false, .bool false, .bool false] HB2.out rfl rfl (by simp [Value.oneCell']) rfl ?_; intro w9 b9 k9)
    refine bodyPost_ret (v := .tuple #[.agg #[.int .i64 0, .int .i64 0, .bool false, .bool false, .bool false], .bool false]) (by simp [results, Tryz.results43, go_sem, b9.cell 0, b9.cell 1, b9.cell 2, b9.cell 3, b9.cell 4]) rfl ?_
    rw [HX.out]
    have hng : ∀ g ∈ G, g ∉ [w.heap.size] := fun g hg h => by have := List.mem_singleton.1 h; subst this; have := RfRep.lt (by assumption : RfRep w G q m) _ hg; omega
    exact ⟨rfl, HR.out.keep k9 hng, HK2.out.trans k9 (fun g hg => .inr (by rw [List.mem_singleton.1 hg]; omega))⟩
  | some x =>
    rw [he] at hi
    simp only [Option.isSome_some] at hi
    have HI := Lib.hid hi
    have HX := Lib.hid (lookX_some he)
    obtain ⟨A, cap, hA⟩ := hA
    obtain ⟨k, rfl, hk, hm⟩ := ent_some_cl hA.z he
    obtain ⟨hn, hcap, hmax, hAA⟩ := hA.len
    obtain ⟨hil, hit⟩ := idx_at hk hm
    obtain ⟨g, rfl⟩ := hAA (by omega)
    have HM := Lib.hid hm
    clear hi he hit hAA hm
    go_enter Tryz.func43, Tryz.ntmps43
    go_wp2_with fail
    refine HI.out.mono ?_
    rintro e w1 ⟨rfl, k2⟩
    have h1 := hA.keep k2 (by simp)
    have c0 : w1.cell? ⟨q, 0, none⟩ = some (.slice (some ⟨g, 0, none⟩) (ents m 256).length cap) := h1.b.cell 0
    have p0 := h1.cellj hk HM.out (j := 0) (by omega) (v := .int .i64 k) rfl
    have p1 := h1.cellj hk HM.out (j := 1) (by omega) (v := .int .i64 x.fr) rfl
    have p2 := h1.cellj hk HM.out (j := 2) (by omega) (v := .bool x.wr) rfl
    have p3 := h1.cellj hk HM.out (j := 3) (by omega) (v := .bool x.ac) rfl
    have p4 := h1.cellj hk HM.out (j := 4) (by omega) (v := .bool x.di) rfl
    simp only [Nat.add_zero] at p0
    have hi0 : (0 : Int) ≤ (idx m (k : Int) : Nat) := by omega
    have hi1 : ((idx m (k : Int) : Nat) : Int) < ((ents m 256).length : Nat) := by omega
    have b2 := HB.out.keep k2 (by simp)
    have HB2 := Lib.hid b2
    have HR := Lib.hid h1
    have HK2 := Lib.hid (HK.out.trans k2 (by simp))
    clear b2 k2 HI h1 hA
    go_wp2_with (refine wpList_store_blk rfl 42 _ _ rfl rfl w.heap.size rfl 42 _ #[.int .i64 k, .int .i64 x.fr, .bool x.wr, .bool x.ac, .bool x.di] HB2.out rfl rfl (by simp [Value.oneCell']) rfl ?_; intro w9 b9 k9)
    refine bodyPost_ret (v := .tuple #[.agg #[.int .i64 k, .int .i64 x.fr, .bool x.wr, .bool x.ac, .bool x.di], .bool true]) (by simp [results, Tryz.results43, go_sem, b9.cell 0, b9.cell 1, b9.cell 2, b9.cell 3, b9.cell 4]) rfl ?_
    rw [HX.out]
    have hng : ∀ g ∈ G, g ∉ [w.heap.size] := fun g hg h => by have := List.mem_singleton.1 h; subst this; have := RfRep.lt (by assumption : RfRep w G q m) _ hg; omega
    exact ⟨rfl, ⟨_, _, HR.out.keep k9 hng⟩, HK2.out.trans k9 (fun g hg => .inr (by rw [List.mem_singleton.1 hg]; omega))⟩

set_option maxRecDepth 100000 in
set_option maxHeartbeats 800000 in
theorem rclear_any (w : World) (G : List Nat) (q : Nat) (m : Nat → Option E) (pg : Int) (h : RfRep w G q m) :
    Calls Tryz.prog 68 #[.pointer (some ⟨q, 0, none⟩), .int .i64 pg] w fun e w' => e = .returned (.bool (clrB m pg)) ∧ RfRep w' G q (clrM m pg) ∧ Keeps G w w' := by
  have hi := index_any _ G q m pg h
  cases he : ent m pg with
  | none =>
    rw [he] at hi
    simp only [Option.isSome_none] at hi
    have HI := Lib.hid hi
    have HE := Lib.hid he
    clear hi he
    go_enter Tryz.func68, Tryz.ntmps68
    go_wp2_with fail
    refine HI.out.mono ?_
    rintro e w1 ⟨rfl, k2⟩
    have HR := Lib.hid (h.keep k2 (by simp))
    have HK2 := Lib.hid (k2.mono (G := G) (by simp))
    clear k2
    go_wp2
    go_ret
    unfold clrB clrM
    rw [HE.out]
    exact ⟨rfl, HR.out, HK2.out⟩
  | some x =>
    rw [he] at hi
    simp only [Option.isSome_some] at hi
    have HI := Lib.hid hi
    have HE := Lib.hid he
    obtain ⟨A, cap, hA⟩ := h
    obtain ⟨k, rfl, hk, hm⟩ := ent_some_cl hA.z he
    obtain ⟨hn, hcap, hmax, hAA⟩ := hA.len
    obtain ⟨hil, hit⟩ := idx_at hk hm
    obtain ⟨g, rfl⟩ := hAA (by omega)
    have HM := Lib.hid hm
    clear hi he hit hAA hm
    go_enter Tryz.func68, Tryz.ntmps68
    go_wp2_with fail
    refine HI.out.mono ?_
    rintro e w1 ⟨rfl, k2⟩
    have h1 := hA.keep k2 (by simp)
    have c0 : w1.cell? ⟨q, 0, none⟩ = some (.slice (some ⟨g, 0, none⟩) (ents m 256).length cap) := h1.b.cell 0
    have p3 := h1.cellj hk HM.out (j := 3) (by omega) (v := .bool x.ac) rfl
    have f3 := own_free h1.o (idx m (k : Int) * 5 + 3)
    have hi0 : (0 : Int) ≤ (idx m (k : Int) : Nat) := by omega
    have hi1 : ((idx m (k : Int) : Nat) : Int) < ((ents m 256).length : Nat) := by omega
    have HR := Lib.hid (h1.one hk HM.out (j := 3) (by omega) (e' := ⟨x.fr, x.wr, false, x.di⟩) (v := .bool false) rfl)
    have hgG : g ∈ G := by rw [hA.f]; simp
    have HK2 := Lib.hid ((k2.mono (G := G) (by simp)).setCell (p := ⟨g, idx m (k : Int) * 5 + 3, none⟩) (.inl hgG) (.bool false))
    clear k2 HI h1 hA
    go_wp2
    go_ret
    unfold clrB clrM
    rw [HE.out]
    exact ⟨rfl, ⟨_, _, HR.out⟩, HK2.out⟩

set_option maxRecDepth 100000 in
set_option maxHeartbeats 800000 in
theorem rwalk_any (w : World) (G : List Nat) (q : Nat) (m : Nat → Option E) (pg : Int) (wr : Bool) (h : RfRep w G q m) :
    Calls Tryz.prog 60 #[.pointer (some ⟨q, 0, none⟩), .int .i64 pg, .bool wr] w fun e w' => e = .returned (.tuple #[.int .i64 (wlkN m pg wr), .bool (wlkB m pg wr)]) ∧ RfRep w' G q (wlkM m pg wr) ∧ Keeps G w w' := by
  have hi := index_any _ G q m pg h
  cases he : ent m pg with
  | none =>
    rw [he] at hi
    simp only [Option.isSome_none] at hi
    have HI := Lib.hid hi
    have HE := Lib.hid he
    clear hi he
    go_enter Tryz.func60, Tryz.ntmps60
    go_wp2_with fail
    refine HI.out.mono ?_
    rintro e w1 ⟨rfl, k2⟩
    have HR := Lib.hid (h.keep k2 (by simp))
    have HK2 := Lib.hid (k2.mono (G := G) (by simp))
    clear k2
    go_wp2
    go_ret2
    unfold wlkN wlkB wlkM
    rw [HE.out]
    exact ⟨rfl, HR.out, HK2.out⟩
  | some x =>
    rw [he] at hi
    simp only [Option.isSome_some] at hi
    have HI := Lib.hid hi
    have HE := Lib.hid he
    obtain ⟨A, cap, hA⟩ := h
    obtain ⟨k, rfl, hk, hm⟩ := ent_some_cl hA.z he
    obtain ⟨hn, hcap, hmax, hAA⟩ := hA.len
    obtain ⟨hil, hit⟩ := idx_at hk hm
    obtain ⟨g, rfl⟩ := hAA (by omega)
    have HM := Lib.hid hm
    clear hi he hit hAA hm
    obtain ⟨x1, x2, x3, x4⟩ := x
    go_enter Tryz.func60, Tryz.ntmps60
    go_wp2_with fail
    refine HI.out.mono ?_
    rintro e w1 ⟨rfl, k2⟩
    have h1 := hA.keep k2 (by simp)
    have c0 : w1.cell? ⟨q, 0, none⟩ = some (.slice (some ⟨g, 0, none⟩) (ents m 256).length cap) := h1.b.cell 0
    have hgq : g ≠ q := by have := h1.off; simp at this; exact fun e => this e.symm
    have hqg : q ≠ g := hgq.symm
    have p1 := h1.cellj hk HM.out (j := 1) (by omega) (v := .int .i64 x1) rfl
    have p2 := h1.cellj hk HM.out (j := 2) (by omega) (v := .bool x2) rfl
    have p3 := h1.cellj hk HM.out (j := 3) (by omega) (v := .bool x3) rfl
    have p4 := h1.cellj hk HM.out (j := 4) (by omega) (v := .bool x4) rfl
    have f3 := own_free h1.o (idx m (k : Int) * 5 + 3)
    have f4 := own_free h1.o (idx m (k : Int) * 5 + 4)
    have hi0 : (0 : Int) ≤ (idx m (k : Int) : Nat) := by omega
    have hi1 : ((idx m (k : Int) : Nat) : Int) < ((ents m 256).length : Nat) := by omega
    have hgG : g ∈ G := by rw [hA.f]; simp
    have H1 := Lib.hid h1
    have HK1 := Lib.hid (k2.mono (G := G) (by simp))
    have h2 := h1.one hk HM.out (j := 3) (by omega) (e' := ⟨x1, x2, true, x4⟩) (v := .bool true) rfl
    have h3 := h2.one hk (upd_same _ _ _) (j := 4) (by omega) (e' := ⟨x1, x2, true, true⟩) (v := .bool true) rfl
    rw [idx_upd _ hk] at h3
    have huu : upd (upd m k (some ⟨x1, x2, true, x4⟩)) k (some ⟨x1, x2, true, true⟩) = upd m k (some ⟨x1, x2, true, true⟩) := by funext z; unfold upd; split <;> rfl
    rw [huu] at h3
    have H2 := Lib.hid h2
    have H3 := Lib.hid h3
    have HK2 := Lib.hid (HK1.out.setCell (p := ⟨g, idx m (k : Int) * 5 + 3, none⟩) (.inl hgG) (.bool true))
    have HK3 := Lib.hid (HK2.out.setCell (p := ⟨g, idx m (k : Int) * 5 + 4, none⟩) (.inl hgG) (.bool true))
    clear k2 HI h1 hA h2 h3 huu
    cases wr
    · go_wp2
      go_ret2
      unfold wlkN wlkB wlkM
      rw [HE.out]
      exact ⟨rfl, by simpa using ⟨_, _, H2.out⟩, HK2.out⟩
    · cases x2
      · go_wp2
        go_ret2
        unfold wlkN wlkB wlkM
        rw [HE.out]
        exact ⟨rfl, ⟨_, _, H1.out⟩, HK1.out⟩
      · go_wp2
        go_ret2
        unfold wlkN wlkB wlkM
        rw [HE.out]
        exact ⟨rfl, by simpa using ⟨_, _, H3.out⟩, HK3.out⟩
end Go.Proofs.YteognipfnbocpaaGreat.T12
namespace Go.Proofs.YteognipfnbocpaaGreat.T12
open Go.RowKit

/-- What a call that may lay the list anew leaves. -/
def RMapped (w : World) (G : List Nat) (q : Nat) (m : Nat → Option E) (v : Value) (e : Ending) (w' : World) : Prop := ∃ G', e = .returned v ∧ RfRep w' G' q m ∧ Keeps G w w' ∧ ∀ g ∈ G', g ∈ G ∨ w.heap.size ≤ g
theorem RfAt.swap {w w2 : World} {G : List Nat} {q : Nat} {m m' : Nat → Option E} {A : Option Addr} {cap : Nat} {v : Value} (h : RfAt w G q m A cap) (k : Keeps [] w w2)
    (o : w2.ownsRow 0 42 5 v (ents m' 256).length (cells5 (ents m' 256))) (f : ∀ g ∈ fp v, w.heap.size ≤ g) (z : ∀ k, 256 ≤ k → m' k = none) :
    ∃ A2 cap2, v = .slice A2 (ents m' 256).length cap2 ∧ w2.cell? ⟨q, 0, none⟩ = some (.slice A (ents m 256).length cap) ∧ w2.frozen? ⟨q, 0, none⟩ = false ∧
      RfRep (w2.setCell ⟨q, 0, none⟩ v) (q :: fp v) q m' ∧ Keeps G w (w2.setCell ⟨q, 0, none⟩ v) ∧ ∀ g ∈ q :: fp v, g ∈ G ∨ w.heap.size ≤ g := by
  obtain ⟨A2, cap2, rfl, -⟩ := own_shape o
  have hb := h.b.keep k (by simp)
  have hqG : q ∈ G := by rw [h.f]; simp
  have hq : q ∉ fp (.slice A2 (ents m' 256).length cap2) := fun hx => by have := f q hx; have := h.b.lt; omega
  refine ⟨A2, cap2, rfl, hb.cell 0, hb.frozen 0, ⟨A2, cap2, rfl, ?_, own_far o hq _, z⟩, (k.mono (by simp)).setCell (.inl hqG) _, fun g hg => ?_⟩
  · exact hb.set_ 0 _
  · rcases List.mem_cons.1 hg with rfl | hg
    · exact .inl hqG
    · exact .inr (f g hg)
theorem take_idx {m : Nat → Option E} {k : Nat} (hk : k < 256) : (ents m 256).take (idx m (k : Int)) = ents m k ∧ (ents m k).length = idx m (k : Int) := by
  have hi : idx m (k : Int) = (ents m k).length := by unfold idx; rw [cl_nat (by omega)]
  rw [ents_three _ hk, hi]
  simp
theorem drop_idx {m : Nat → Option E} {k : Nat} {e : E} (hk : k < 256) (hm : m k = some e) : (ents m 256).drop (idx m (k : Int) + 1) = entsF m (k + 1) (255 - k) := by
  have hi : idx m (k : Int) = (ents m k).length := by unfold idx; rw [cl_nat (by omega)]
  rw [ents_three _ hk, hm, hi]
  simp [opt1]
theorem drop_idx_no {m : Nat → Option E} {k : Nat} (hk : k < 256) (hm : m k = none) : (ents m 256).drop (idx m (k : Int)) = entsF m (k + 1) (255 - k) := by
  have hi : idx m (k : Int) = (ents m k).length := by unfold idx; rw [cl_nat (by omega)]
  rw [ents_three _ hk, hm, hi]
  simp [opt1]
theorem cells5_len (l : List (Nat × E)) : (cells5 l).length = l.length * 5 := by
  induction l with
  | nil => rfl
  | cons x r ih => show (c5 x ++ cells5 r).length = _; rw [List.length_append, ih]; simp [c5]; omega
theorem cells5_append (a b : List (Nat × E)) : cells5 (a ++ b) = cells5 a ++ cells5 b := by simp [cells5]
theorem cells5_take (l : List (Nat × E)) (k : Nat) : cells5 (l.take k) = (cells5 l).take (k * 5) := by
  induction l generalizing k with
  | nil => simp [cells5]
  | cons x r ih =>
    have hc : (c5 x).length = 5 := rfl
    cases k with
    | zero => simp [cells5]
    | succ k =>
      show c5 x ++ cells5 (r.take k) = (c5 x ++ cells5 r).take ((k + 1) * 5)
      rw [ih, List.take_append, List.take_of_length_le (l := c5 x) (by rw [hc]; omega), hc, show (k + 1) * 5 - 5 = k * 5 by omega]
theorem cells5_drop (l : List (Nat × E)) (k : Nat) : cells5 (l.drop k) = (cells5 l).drop (k * 5) := by
  induction l generalizing k with
  | nil => simp [cells5]
  | cons x r ih =>
    have hc : (c5 x).length = 5 := rfl
    cases k with
    | zero => simp
    | succ k =>
      show cells5 (r.drop k) = (c5 x ++ cells5 r).drop ((k + 1) * 5)
      rw [ih, List.drop_append, List.drop_of_length_le (l := c5 x) (by rw [hc]; omega), hc, show (k + 1) * 5 - 5 = k * 5 by omega]
      simp
theorem cells5_one (l : List (Nat × E)) : ∀ u ∈ cells5 l, u.oneCell' = true := by
  intro u hu
  unfold cells5 at hu
  obtain ⟨x, _, hx⟩ := List.mem_flatMap.1 hu
  simp [c5] at hx
  rcases hx with rfl | rfl | rfl | rfl | rfl <;> rfl
theorem info42 : (Tryz.prog.info? 42).map (fun i => (i.zero, i.size, i.bytes)) = some (some (.agg #[.int .i64 0, .int .i64 0, .bool false, .bool false, .bool false]), 5, 24) := by kernel_rfl
/-- The first k of a row read. -/
theorem _root_.Go.Proofs.YteognipfnbocpaaGreat.Reads.first {w : World} {B n k : Nat} {A : Option Addr} {L : List (Nat × E)} (h : Reads w B 5 A n (cells5 L)) (hn : n = L.length) (hk : k ≤ n) : Reads w B 5 A k (cells5 (L.take k)) := by
  refine ⟨by rw [cells5_len, List.length_take]; congr 1; omega, fun h0 => ?_⟩
  obtain ⟨ad, e, hb, hc⟩ := h.2 (by omega)
  refine ⟨ad, e, hb, fun j u hu => hc j u ?_⟩
  rw [cells5_take, List.getElem?_take] at hu
  split at hu
  · exact hu
  · cases hu

set_option maxRecDepth 100000 in
set_option maxHeartbeats 4000000 in
theorem runmap_any (w : World) (G : List Nat) (q : Nat) (m : Nat → Option E) (pg : Int) (h : RfRep w G q m) :
    Calls Tryz.prog 65 #[.pointer (some ⟨q, 0, none⟩), .int .i64 pg] w (RMapped w G q (unmM m pg) (.bool (ent m pg).isSome)) := by
  have hi := index_any _ G q m pg h
  cases he : ent m pg with
  | none =>
    rw [he] at hi
    simp only [Option.isSome_none] at hi
    have HI := Lib.hid hi
    have HM := Lib.hid (show unmM m pg = m by unfold unmM; rw [he])
    clear hi he
    go_enter Tryz.func65, Tryz.ntmps65
    go_wp2_with fail
    refine HI.out.mono ?_
    rintro e w1 ⟨rfl, k2⟩
    have HR := Lib.hid (h.keep k2 (by simp))
    have HK2 := Lib.hid (k2.mono (G := G) (by simp))
    clear k2
    go_wp2
    go_ret
    rw [HM.out]
    exact ⟨G, rfl, HR.out, HK2.out, fun g hg => .inl hg⟩
  | some x =>
    rw [he] at hi
    simp only [Option.isSome_some] at hi
    have HI := Lib.hid hi
    obtain ⟨A, cap, hA⟩ := h
    obtain ⟨k, rfl, hk, hm⟩ := ent_some_cl hA.z he
    have HM := Lib.hid (show unmM m (k : Int) = upd m k none by unfold unmM; rw [he]; rfl)
    obtain ⟨hn, hcap, hmax, hAA⟩ := hA.len
    obtain ⟨hil, hit⟩ := idx_at hk hm
    obtain ⟨g, rfl⟩ := hAA (by omega)
    have hz : Hid (∀ i, 256 ≤ i → upd m k none i = none) := Lib.hid (fun i hi => by rw [upd_ne (by omega)]; exact hA.z i hi)
    obtain ⟨ht1, ht2⟩ := take_idx (m := m) hk
    have hd := drop_idx hk hm
    have hu := ents_upd m hk none
    simp only [opt1, List.append_nil] at hu
    have HNEW : Hid (ents (upd m k none) 256 = (ents m 256).take (idx m (k : Int)) ++ (ents m 256).drop (idx m (k : Int) + 1)) := Lib.hid (by rw [ht1, hd, hu])
    have HLEN : Hid ((ents (upd m k none) 256).length = 0 + idx m (k : Int) + ((ents m 256).length - (idx m (k : Int) + 1))) := Lib.hid (by rw [HNEW.out, List.length_append, List.length_take, List.length_drop]; omega)
    generalize hI : idx m (k : Int) = i at *
    generalize hL : ents m 256 = L at *
    have hL2 := Lib.hid hL
    clear he hit hAA hm ht1 ht2 hd hu hI hL hi
    have hwr : IntKind.i64.wrap ((i : Int) + 1) = (i : Int) + 1 := by rw [IntKind.wrap_i64]; omega
    have hp0 : (0 : Int) ≤ (i : Int) + 1 := by omega
    have hp1 : (i : Int) + 1 ≤ (L.length : Int) := by omega
    have hp2 : ((i : Int) + 1).toNat = i + 1 := by omega
    have hp3 : (i : Int) ≤ (L.length : Int) := by omega
    have hp4 : (i : Int) ≤ (cap : Int) := by omega
    have hp5 : (0 : Int) ≤ (i : Int) := by omega
    have h63 : 0 + i ≤ maxLen := by unfold maxLen; omega
    have h64 : (0 + i) + (L.length - (i + 1)) ≤ maxLen := by unfold maxLen; omega
    have P1 := Lib.hid (cells5_one (L.take i))
    have P2 := Lib.hid (cells5_one (L.drop (i + 1)))
    have HI27 := Lib.hid info42
    have HO : Hid (∀ W : World, Keeps [] w W → W.ownsRow 0 42 5 (.slice (some ⟨g, 0, none⟩) L.length cap) L.length (cells5 L)) := Lib.hid (fun W hk => by
      have := own_keep hA.o hk (by simp)
      rw [hL2.out] at this
      exact this)
    have HA := Lib.hid hA
    obtain ⟨A2, hA2⟩ : ∃ A2 : Option Addr, (if cap = i + 1 then some (⟨g, 0, none⟩ : Addr) else some ⟨g, (i + 1) * 5, none⟩) = A2 := ⟨_, rfl⟩
    have HC : Hid (∀ W1 : World, Keeps [] w W1 → Reads W1 W1.heap.size 5 A2 (L.length - (i + 1)) (cells5 (L.drop (i + 1)))) := Lib.hid (by
      intro W1 hk
      have := (reads_own (HO.out W1 hk)).cut (k := i + 1) (by omega) (by omega)
      rw [← cells5_drop] at this
      rw [← hA2]
      have e : (if cap = i + 1 then some (⟨g, 0, none⟩ : Addr) else some ⟨g, (i + 1) * 5, none⟩) = (if cap = i + 1 then some ⟨g, 0, none⟩ else (some ⟨g, 0, none⟩ : Option Addr).map (·.add ((i + 1) * 5))) := by
        split
        · rfl
        · simp [add_of_plain]
      rw [e]
      exact this)
    clear hA
    go_enter Tryz.func65, Tryz.ntmps65
    go_wp2_with fail
    refine HI.out.mono ?_
    rintro e w1 ⟨rfl, k2⟩
    have c0 : w1.cell? ⟨q, 0, none⟩ = some (.slice (some ⟨g, 0, none⟩) L.length cap) := by rw [(HA.out.b.keep k2 (by simp)).cell 0, hL2.out]; rfl
    have hk1 : Keeps [] w (w1.alloc (.cells #[] 42)).drew := (k2.alloc _).drew
    have HK1 := Lib.hid hk1
    have HE : Hid ((w1.alloc (.cells #[] 42)).drew.ownsRow 0 42 5 (.slice (some ⟨w1.heap.size, 0, none⟩) 0 0) 0 []) := Lib.hid (own_drew (own_of_blk (Blk.new w1 42 #[]) (by omega) (by omega) rfl rfl))
    have HR : Hid (Reads (w1.alloc (.cells #[] 42)).drew (w1.alloc (.cells #[] 42)).drew.heap.size 5 (some ⟨g, 0, none⟩) i (cells5 (L.take i))) := Lib.hid ((reads_own (HO.out _ hk1)).first rfl (by omega))
    have hsz := k2.size
    have hql := (HA.out.b.keep k2 (by simp)).lt
    clear k2 hk1 HI
    go_wp2_with fail
    go_region_law (first
      | (refine step_app (by rfl) (.tmp 22) (.tmp 29) 46 (by rfl) 42 (.agg #[.int .i64 0, .int .i64 0, .bool false, .bool false, .bool false]) 5 24 Tryz.underlying46 HI27.out rfl (by omega) v1 (0 + i) ([] ++ cells5 (L.take i)) (by simp [Act.eval, Act.put]) ho1 _ A2 (L.length - (i + 1)) (cap - (i + 1)) (cells5 (L.drop (i + 1))) (by simp [Act.eval, Act.put]) (HC.out _ kk1) P2.out h64 (by omega) (fun v2 w2 ho2 hk2 hf2 => ?_); have kk := HA.out.swap (m' := upd m k none) (kk1.trans hk2 (fun g hg => .inr (ff1 g hg))) (by rw [HLEN.out, HNEW.out, cells5_append]; simpa using ho2) (fun g hg => (hf2 g hg).elim (ff1 g) (fun h => Nat.le_trans kk1.size h)) hz.out; obtain ⟨A3, cap3, rfl, d0, d1, hr, hk, hn⟩ := kk; have HN1 := Lib.hid hr; have HN2 := Lib.hid hk; have HN3 := Lib.hid hn; clear hr hk hn)
      | (refine step_app (by rfl) (.tmp 15) (.tmp 21) 46 (by rfl) 42 (.agg #[.int .i64 0, .int .i64 0, .bool false, .bool false, .bool false]) 5 24 Tryz.underlying46 HI27.out rfl (by omega) (.slice (some ⟨w1.heap.size, 0, none⟩) 0 0) 0 [] (by simp [Act.eval, Act.put]) HE.out _ (some ⟨g, 0, none⟩) i cap (cells5 (L.take i)) (by simp [Act.eval, Act.put]) HR.out P1.out h63 (by omega) (fun v1 w1' ho1 hk1 hf1 => ?_); have kk1 := HK1.out.trans hk1 (fun g hg => .inr (by rw [List.mem_singleton.1 hg]; exact hsz)); have cc1 : w1'.cell? ⟨q, 0, none⟩ = some (.slice (some ⟨g, 0, none⟩) L.length cap) := (by rw [(HA.out.b.keep kk1 (by simp)).cell 0, hL2.out]; rfl); have ff1 : ∀ g ∈ fp v1, w.heap.size ≤ g := (fun g hg => (hf1 g hg).elim (fun h => by rw [List.mem_singleton.1 h]; exact hsz) (fun h => Nat.le_trans HK1.out.size h))))
    all_goals
      go_wp2
      go_ret
      rw [HM.out]
      exact ⟨_, rfl, HN1.out, HN2.out, HN3.out⟩
end Go.Proofs.YteognipfnbocpaaGreat.T12
namespace Go.Proofs.YteognipfnbocpaaGreat.T12
open Go.RowKit

theorem own_two {w : World} {e size n cap : Nat} {A : Option Addr} {xs : List Value} (h : w.ownsRow 0 e size (.slice A n cap) n xs) : (A = none ∧ n = 0 ∧ cap = 0) ∨ ∃ g, A = some ⟨g, 0, none⟩ := by
  rcases h.2 with ⟨h2, _⟩ | ⟨g, cap', cur, hv, _⟩
  · injection h2 with a b c
    exact .inl ⟨a, b, c⟩
  · injection hv with a b c
    exact .inr ⟨g, a⟩

set_option maxRecDepth 100000 in
set_option maxHeartbeats 1600000 in
theorem rmap_any (w : World) (G : List Nat) (q : Nat) (m : Nat → Option E) (pg fr : Int) (wr : Bool) (h : RfRep w G q m) :
    Calls Tryz.prog 63 #[.pointer (some ⟨q, 0, none⟩), .int .i64 pg, .int .i64 fr, .bool wr] w (RMapped w G q (mapM m pg fr wr) (.int .i64 (mapN pg fr))) := by
  by_cases hr : 0 ≤ pg ∧ pg < 256 ∧ 0 ≤ fr
  rotate_left
  · have e1 : mapN pg fr = 3 := by unfold mapN; rw [if_neg hr]
    have e2 : mapM m pg fr wr = m := by unfold mapM; rw [if_neg hr]
    have E1 := Lib.hid e1
    have E2 := Lib.hid e2
    clear e1 e2
    by_cases a0 : 0 ≤ pg
    · by_cases a1 : pg ≤ 255
      · have a2 : fr < 0 := by omega
        clear hr
        go_enter Tryz.func63, Tryz.ntmps63
        go_wp2
        go_ret
        rw [E1.out, E2.out]
        exact ⟨G, rfl, h, Keeps.refl _ _, fun g hg => .inl hg⟩
      · clear hr
        go_enter Tryz.func63, Tryz.ntmps63
        go_wp2
        go_ret
        rw [E1.out, E2.out]
        exact ⟨G, rfl, h, Keeps.refl _ _, fun g hg => .inl hg⟩
    · clear hr
      go_enter Tryz.func63, Tryz.ntmps63
      go_wp2
      go_ret
      rw [E1.out, E2.out]
      exact ⟨G, rfl, h, Keeps.refl _ _, fun g hg => .inl hg⟩
  have e1 : mapN pg fr = 0 := by unfold mapN; rw [if_pos hr]
  have e2 : mapM m pg fr wr = upd m pg.toNat (some ⟨fr, wr, false, false⟩) := by unfold mapM; rw [if_pos hr]
  obtain ⟨a0, a1, a2⟩ := hr
  obtain ⟨k, hkp⟩ := Int.eq_ofNat_of_zero_le a0
  rw [hkp, Int.toNat_natCast, ← hkp] at e2
  have E1 := Lib.hid e1
  have E2 := Lib.hid e2
  have hk : k < 256 := by omega
  have a3 : pg ≤ 255 := by omega
  clear e1 e2 a1
  have hi := index_any _ G q m pg h
  rw [show ent m pg = m k by rw [hkp, ent_nat], show idx m pg = idx m (k : Int) by rw [hkp]] at hi
  have HP := Lib.hid hkp
  obtain ⟨A, cap, hA⟩ := h
  obtain ⟨hn, hcap, hmax, hAA⟩ := hA.len
  cases hm : m k with
  | some x =>
    rw [hm] at hi
    simp only [Option.isSome_some] at hi
    have HI := Lib.hid hi
    obtain ⟨hil, hit⟩ := idx_at hk hm
    obtain ⟨g, rfl⟩ := hAA (by omega)
    have HM := Lib.hid hm
    clear hi hit hAA hm hil hn hcap hmax hkp
    go_enter Tryz.func63, Tryz.ntmps63
    go_wp2_with fail
    refine HI.out.mono ?_
    rintro e w1 ⟨rfl, k2⟩
    obtain ⟨hil, -⟩ := idx_at hk HM.out
    obtain ⟨hn, hcap, hmax, -⟩ := hA.len
    have h1 := hA.keep k2 (by simp)
    have hql := (hA.b.keep k2 (by simp)).lt
    have hgl : g < w1.heap.size := own_lt (hA.keep k2 (by simp)).o (by simp)
    have c0 : w1.cell? ⟨q, 0, none⟩ = some (.slice (some ⟨g, 0, none⟩) (ents m 256).length cap) := (hA.b.keep k2 (by simp)).cell 0
    have hgG : g ∈ G := by rw [hA.f]; simp
    have h2 := (((((h1.one hk HM.out (j := 0) (by omega) (e' := x) (v := .int .i64 pg) (by rw [HP.out]; rfl)).one hk (upd_same _ _ _) (j := 1) (by omega) (e' := ⟨fr, x.wr, x.ac, x.di⟩) (v := .int .i64 fr) rfl).one hk (upd_same _ _ _) (j := 2) (by omega) (e' := ⟨fr, wr, x.ac, x.di⟩) (v := .bool wr) rfl).one hk (upd_same _ _ _) (j := 3) (by omega) (e' := ⟨fr, wr, false, x.di⟩) (v := .bool false) rfl).one hk (upd_same _ _ _) (j := 4) (by omega) (e' := ⟨fr, wr, false, false⟩) (v := .bool false) rfl)
    simp only [idx_upd _ hk, Nat.add_zero] at h2
    have huu : upd (upd (upd (upd (upd m k (some x)) k (some ⟨fr, x.wr, x.ac, x.di⟩)) k (some ⟨fr, wr, x.ac, x.di⟩)) k (some ⟨fr, wr, false, x.di⟩)) k (some ⟨fr, wr, false, false⟩) = upd m k (some ⟨fr, wr, false, false⟩) := by funext z; unfold upd; split <;> rfl
    rw [huu] at h2
    have hp := fun j (v : Value) (hj : j < 5) (hc : (c5 (k, x))[j]? = some v) => h1.cellj hk HM.out hj hc
    have p0 := hp 0 _ (by omega) rfl
    have p1 := hp 1 _ (by omega) rfl
    have p2 := hp 2 _ (by omega) rfl
    have p3 := hp 3 _ (by omega) rfl
    have p4 := hp 4 _ (by omega) rfl
    simp only [Nat.add_zero] at p0
    have f0 := own_free h1.o (idx m (k : Int) * 5)
    have f1 := own_free h1.o (idx m (k : Int) * 5 + 1)
    have f2 := own_free h1.o (idx m (k : Int) * 5 + 2)
    have f3 := own_free h1.o (idx m (k : Int) * 5 + 3)
    have f4 := own_free h1.o (idx m (k : Int) * 5 + 4)
    have hi0 : (0 : Int) ≤ (idx m (k : Int) : Nat) := by omega
    have hi1 : ((idx m (k : Int) : Nat) : Int) < ((ents m 256).length : Nat) := by omega
    have H2 := Lib.hid h2
    have HK := Lib.hid ((((((k2.mono (G := G) (by simp)).setCell (p := ⟨g, idx m (k : Int) * 5, none⟩) (.inl hgG) (.int .i64 pg)).setCell (p := ⟨g, idx m (k : Int) * 5 + 1, none⟩) (.inl hgG) (.int .i64 fr)).setCell (p := ⟨g, idx m (k : Int) * 5 + 2, none⟩) (.inl hgG) (.bool wr)).setCell (p := ⟨g, idx m (k : Int) * 5 + 3, none⟩) (.inl hgG) (.bool false)).setCell (p := ⟨g, idx m (k : Int) * 5 + 4, none⟩) (.inl hgG) (.bool false))
    clear h1 h2 hp k2 HI hA huu
    go_wp2_with fail
    go_region
    all_goals
      go_wp2
      go_ret
      rw [E1.out, E2.out]
      exact ⟨G, rfl, ⟨_, _, H2.out.keep (((Keeps.refl [] _).alloc _).drew) (by simp)⟩, (HK.out.alloc _).drew, fun g hg => .inl hg⟩
  | none =>
    rw [hm] at hi
    simp only [Option.isSome_none] at hi
    have HI := Lib.hid hi
    have hz : Hid (∀ i, 256 ≤ i → upd m k (some ⟨fr, wr, false, false⟩) i = none) := Lib.hid (fun i hi => by rw [upd_ne (by omega)]; exact hA.z i hi)
    obtain ⟨ht1, ht2⟩ := take_idx (m := m) hk
    have hd := drop_idx_no hk hm
    have hu := ents_upd m hk (some ⟨fr, wr, false, false⟩)
    simp only [opt1] at hu
    have hle := idx_le m (k : Int)
    have HNEW : Hid (Unit → ents (upd m k (some ⟨fr, wr, false, false⟩)) 256 = (ents m 256).take (idx m (k : Int)) ++ ([(k, ⟨fr, wr, false, false⟩)] ++ (ents m 256).drop (idx m (k : Int)))) := Lib.hid (fun _ => by rw [ht1, hd, hu]; simp)
    have HLEN : Hid (Unit → (ents (upd m k (some ⟨fr, wr, false, false⟩)) 256).length = 0 + idx m (k : Int) + (1 + ((ents m 256).length - idx m (k : Int)))) := Lib.hid (fun _ => by rw [HNEW.out (), List.length_append, List.length_append, List.length_take, List.length_drop]; simp; omega)
    generalize hI : idx m (k : Int) = i at *
    generalize hL : ents m 256 = L at *
    have hL2 : Hid (Unit → ents m 256 = L) := Lib.hid (fun _ => hL)
    clear ht1 ht2 hd hu hI hL hi hm
    have hp3 : (i : Int) ≤ (L.length : Int) := by omega
    have hp4 : (i : Int) ≤ (cap : Int) := by omega
    have hp5 : (0 : Int) ≤ (i : Int) := by omega
    have h63 : 0 + i ≤ maxLen := by unfold maxLen; omega
    have h64 : 1 + (L.length - i) ≤ maxLen := by unfold maxLen; omega
    have h65 : 0 + i + (1 + (L.length - i)) ≤ maxLen := by unfold maxLen; omega
    have h66 : i + (1 + (L.length - i)) ≤ maxLen := by unfold maxLen; omega
    have P1 := Lib.hid (cells5_one (L.take i))
    have P2 := Lib.hid (cells5_one (L.drop i))
    have P3 := Lib.hid (cells5_one ([(k, ⟨fr, wr, false, false⟩)] ++ L.drop i))
    have HI27 := Lib.hid info42
    have HO : Hid (∀ W : World, Keeps [] w W → W.ownsRow 0 42 5 (.slice A L.length cap) L.length (cells5 L)) := Lib.hid (fun W hk => by
      have := own_keep hA.o hk (by simp)
      rw [hL2.out ()] at this
      exact this)
    have HA := Lib.hid hA
    have HCC : Hid (∀ W1 : World, Keeps [] w W1 → Reads W1 W1.heap.size 5 (if cap = i then A else A.map (·.add (i * 5))) (L.length - i) (cells5 (L.drop i))) := Lib.hid (by
      intro W1 hk
      have := (reads_own (HO.out W1 hk)).cut (k := i) (by omega) (by omega)
      rw [← cells5_drop] at this
      exact this)
    have HFF : Hid (∀ W1 : World, Keeps [] w W1 → Reads W1 W1.heap.size 5 A i (cells5 (L.take i))) := Lib.hid (fun W1 hk => (reads_own (HO.out W1 hk)).first rfl (by omega))
    have HW : Hid (∀ (v : Value) (W : World), W.ownsRow 0 42 5 v (0 + i + (1 + (L.length - i))) (([] ++ cells5 (L.take i)) ++ ([.int .i64 pg, .int .i64 fr, .bool wr, .bool false, .bool false] ++ cells5 (L.drop i))) → W.ownsRow 0 42 5 v (ents (upd m k (some ⟨fr, wr, false, false⟩)) 256).length (cells5 (ents (upd m k (some ⟨fr, wr, false, false⟩)) 256))) := Lib.hid (by
      intro v W h
      rw [HLEN.out (), HNEW.out (), cells5_append, cells5_append]
      rw [HP.out] at h
      exact h)
    have HONE : Hid (∀ u ∈ [.int .i64 pg, .int .i64 fr, .bool wr, .bool false, .bool false] ++ cells5 (L.drop i), u.oneCell' = true) := Lib.hid (by
      intro u hu
      rcases List.mem_append.1 hu with h | h
      · simp at h; rcases h with rfl | rfl | rfl | rfl | rfl <;> rfl
      · exact P2.out u h)
    have own2 := own_two hA.o
    clear HNEW HLEN hle hkp hmax hAA hA
    rcases own2 with ⟨rfl, -, rfl⟩ | ⟨g, rfl⟩
    · obtain rfl : L = [] := List.eq_nil_of_length_eq_zero (by omega)
      obtain rfl : i = 0 := by simp at hp3; omega
      have h63' : 0 + 0 ≤ maxLen := by unfold maxLen; omega
      have h64' : 0 + 1 ≤ maxLen := by unfold maxLen; omega
      have h66' : 0 + (1 + 0) ≤ maxLen := by unfold maxLen; omega
      have Q2 : Hid (∀ u ∈ cells5 [], u.oneCell' = true) := Lib.hid (cells5_one [])
      clear P1 P2 P3 h63 h64 h65 h66 HCC HFF HO hp3 hp4 hp5 hcap hn
      go_enter Tryz.func63, Tryz.ntmps63
      go_wp2_with fail
      refine HI.out.mono ?_
      rintro e w1 ⟨rfl, k2⟩
      have c0 : w1.cell? ⟨q, 0, none⟩ = some (.slice none 0 0) := by rw [(HA.out.b.keep k2 (by simp)).cell 0, hL2.out ()]; rfl
      have hql := (HA.out.b.keep k2 (by simp)).lt
      have hsz := k2.size
      have HK1 : Hid (Keeps [] w ((w1.alloc (.cells #[.int .i64 pg, .int .i64 fr, .bool wr, .bool false, .bool false] 42)).alloc (.cells #[.int .i64 pg, .int .i64 fr, .bool wr, .bool false, .bool false] 42)).drew) := Lib.hid (((k2.alloc _).alloc _).drew)
      have HE : Hid (((w1.alloc (.cells #[.int .i64 pg, .int .i64 fr, .bool wr, .bool false, .bool false] 42)).alloc (.cells #[.int .i64 pg, .int .i64 fr, .bool wr, .bool false, .bool false] 42)).drew.ownsRow 0 42 5 (.slice (some ⟨w1.heap.size + 1, 0, none⟩) 1 1) 1 [.int .i64 pg, .int .i64 fr, .bool wr, .bool false, .bool false]) := Lib.hid (own_drew (by
        have := own_of_blk (n := 1) (size := 5) (cap := 1) (xs := [.int .i64 pg, .int .i64 fr, .bool wr, .bool false, .bool false]) (Blk.new (w1.alloc (.cells #[.int .i64 pg, .int .i64 fr, .bool wr, .bool false, .bool false] 42)) 42 #[.int .i64 pg, .int .i64 fr, .bool wr, .bool false, .bool false]) (by omega) (by unfold maxLen; omega) rfl rfl
        simpa using this))
      have HK4 : Hid (Keeps [] w (((w1.alloc (.cells #[.int .i64 pg, .int .i64 fr, .bool wr, .bool false, .bool false] 42)).alloc (.cells #[.int .i64 pg, .int .i64 fr, .bool wr, .bool false, .bool false] 42)).alloc (.cells #[] 42)).drew) := Lib.hid ((((k2.alloc _).alloc _).alloc _).drew)
      have HE4 : Hid ((((w1.alloc (.cells #[.int .i64 pg, .int .i64 fr, .bool wr, .bool false, .bool false] 42)).alloc (.cells #[.int .i64 pg, .int .i64 fr, .bool wr, .bool false, .bool false] 42)).alloc (.cells #[] 42)).drew.ownsRow 0 42 5 (.slice (some ⟨w1.heap.size + 1 + 1, 0, none⟩) 0 0) 0 []) := Lib.hid (own_drew (by
        have := own_of_blk (n := 0) (size := 5) (cap := 0) (xs := []) (Blk.new ((w1.alloc (.cells #[.int .i64 pg, .int .i64 fr, .bool wr, .bool false, .bool false] 42)).alloc (.cells #[.int .i64 pg, .int .i64 fr, .bool wr, .bool false, .bool false] 42)) 42 #[]) (by omega) (by unfold maxLen; omega) rfl rfl
        simpa using this))
      have HR4 : Hid (Reads (((w1.alloc (.cells #[.int .i64 pg, .int .i64 fr, .bool wr, .bool false, .bool false] 42)).alloc (.cells #[.int .i64 pg, .int .i64 fr, .bool wr, .bool false, .bool false] 42)).alloc (.cells #[] 42)).drew (((w1.alloc (.cells #[.int .i64 pg, .int .i64 fr, .bool wr, .bool false, .bool false] 42)).alloc (.cells #[.int .i64 pg, .int .i64 fr, .bool wr, .bool false, .bool false] 42)).alloc (.cells #[] 42)).drew.heap.size 5 (some ⟨w1.heap.size + 1, 0, none⟩) 1 [.int .i64 pg, .int .i64 fr, .bool wr, .bool false, .bool false]) := Lib.hid (reads_own (own_keep HE.out ((Keeps.refl [] _).alloc (.cells #[] 42)) (by simp)))
      have HO1 : Hid (∀ u ∈ ([.int .i64 pg, .int .i64 fr, .bool wr, .bool false, .bool false] : List Value), u.oneCell' = true) := Lib.hid (by
        intro u h
        simp at h; rcases h with rfl | rfl | rfl | rfl | rfl <;> rfl)
      have c4 : (((w1.alloc (.cells #[.int .i64 pg, .int .i64 fr, .bool wr, .bool false, .bool false] 42)).alloc (.cells #[.int .i64 pg, .int .i64 fr, .bool wr, .bool false, .bool false] 42)).alloc (.cells #[] 42)).cell? ⟨q, 0, none⟩ = some (.slice none 0 0) := by rw [((((HA.out.b.keep k2 (by simp)).alloc _).alloc _).alloc _).cell 0, hL2.out ()]; rfl
      go_wp2_with fail
      go_region
      all_goals
        go_wp2_with (at_builtin; refine wpList_app _ rfl (.tmp 58) (.tmp 59) _ rfl 42 (.agg #[.int .i64 0, .int .i64 0, .bool false, .bool false, .bool false]) 5 24 Tryz.underlying46 HI27.out rfl (by omega) (.slice (some ⟨w1.heap.size + 1 + 1, 0, none⟩) 0 0) 0 [] rfl HE4.out _ (some ⟨w1.heap.size + 1, 0, none⟩) 1 1 [.int .i64 pg, .int .i64 fr, .bool wr, .bool false, .bool false] rfl HR4.out HO1.out h64' (by omega) ?_)
        intro v3 w5 ho3 hk3 hf3
        have kk := HA.out.swap (m' := upd m k (some ⟨fr, wr, false, false⟩)) (HK4.out.trans hk3 (fun g hg => .inr (by have h2 : g = w1.heap.size + 1 + 1 := (by simpa using hg); omega))) (HW.out _ _ (by simpa [cells5] using ho3)) (fun g hg => by
          rcases hf3 g hg with h | h
          · have h2 : g = w1.heap.size + 1 + 1 := by simpa using h
            omega
          · have h2 : w1.heap.size + 1 + 1 + 1 ≤ g := by simpa using h
            omega) hz.out
        obtain ⟨A6, cap6, rfl, d0, d1, hr, hk, hn⟩ := kk
        have HN1 := Lib.hid hr
        have HN2 := Lib.hid hk
        have HN3 := Lib.hid hn
        clear hr hk hn ho3 hk3 hf3
        go_wp2
        go_ret
        rw [E1.out, E2.out]
        exact ⟨_, rfl, HN1.out, HN2.out, HN3.out⟩
    · obtain ⟨A2, hA2⟩ : ∃ A2 : Option Addr, (if cap = i then some (⟨g, 0, none⟩ : Addr) else some ⟨g, i * 5, none⟩) = A2 := ⟨_, rfl⟩
      have HC : Hid (∀ W1 : World, Keeps [] w W1 → Reads W1 W1.heap.size 5 A2 (L.length - i) (cells5 (L.drop i))) := Lib.hid (by
        intro W1 hk
        have := HCC.out W1 hk
        rw [← hA2]
        have e : (if cap = i then some (⟨g, 0, none⟩ : Addr) else some ⟨g, i * 5, none⟩) = (if cap = i then some ⟨g, 0, none⟩ else (some ⟨g, 0, none⟩ : Option Addr).map (·.add (i * 5))) := by
          split
          · rfl
          · simp [add_of_plain]
        rw [e]
        exact this)
      clear HCC
      go_enter Tryz.func63, Tryz.ntmps63
      go_wp2_with fail
      refine HI.out.mono ?_
      rintro e w1 ⟨rfl, k2⟩
      have c0 : w1.cell? ⟨q, 0, none⟩ = some (.slice (some ⟨g, 0, none⟩) L.length cap) := by rw [(HA.out.b.keep k2 (by simp)).cell 0, hL2.out ()]; rfl
      have hql := (HA.out.b.keep k2 (by simp)).lt
      have hsz := k2.size
      have HK1 : Hid (Keeps [] w ((w1.alloc (.cells #[.int .i64 pg, .int .i64 fr, .bool wr, .bool false, .bool false] 42)).alloc (.cells #[.int .i64 pg, .int .i64 fr, .bool wr, .bool false, .bool false] 42)).drew) := Lib.hid (((k2.alloc _).alloc _).drew)
      have HE : Hid (((w1.alloc (.cells #[.int .i64 pg, .int .i64 fr, .bool wr, .bool false, .bool false] 42)).alloc (.cells #[.int .i64 pg, .int .i64 fr, .bool wr, .bool false, .bool false] 42)).drew.ownsRow 0 42 5 (.slice (some ⟨w1.heap.size + 1, 0, none⟩) 1 1) 1 [.int .i64 pg, .int .i64 fr, .bool wr, .bool false, .bool false]) := Lib.hid (own_drew (by
        have := own_of_blk (n := 1) (size := 5) (cap := 1) (xs := [.int .i64 pg, .int .i64 fr, .bool wr, .bool false, .bool false]) (Blk.new (w1.alloc (.cells #[.int .i64 pg, .int .i64 fr, .bool wr, .bool false, .bool false] 42)) 42 #[.int .i64 pg, .int .i64 fr, .bool wr, .bool false, .bool false]) (by omega) (by unfold maxLen; omega) rfl rfl
        simpa using this))
      go_wp2_with fail
      go_region_law (refine step_app (by rfl) (.tmp 42) (.tmp 48) 46 (by rfl) 42 (.agg #[.int .i64 0, .int .i64 0, .bool false, .bool false, .bool false]) 5 24 Tryz.underlying46 HI27.out rfl (by omega) (.slice (some ⟨w1.heap.size + 1, 0, none⟩) 1 1) 1 [.int .i64 pg, .int .i64 fr, .bool wr, .bool false, .bool false] (by simp [Act.eval, Act.put]) HE.out _ A2 (L.length - i) (cap - i) (cells5 (L.drop i)) (by simp [Act.eval, Act.put]) (HC.out _ HK1.out) P2.out h64 (by omega) (fun v1 w3 ho1 hk1 hf1 => ?_); have kk1 := HK1.out.trans hk1 (fun g hg => .inr (by rw [List.mem_singleton.1 hg]; show w.heap.size ≤ w1.heap.size + 1; omega)); have ff1 : ∀ g ∈ fp v1, w.heap.size ≤ g := (fun g hg => (hf1 g hg).elim (fun h => by rw [List.mem_singleton.1 h]; show w.heap.size ≤ w1.heap.size + 1; omega) (fun h => Nat.le_trans HK1.out.size h)); clear hk1 hf1)
      all_goals
        obtain ⟨A5, cap5, rfl, -⟩ := own_shape ho1
        have c3 : w3.cell? ⟨q, 0, none⟩ = some (.slice (some ⟨g, 0, none⟩) L.length cap) := by rw [(HA.out.b.keep kk1 (by simp)).cell 0, hL2.out ()]; rfl
        have hq3 := (HA.out.b.keep kk1 (by simp)).lt
        have HO1 := Lib.hid ho1
        have HKK1 := Lib.hid kk1
        have HFF1 := Lib.hid ff1
        have HE3 : Hid ((w3.alloc (.cells #[] 42)).ownsRow 0 42 5 (.slice (some ⟨w3.heap.size, 0, none⟩) 0 0) 0 []) := Lib.hid (own_of_blk (Blk.new w3 42 #[]) (by omega) (by omega) rfl rfl)
        have HK3 := Lib.hid (kk1.alloc (.cells #[] 42))
        have hs3 := kk1.size
        clear ho1 kk1 ff1 k2 c0
        have RR1 : Hid (Reads (w3.alloc (.cells #[] 42)) (w3.alloc (.cells #[] 42)).heap.size 5 (some ⟨g, 0, none⟩) i (cells5 (L.take i))) := Lib.hid (HFF.out _ HK3.out)
        go_wp2_with (at_builtin; refine wpList_app _ rfl (.tmp 51) (.tmp 57) _ rfl 42 (.agg #[.int .i64 0, .int .i64 0, .bool false, .bool false, .bool false]) 5 24 Tryz.underlying46 HI27.out rfl (by omega) (.slice (some ⟨w3.heap.size, 0, none⟩) 0 0) 0 [] rfl HE3.out _ (some ⟨g, 0, none⟩) i cap (cells5 (L.take i)) rfl RR1.out P1.out h63 (by omega) ?_)
        intro v2 w4 ho2 hk2 hf2
        have kk2 := HK3.out.trans hk2 (fun g hg => .inr (by have h2 : g = w3.heap.size := (by simpa using hg); omega))
        have ff2 : ∀ g ∈ fp v2, w3.heap.size ≤ g := by
          intro g hg
          rcases hf2 g hg with h | h
          · have h' : g = w3.heap.size := by simpa using h
            omega
          · have h' : w3.heap.size + 1 ≤ g := by simpa using h
            omega
        have HO1b : Hid (Reads w4 w4.heap.size 5 A5 (1 + (L.length - i)) ([.int .i64 pg, .int .i64 fr, .bool wr, .bool false, .bool false] ++ cells5 (L.drop i))) := Lib.hid (by
          have h1 := own_keep (own_keep HO1.out ((Keeps.refl [] _).alloc (.cells #[] 42)) (by simp)) hk2 (fun g hg h => by have h2 : g = w3.heap.size := (by simpa using h); have := own_lt HO1.out hg; omega)
          exact reads_own h1)
        have HO2 : Hid (w4.ownsRow 0 42 5 v2 i (cells5 (L.take i))) := Lib.hid (by simpa using ho2)
        have HK4 := Lib.hid kk2
        have HF2 := Lib.hid ff2
        have hs4 := kk2.size
        clear ho2 hk2 hf2 kk2 ff2
        go_wp2_with (at_builtin; refine wpList_app _ rfl (.tmp 58) (.tmp 59) _ rfl 42 (.agg #[.int .i64 0, .int .i64 0, .bool false, .bool false, .bool false]) 5 24 Tryz.underlying46 HI27.out rfl (by omega) v2 i (cells5 (L.take i)) rfl HO2.out _ A5 (1 + (L.length - i)) cap5 ([.int .i64 pg, .int .i64 fr, .bool wr, .bool false, .bool false] ++ cells5 (L.drop i)) rfl HO1b.out HONE.out h66 (by omega) ?_)
        intro v3 w5 ho3 hk3 hf3
        have kk := HA.out.swap (m' := upd m k (some ⟨fr, wr, false, false⟩)) (HK4.out.trans hk3 (fun g hg => .inr (Nat.le_trans hs3 (HF2.out g hg)))) (HW.out _ _ (by simpa using ho3)) (fun g hg => (hf3 g hg).elim (fun h => Nat.le_trans hs3 (HF2.out g h)) (fun h => Nat.le_trans hs4 h)) hz.out
        obtain ⟨A6, cap6, rfl, d0, d1, hr, hk, hn⟩ := kk
        have HN1 := Lib.hid hr
        have HN2 := Lib.hid hk
        have HN3 := Lib.hid hn
        clear hr hk hn ho3 hk3 hf3
        go_wp2
        go_ret
        rw [E1.out, E2.out]
        exact ⟨_, rfl, HN1.out, HN2.out, HN3.out⟩
end Go.Proofs.YteognipfnbocpaaGreat.T12
