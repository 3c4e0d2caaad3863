/- The reference's table: the plain side, and the walk of index. -/
import Derived.Test.YtnnoekcnhdcodaaL1
import Derived.Deep.RegionLaw
namespace Go.Proofs.Ytnnoekcnhdcodaa
open Go.RowKit

/-- The entry of page k, if it is there, as a list. -/
def opt1 (k : Nat) (o : Option E) : List (Nat × E) := match o with | none => [] | some e => [(k, e)]
/-- The entries of the n pages from c on. -/
def entsF (m : Nat → Option E) (c : Nat) : Nat → List (Nat × E)
  | 0 => []
  | n + 1 => entsF m c n ++ opt1 (c + n) (m (c + n))
theorem ents_add (m : Nat → Option E) (c n : Nat) : ents m (c + n) = ents m c ++ entsF m c n := by
  induction n with
  | zero => simp [entsF]
  | succ n ih =>
    have e1 : ents m (c + n + 1) = ents m (c + n) ++ opt1 (c + n) (m (c + n)) := rfl
    have e2 : entsF m c (n + 1) = entsF m c n ++ opt1 (c + n) (m (c + n)) := rfl
    rw [← Nat.add_assoc, e1, e2, ih, List.append_assoc]
theorem ents_congr {m m' : Nat → Option E} {n : Nat} (h : ∀ i, i < n → m' i = m i) : ents m' n = ents m n := by
  induction n with
  | zero => rfl
  | succ n ih => unfold ents; rw [ih (fun i hi => h i (by omega)), h n (by omega)]
theorem entsF_congr {m m' : Nat → Option E} {c n : Nat} (h : ∀ i, i < n → m' (c + i) = m (c + i)) : entsF m' c n = entsF m c n := by
  induction n with
  | zero => rfl
  | succ n ih => unfold entsF; rw [ih (fun i hi => h i (by omega)), h n (by omega)]
theorem ents_three (m : Nat → Option E) {k : Nat} (hk : k < 256) : ents m 256 = ents m k ++ opt1 k (m k) ++ entsF m (k + 1) (255 - k) := by
  have h := ents_add m (k + 1) (255 - k)
  rw [show k + 1 + (255 - k) = 256 by omega] at h
  have e1 : ents m (k + 1) = ents m k ++ opt1 k (m k) := rfl
  rw [h, e1]
theorem ents_upd (m : Nat → Option E) {k : Nat} (hk : k < 256) (o : Option E) : ents (upd m k o) 256 = ents m k ++ opt1 k o ++ entsF m (k + 1) (255 - k) := by
  rw [ents_three _ hk, upd_same, ents_congr (m := m) (fun i hi => upd_ne (by omega)), entsF_congr (m := m) (fun i hi => upd_ne (by omega))]
theorem ents_lt (m : Nat → Option E) (n : Nat) : ∀ x ∈ ents m n, x.1 < n := by
  induction n with
  | zero => simp [ents]
  | succ n ih =>
    intro x hx
    unfold ents at hx
    rcases List.mem_append.1 hx with h | h
    · have := ih x h; omega
    · cases hm : m n with
      | none => simp [hm] at h
      | some e => simp [hm] at h; subst h; simp
theorem entsF_ge (m : Nat → Option E) (c n : Nat) : ∀ x ∈ entsF m c n, c ≤ x.1 := by
  induction n with
  | zero => simp [entsF]
  | succ n ih =>
    intro x hx
    unfold entsF opt1 at hx
    rcases List.mem_append.1 hx with h | h
    · exact ih x h
    · cases hm : m (c + n) with
      | none => simp [hm] at h
      | some e => simp [hm] at h; subst h; simp
def cl (pg : Int) : Nat := (max 0 (min pg 256)).toNat
theorem cl_nat {k : Nat} (h : k ≤ 256) : cl (k : Int) = k := by unfold cl; omega
/-- The place of page pg in the list. -/
def idx (m : Nat → Option E) (pg : Int) : Nat := (ents m (cl pg)).length
theorem ents_cl (m : Nat → Option E) (pg : Int) : ∃ r, ents m 256 = ents m (cl pg) ++ r ∧ ∀ x ∈ r, pg ≤ x.1 := by
  have hc : cl pg ≤ 256 := by unfold cl; omega
  refine ⟨entsF m (cl pg) (256 - cl pg), ?_, fun x hx => ?_⟩
  · rw [← ents_add, show cl pg + (256 - cl pg) = 256 by omega]
  · have h1 := entsF_ge m _ _ x hx
    by_cases h : pg ≤ 256
    · unfold cl at h1; omega
    · have : cl pg = 256 := by unfold cl; omega
      rw [this] at hx
      simp [entsF] at hx
theorem idx_le (m : Nat → Option E) (pg : Int) : idx m pg ≤ (ents m 256).length := by
  obtain ⟨r, h, _⟩ := ents_cl m pg
  rw [h, List.length_append]; unfold idx; omega
/-- The first place whose page is at least pg is that of pg. -/
theorem idx_of (m : Nat → Option E) (pg : Int) (k : Nat) (hk : k ≤ (ents m 256).length) (h0 : ∀ j (hj : j < (ents m 256).length), j < k → ((ents m 256)[j].1 : Int) < pg)
    (h1 : ∀ hk : k < (ents m 256).length, pg ≤ (ents m 256)[k].1) : k = idx m pg := by
  obtain ⟨r, e, hr⟩ := ents_cl m pg
  have hl : (ents m 256).length = idx m pg + r.length := by rw [e, List.length_append]; rfl
  rcases Nat.lt_trichotomy k (idx m pg) with h | h | h
  · have hkl : k < (ents m 256).length := by omega
    have h2 := h1 hkl
    have h3 : (ents m 256)[k] ∈ ents m (cl pg) := by
      have : (ents m 256)[k] = (ents m (cl pg))[k]'h := by simp only [e]; exact List.getElem_append_left h
      rw [this]; exact List.getElem_mem _
    have h4 := ents_lt m _ _ h3
    unfold cl at h4
    omega
  · exact h
  · have hkl : idx m pg < (ents m 256).length := by omega
    have h2 := h0 (idx m pg) hkl h
    have h3 : (ents m 256)[idx m pg] ∈ r := by
      have hlen : idx m pg - (ents m (cl pg)).length < r.length := by unfold idx; rw [Nat.sub_self]; omega
      have : (ents m 256)[idx m pg] = r[idx m pg - (ents m (cl pg)).length]'hlen := by simp only [e]; exact List.getElem_append_right (Nat.le_refl _)
      rw [this]; exact List.getElem_mem _
    have h4 := hr _ h3
    omega
theorem ent_some_cl {m : Nat → Option E} {pg : Int} {e : E} (ho : ∀ k, 256 ≤ k → m k = none) (h : ent m pg = some e) : ∃ k : Nat, pg = k ∧ k < 256 ∧ m k = some e := by
  have h0 := ent_nonneg h
  obtain ⟨k, rfl⟩ := Int.eq_ofNat_of_zero_le h0
  rw [ent_nat] at h
  refine ⟨k, rfl, ?_, h⟩
  rcases Nat.lt_or_ge k 256 with h1 | h1
  · exact h1
  · rw [ho k h1] at h; cases h
theorem idx_at {m : Nat → Option E} {k : Nat} {e : E} (hk : k < 256) (h : m k = some e) : ∃ hl : idx m (k : Int) < (ents m 256).length, (ents m 256)[idx m (k : Int)] = (k, e) := by
  have h3 := ents_three m hk
  rw [h] at h3
  have hi : idx m (k : Int) = (ents m k).length := by unfold idx; rw [cl_nat (by omega)]
  have hl : idx m (k : Int) < (ents m 256).length := by rw [h3, hi]; simp [opt1]
  refine ⟨hl, ?_⟩
  simp only [h3, hi]
  simp [opt1]
theorem idx_no {m : Nat → Option E} {pg : Int} (h : ent m pg = none) (hl : idx m pg < (ents m 256).length) : ((ents m 256)[idx m pg].1 : Int) ≠ pg := by
  intro e
  generalize hx : (ents m 256)[idx m pg] = x at *
  have hmem : x ∈ ents m 256 := by rw [← hx]; exact List.getElem_mem _
  have key : ∀ n, ∀ x ∈ ents m n, m x.1 = some x.2 := by
    intro n
    induction n with
    | zero => simp [ents]
    | succ n ih =>
      intro x hx
      unfold ents at hx
      rcases List.mem_append.1 hx with h | h
      · exact ih x h
      · cases hm : m n with
        | none => simp [hm] at h
        | some e => simp [hm] at h; subst h; exact hm
  have := key _ x hmem
  rw [← e, ent_nat, this] at h
  cases h

theorem idx_hit {m : Nat → Option E} {pg : Int} (ho : ∀ k, 256 ≤ k → m k = none) {k : Nat} (hk : k < (ents m 256).length) (h0 : ∀ j (hj : j < (ents m 256).length), j < k → ((ents m 256)[j].1 : Int) < pg)
    (h1 : pg ≤ (ents m 256)[k].1) : k = idx m pg ∧ (((ents m 256)[k].1 : Int) == pg) = (ent m pg).isSome := by
  have e := idx_of m pg k (by omega) h0 (fun _ => h1)
  refine ⟨e, ?_⟩
  subst e
  cases he : ent m pg with
  | none => simpa using idx_no he hk
  | some x =>
    obtain ⟨n, rfl, h2, h3⟩ := ent_some_cl ho he
    obtain ⟨_, h4⟩ := idx_at h2 h3
    simp only [h4]
    simp
theorem idx_end {m : Nat → Option E} {pg : Int} (ho : ∀ k, 256 ≤ k → m k = none) (h0 : ∀ j (hj : j < (ents m 256).length), j < (ents m 256).length → ((ents m 256)[j].1 : Int) < pg) :
    (ents m 256).length = idx m pg ∧ false = (ent m pg).isSome := by
  have e := idx_of m pg _ (Nat.le_refl _) h0 (fun h => absurd h (by omega))
  refine ⟨e, ?_⟩
  cases he : ent m pg with
  | none => rfl
  | some x =>
    obtain ⟨n, rfl, h2, h3⟩ := ent_some_cl ho he
    obtain ⟨h4, _⟩ := idx_at h2 h3
    omega

/-- The reference's table with the entries m lies at block q; G are all its blocks. -/
structure RfAt (w : World) (G : List Nat) (q : Nat) (m : Nat → Option E) (A : Option Addr) (cap : Nat) : Prop where
  f : G = q :: fp (.slice A (ents m 256).length cap)
  b : Blk w q 49 #[.slice A (ents m 256).length cap]
  o : w.ownsRow 0 27 5 (.slice A (ents m 256).length cap) (ents m 256).length (cells5 (ents m 256))
  z : ∀ k, 256 ≤ k → m k = none
def RfRep (w : World) (G : List Nat) (q : Nat) (m : Nat → Option E) : Prop := ∃ A cap, RfAt w G q m A cap
section
variable {w w' : World} {F G : List Nat} {q : Nat} {m : Nat → Option E} {A : Option Addr} {cap : Nat}
theorem RfAt.off (h : RfAt w G q m A cap) : q ∉ fp (.slice A (ents m 256).length cap) := own_blk_off h.o h.b (by decide)
theorem RfRep.lt (h : RfRep w G q m) : ∀ g ∈ G, g < w.heap.size := by
  obtain ⟨A, cap, h⟩ := h
  intro g hg
  rw [h.f] at hg
  rcases List.mem_cons.1 hg with rfl | hg
  · exact h.b.lt
  · exact own_lt h.o hg
theorem RfAt.keep (h : RfAt w G q m A cap) (hk : Keeps F w w') (hd : ∀ g ∈ G, g ∉ F) : RfAt w' G q m A cap := by
  have hf := h.f
  exact ⟨hf, h.b.keep hk (hd q (by rw [hf]; simp)), own_keep h.o hk (fun g hg => hd g (by rw [hf]; simp [hg])), h.z⟩
theorem RfRep.keep (h : RfRep w G q m) (hk : Keeps F w w') (hd : ∀ g ∈ G, g ∉ F) : RfRep w' G q m := by
  obtain ⟨A, cap, h⟩ := h
  exact ⟨A, cap, h.keep hk hd⟩
theorem RfAt.len (h : RfAt w G q m A cap) : (ents m 256).length ≤ 256 ∧ (ents m 256).length ≤ cap ∧ cap ≤ 9223372036854775807 ∧ (0 < (ents m 256).length → ∃ g, A = some ⟨g, 0, none⟩) := by
  obtain ⟨_, _, hv, hcap, hmax, hA⟩ := own_shape h.o
  injection hv with h1 h2 h3
  subst h1
  subst h3
  exact ⟨ents_len m 256, hcap, hmax, hA⟩
end

set_option maxHeartbeats 800000 in
theorem index_any (w : World) (G : List Nat) (q : Nat) (m : Nat → Option E) (pg : Int) (h : RfRep w G q m) :
    Calls Try.prog 27 #[.pointer (some ⟨q, 0, none⟩), .int .i64 pg] w fun e w' => e = .returned (.tuple #[.int .i64 (idx m pg), .bool (ent m pg).isSome]) ∧ Keeps [] w w' := by
  obtain ⟨A, cap, h⟩ := h
  obtain ⟨hn, hcap, hmax, hA⟩ := h.len
  have c0 : w.cell? ⟨q, 0, none⟩ = some (.slice A (ents m 256).length cap) := h.b.cell 0
  have HI := Lib.hid (fun k hk => idx_hit (m := m) (pg := pg) h.z (k := k) hk)
  have HJ := Lib.hid (idx_end (m := m) (pg := pg) h.z)
  have ho := h.o
  have hlt0 := h.b.lt
  clear h
  generalize hL : ents m 256 = L at *
  clear hL
  go_enter Try.func27, Try.ntmps27
  go_wp2
  go_loop [6] (fun i => ∃ k : Nat, k ≤ L.length ∧ i = .int .i64 k ∧ ∀ j (hj : j < L.length), j < k → (L[j].1 : Int) < pg) (fun i => L.length - (intOf i).toNat)
  case atStart => exact ⟨0, by omega, rfl, fun j _ h => absurd h (by omega)⟩
  case round =>
    obtain ⟨k, hk, rfl, hall⟩ := hrel
    by_cases hlt : k < L.length
    · obtain ⟨g, rfl⟩ := hA (by omega)
      have a0 : w.cell? ⟨g, k * 5, none⟩ = some (.int .i64 L[k].1) := own_cell ho (by have := cells5_at L k 0 hlt (by omega); simpa [c5] using this)
      have HA := Lib.hid hall
      have hi0 : (0 : Int) ≤ (k : Int) := by omega
      have hi1 : (k : Int) < (L.length : Int) := by omega
      by_cases hp : (L[k].1 : Int) < pg
      · have HP := Lib.hid hp
        generalize hx : L[k].1 = x at hp a0
        clear hall ho hA hx
        go_wp2
        go_round
        case rel => exact ⟨k + 1, by omega, by go_num, fun j hj h => by
          by_cases e : j = k
          · subst e; exact HP.out
          · exact HA.out j hj (by omega)⟩
        case measure => simp [intOf]; omega
      · have hp2 : pg ≤ (L[k].1 : Int) := by omega
        obtain ⟨e1, e2⟩ := HI.out k hlt hall hp2
        have E1 := Lib.hid e1
        generalize hx : L[k].1 = x at *
        have E2 := Lib.hid e2
        clear hall ho hA hx e1 e2 hp
        go_wp2_with fail
        go_quiet (fail)
        go_wp2
        go_ret2
        rw [← E1.out, ← E2.out]
        exact ⟨rfl, (Keeps.refl _ _).drewN _⟩
    · obtain rfl : k = L.length := by omega
      obtain ⟨e1, e2⟩ := HJ.out hall
      have E1 := Lib.hid e1
      have E2 := Lib.hid e2
      clear e1 e2 hall
      go_wp2
      go_ret2
      rw [← E1.out, ← E2.out]
      exact ⟨rfl, Keeps.refl _ _⟩
end Go.Proofs.Ytnnoekcnhdcodaa
