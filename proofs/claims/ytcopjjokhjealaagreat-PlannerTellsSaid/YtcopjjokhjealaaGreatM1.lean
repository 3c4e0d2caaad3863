/- Texts of the elder seat, turned to this one: W1 W2 W3 W4 W5. -/
import Derived.Test.YtcopjjokhjealaaGreatSto
import Derived.Test.YtcopjjokhjealaaGreatRw
import Derived.Test.YtcopjjokhjealaaGreatProg
import Derived.Deep.QuietTactic
import Derived.BigQuiet
import Derived.WalkLawsBesides
import Derived.WalkSpells
import Derived.Handy
import Derived.Deep.RegionHeld3
import Derived.Laws.MakeOwn
import Derived.KernelRfl
import Derived.Shelf.Abstract
import Derived.Deep.LoopGhost
import Derived.BigRegion
import Derived.Maps.OwnSet
import Derived.Maps.OwnOps
import Derived.Maps.Views
namespace Go.Proofs.YtcopjjokhjealaaGreat
open Go.RowKit

/-- A running item. -/
structure Rn where
  l : Int
  i : Int
  t : Int
  d : Bool
def rcs (x : Rn) : List Value := [.int .i64 x.l, .int .i64 x.i, .int .i64 x.t, .bool x.d]
def Rn.v (x : Rn) : Value := .agg #[.int .i64 x.l, .int .i64 x.i, .int .i64 x.t, .bool x.d]
theorem rcs_len (x : Rn) : (rcs x).length = 4 := rfl
theorem rcs_one (x : Rn) : ∀ u ∈ rcs x, u.oneCell' = true := by intro u hu; simp [rcs] at hu; rcases hu with rfl | rfl | rfl | rfl <;> rfl
/-- The list lies at A. -/
structure AtR (w : World) (A : Option Addr) (L : List Rn) : Prop where
  at_ : 0 < L.length → ∃ b off, A = some ⟨b, off, none⟩ ∧ b < w.heap.size ∧ ∀ k (hk : k < L.length),
    w.cell? ⟨b, off + k * 4, none⟩ = some (.int .i64 L[k].l) ∧ w.cell? ⟨b, off + k * 4 + 1, none⟩ = some (.int .i64 L[k].i) ∧ w.cell? ⟨b, off + k * 4 + 2, none⟩ = some (.int .i64 L[k].t) ∧
    w.cell? ⟨b, off + k * 4 + 3, none⟩ = some (.bool L[k].d)
  mx : L.length ≤ 1000000
theorem AtR.keep {w w' : World} {A : Option Addr} {L : List Rn} (h : AtR w A L) (hk : Keeps [] w w') : AtR w' A L := by
  refine ⟨fun h0 => ?_, h.mx⟩
  obtain ⟨b, off, h1, h2, h3⟩ := h.at_ h0
  have e : ∀ o, w'.cell? ⟨b, o, none⟩ = w.cell? ⟨b, o, none⟩ := fun o => hk.cell (p := ⟨b, o, none⟩) h2 (by simp)
  exact ⟨b, off, h1, Nat.lt_of_lt_of_le h2 hk.size, fun k hk => by simp only [e]; exact h3 k hk⟩
theorem lt_of_cell {w : World} {b o : Nat} {v : Value} (h : w.cell? ⟨b, o, none⟩ = some v) : b < w.heap.size := by
  unfold World.cell? at h
  by_cases hb : b < w.heap.size
  · exact hb
  · simp [Array.getElem?_eq_none (Nat.le_of_not_lt hb)] at h
/-- The place of the first item that fits, or -1. -/
def ixF (p : Rn → Bool) (L : List Rn) : Int := match L.findIdx? p with
  | some k => k
  | none => -1
theorem ixF_at {p : Rn → Bool} {L : List Rn} {k : Nat} (hk : k < L.length) (h1 : p L[k] = true) (h2 : ∀ j (hj : j < L.length), j < k → p L[j] = false) : ixF p L = k := by
  have h : L.findIdx? p = some k := by
    rw [List.findIdx?_eq_some_iff_getElem]
    exact ⟨hk, h1, fun j hj => by rw [h2 j (by omega) hj]; simp⟩
  unfold ixF
  rw [h]
theorem ixF_none {p : Rn → Bool} {L : List Rn} (h : ∀ j (hj : j < L.length), j < L.length → p L[j] = false) : ixF p L = -1 := by
  have h1 : L.findIdx? p = none := by
    rw [List.findIdx?_eq_none_iff]
    intro x hx
    obtain ⟨j, hj, rfl⟩ := List.getElem_of_mem hx
    exact h j hj hj
  unfold ixF
  rw [h1]
set_option maxRecDepth 100000 in
set_option maxHeartbeats 3200000 in
theorem findc_any (w : World) (x : Rn) (b1 : Nat) (b2 : Nat) (l : Int) (i : Int) (h1 : w.cell? ⟨b1, 0, none⟩ = some (.int .i64 l)) (h2 : w.cell? ⟨b2, 0, none⟩ = some (.int .i64 i)) :
    Calls Tryz.prog 63 #[.agg #[.int .i64 x.l, .int .i64 x.i, .int .i64 x.t, .bool x.d], .pointer (some ⟨b1, 0, none⟩), .pointer (some ⟨b2, 0, none⟩)] w fun e w' => e = .returned (.bool (decide (x.l = l) && decide (x.i = i))) ∧ Keeps [] w w' := by
  have n1 := lt_of_cell h1
  have n2 := lt_of_cell h2
  by_cases e1 : x.l = l
  · go_enter Tryz.func63, Tryz.ntmps63
    go_wp2_with fail
    go_ret
    exact ⟨ret_bool (by simp [e1]; rfl), (Keeps.refl [] w).alloc _⟩
  · go_enter Tryz.func63, Tryz.ntmps63
    go_wp2_with fail
    go_ret
    exact ⟨ret_bool (by simp [e1]), (Keeps.refl [] w).alloc _⟩
set_option maxRecDepth 100000 in
set_option maxHeartbeats 3200000 in
theorem ix_find (w : World) (A : Option Addr) (L : List Rn) (c : Nat) (b1 : Nat) (b2 : Nat) (l : Int) (i : Int) (ha : AtR w A L) (h1 : w.cell? ⟨b1, 0, none⟩ = some (.int .i64 l)) (h2 : w.cell? ⟨b2, 0, none⟩ = some (.int .i64 i)) :
    Calls Tryz.prog 62 #[.slice A L.length c, .func (.func 63) #[] #[.pointer (some ⟨b1, 0, none⟩), .pointer (some ⟨b2, 0, none⟩)]] w fun e w' => e = .returned (.int .i64 (ixF (fun x => decide (x.l = l) && decide (x.i = i)) L)) ∧ Keeps [] w w' := by
  have hm := ha.mx
  have HH := Lib.hid ha
  have n1 := lt_of_cell h1
  have n2 := lt_of_cell h2
  obtain ⟨V, hV⟩ : ∃ V, ixF (fun x => decide (x.l = l) && decide (x.i = i)) L = V := ⟨_, rfl⟩
  rw [hV]
  have HV := Lib.hid hV
  have H1 := Lib.hid (fun W (k : Keeps [] w W) => (k.cell (p := ⟨b1, 0, none⟩) n1 (by simp)).trans h1)
  have H2 := Lib.hid (fun W (k : Keeps [] w W) => (k.cell (p := ⟨b2, 0, none⟩) n2 (by simp)).trans h2)
  clear ha hV h1 n1 h2 n2
  go_enter Tryz.func62, Tryz.ntmps62
  go_wp2_with fail
  go_loopw [8] (fun iv wr => ∃ k : Nat, k ≤ L.length ∧ iv = .int .i64 k ∧ (∀ j (hj : j < L.length), j < k → (fun x : Rn => decide (x.l = l) && decide (x.i = i)) L[j] = false) ∧ Keeps [] w wr) (fun iv _ => L.length - (intOf iv).toNat)
  case atStart => exact ⟨0, by omega, rfl, fun j hj h => absurd h (by omega), Keeps.refl _ _⟩
  case round =>
    obtain ⟨k, hk, rfl, hno, kp⟩ := hrel
    have HNO := Lib.hid hno
    have KP := Lib.hid kp
    have HA := Lib.hid (HH.out.keep kp)
    clear hno kp
    by_cases hlt : k < L.length
    · obtain ⟨bl, off, hAA, hbl, hc⟩ := HA.out.at_ (by omega)
      subst hAA
      obtain ⟨c0, c1, c2, c3⟩ := hc k hlt
      have i0 : (0 : Int) ≤ (k : Int) := by omega
      have i1 : (k : Int) < (L.length : Int) := by omega
      have hcc := findc_any wr L[k] b1 b2 l i (H1.out wr KP.out) (H2.out wr KP.out)
      obtain ⟨b, hb⟩ : ∃ b, (fun x : Rn => decide (x.l = l) && decide (x.i = i)) L[k] = b := ⟨_, rfl⟩
      have HB := Lib.hid hb
      dsimp only at hb
      rw [hb] at hcc
      clear hb hc
      generalize hx : L[k] = x at c0 c1 c2 c3 hcc
      have HC := Lib.hid hcc
      clear hcc hx
      go_wp2_with fail
      refine HC.out.mono ?_
      rintro e w2 ⟨rfl, k2⟩
      have K2 := Lib.hid (KP.out.trans k2 (by simp))
      clear k2 HC c0 c1 c2 c3
      cases b with
      | true =>
        have eV : V = k := by rw [← HV.out]; exact ixF_at hlt HB.out HNO.out
        have HE := Lib.hid eV
        clear eV
        go_wp2_with fail
        go_ret
        rw [HE.out]
        exact ⟨rfl, K2.out⟩
      | false =>
        go_wp2_with fail
        go_roundw
        case rel =>
          refine ⟨k + 1, by omega, by go_num, fun j hj hjk => ?_, K2.out⟩
          by_cases e : j = k
          · subst e; exact HB.out
          · exact HNO.out j hj (by omega)
        case measure => simp [intOf]; omega
    · obtain rfl : k = L.length := by omega
      have eV : V = -1 := by rw [← HV.out]; exact ixF_none HNO.out
      have HE := Lib.hid eV
      clear eV
      go_wp2_with fail
      go_ret
      rw [HE.out]
      exact ⟨rfl, KP.out⟩
set_option maxRecDepth 100000 in
set_option maxHeartbeats 3200000 in
theorem trialc_any (w : World) (x : Rn) (b1 : Nat) (t : Int) (h1 : w.cell? ⟨b1, 0, none⟩ = some (.int .i64 t)) :
    Calls Tryz.prog 72 #[.agg #[.int .i64 x.l, .int .i64 x.i, .int .i64 x.t, .bool x.d], .pointer (some ⟨b1, 0, none⟩)] w fun e w' => e = .returned (.bool (decide (x.t = t))) ∧ Keeps [] w w' := by
  have n1 := lt_of_cell h1
  go_enter Tryz.func72, Tryz.ntmps72
  go_wp2_with fail
  go_ret
  exact ⟨ret_bool (by rfl), (Keeps.refl [] w).alloc _⟩
set_option maxRecDepth 100000 in
set_option maxHeartbeats 3200000 in
theorem ix_trial (w : World) (A : Option Addr) (L : List Rn) (c : Nat) (b1 : Nat) (t : Int) (ha : AtR w A L) (h1 : w.cell? ⟨b1, 0, none⟩ = some (.int .i64 t)) :
    Calls Tryz.prog 62 #[.slice A L.length c, .func (.func 72) #[] #[.pointer (some ⟨b1, 0, none⟩)]] w fun e w' => e = .returned (.int .i64 (ixF (fun x => decide (x.t = t)) L)) ∧ Keeps [] w w' := by
  have hm := ha.mx
  have HH := Lib.hid ha
  have n1 := lt_of_cell h1
  obtain ⟨V, hV⟩ : ∃ V, ixF (fun x => decide (x.t = t)) L = V := ⟨_, rfl⟩
  rw [hV]
  have HV := Lib.hid hV
  have H1 := Lib.hid (fun W (k : Keeps [] w W) => (k.cell (p := ⟨b1, 0, none⟩) n1 (by simp)).trans h1)
  clear ha hV h1 n1
  go_enter Tryz.func62, Tryz.ntmps62
  go_wp2_with fail
  go_loopw [8] (fun iv wr => ∃ k : Nat, k ≤ L.length ∧ iv = .int .i64 k ∧ (∀ j (hj : j < L.length), j < k → (fun x : Rn => decide (x.t = t)) L[j] = false) ∧ Keeps [] w wr) (fun iv _ => L.length - (intOf iv).toNat)
  case atStart => exact ⟨0, by omega, rfl, fun j hj h => absurd h (by omega), Keeps.refl _ _⟩
  case round =>
    obtain ⟨k, hk, rfl, hno, kp⟩ := hrel
    have HNO := Lib.hid hno
    have KP := Lib.hid kp
    have HA := Lib.hid (HH.out.keep kp)
    clear hno kp
    by_cases hlt : k < L.length
    · obtain ⟨bl, off, hAA, hbl, hc⟩ := HA.out.at_ (by omega)
      subst hAA
      obtain ⟨c0, c1, c2, c3⟩ := hc k hlt
      have i0 : (0 : Int) ≤ (k : Int) := by omega
      have i1 : (k : Int) < (L.length : Int) := by omega
      have hcc := trialc_any wr L[k] b1 t (H1.out wr KP.out)
      obtain ⟨b, hb⟩ : ∃ b, (fun x : Rn => decide (x.t = t)) L[k] = b := ⟨_, rfl⟩
      have HB := Lib.hid hb
      dsimp only at hb
      rw [hb] at hcc
      clear hb hc
      generalize hx : L[k] = x at c0 c1 c2 c3 hcc
      have HC := Lib.hid hcc
      clear hcc hx
      go_wp2_with fail
      refine HC.out.mono ?_
      rintro e w2 ⟨rfl, k2⟩
      have K2 := Lib.hid (KP.out.trans k2 (by simp))
      clear k2 HC c0 c1 c2 c3
      cases b with
      | true =>
        have eV : V = k := by rw [← HV.out]; exact ixF_at hlt HB.out HNO.out
        have HE := Lib.hid eV
        clear eV
        go_wp2_with fail
        go_ret
        rw [HE.out]
        exact ⟨rfl, K2.out⟩
      | false =>
        go_wp2_with fail
        go_roundw
        case rel =>
          refine ⟨k + 1, by omega, by go_num, fun j hj hjk => ?_, K2.out⟩
          by_cases e : j = k
          · subst e; exact HB.out
          · exact HNO.out j hj (by omega)
        case measure => simp [intOf]; omega
    · obtain rfl : k = L.length := by omega
      have eV : V = -1 := by rw [← HV.out]; exact ixF_none HNO.out
      have HE := Lib.hid eV
      clear eV
      go_wp2_with fail
      go_ret
      rw [HE.out]
      exact ⟨rfl, KP.out⟩
set_option maxRecDepth 100000 in
set_option maxHeartbeats 3200000 in
theorem cutc_any (w : World) (x : Rn) (b1 : Nat) (l : Int) (h1 : w.cell? ⟨b1, 0, none⟩ = some (.int .i64 l)) :
    Calls Tryz.prog 76 #[.agg #[.int .i64 x.l, .int .i64 x.i, .int .i64 x.t, .bool x.d], .pointer (some ⟨b1, 0, none⟩)] w fun e w' => e = .returned (.bool (decide (x.l = l))) ∧ Keeps [] w w' := by
  have n1 := lt_of_cell h1
  go_enter Tryz.func76, Tryz.ntmps76
  go_wp2_with fail
  go_ret
  exact ⟨ret_bool (by rfl), (Keeps.refl [] w).alloc _⟩
set_option maxRecDepth 100000 in
set_option maxHeartbeats 3200000 in
theorem ix_cut (w : World) (A : Option Addr) (L : List Rn) (c : Nat) (b1 : Nat) (l : Int) (ha : AtR w A L) (h1 : w.cell? ⟨b1, 0, none⟩ = some (.int .i64 l)) :
    Calls Tryz.prog 62 #[.slice A L.length c, .func (.func 76) #[] #[.pointer (some ⟨b1, 0, none⟩)]] w fun e w' => e = .returned (.int .i64 (ixF (fun x => decide (x.l = l)) L)) ∧ Keeps [] w w' := by
  have hm := ha.mx
  have HH := Lib.hid ha
  have n1 := lt_of_cell h1
  obtain ⟨V, hV⟩ : ∃ V, ixF (fun x => decide (x.l = l)) L = V := ⟨_, rfl⟩
  rw [hV]
  have HV := Lib.hid hV
  have H1 := Lib.hid (fun W (k : Keeps [] w W) => (k.cell (p := ⟨b1, 0, none⟩) n1 (by simp)).trans h1)
  clear ha hV h1 n1
  go_enter Tryz.func62, Tryz.ntmps62
  go_wp2_with fail
  go_loopw [8] (fun iv wr => ∃ k : Nat, k ≤ L.length ∧ iv = .int .i64 k ∧ (∀ j (hj : j < L.length), j < k → (fun x : Rn => decide (x.l = l)) L[j] = false) ∧ Keeps [] w wr) (fun iv _ => L.length - (intOf iv).toNat)
  case atStart => exact ⟨0, by omega, rfl, fun j hj h => absurd h (by omega), Keeps.refl _ _⟩
  case round =>
    obtain ⟨k, hk, rfl, hno, kp⟩ := hrel
    have HNO := Lib.hid hno
    have KP := Lib.hid kp
    have HA := Lib.hid (HH.out.keep kp)
    clear hno kp
    by_cases hlt : k < L.length
    · obtain ⟨bl, off, hAA, hbl, hc⟩ := HA.out.at_ (by omega)
      subst hAA
      obtain ⟨c0, c1, c2, c3⟩ := hc k hlt
      have i0 : (0 : Int) ≤ (k : Int) := by omega
      have i1 : (k : Int) < (L.length : Int) := by omega
      have hcc := cutc_any wr L[k] b1 l (H1.out wr KP.out)
      obtain ⟨b, hb⟩ : ∃ b, (fun x : Rn => decide (x.l = l)) L[k] = b := ⟨_, rfl⟩
      have HB := Lib.hid hb
      dsimp only at hb
      rw [hb] at hcc
      clear hb hc
      generalize hx : L[k] = x at c0 c1 c2 c3 hcc
      have HC := Lib.hid hcc
      clear hcc hx
      go_wp2_with fail
      refine HC.out.mono ?_
      rintro e w2 ⟨rfl, k2⟩
      have K2 := Lib.hid (KP.out.trans k2 (by simp))
      clear k2 HC c0 c1 c2 c3
      cases b with
      | true =>
        have eV : V = k := by rw [← HV.out]; exact ixF_at hlt HB.out HNO.out
        have HE := Lib.hid eV
        clear eV
        go_wp2_with fail
        go_ret
        rw [HE.out]
        exact ⟨rfl, K2.out⟩
      | false =>
        go_wp2_with fail
        go_roundw
        case rel =>
          refine ⟨k + 1, by omega, by go_num, fun j hj hjk => ?_, K2.out⟩
          by_cases e : j = k
          · subst e; exact HB.out
          · exact HNO.out j hj (by omega)
        case measure => simp [intOf]; omega
    · obtain rfl : k = L.length := by omega
      have eV : V = -1 := by rw [← HV.out]; exact ixF_none HNO.out
      have HE := Lib.hid eV
      clear eV
      go_wp2_with fail
      go_ret
      rw [HE.out]
      exact ⟨rfl, KP.out⟩
end Go.Proofs.YtcopjjokhjealaaGreat
namespace Go.Proofs.YtcopjjokhjealaaGreat
open Go.RowKit

def fndI (L : List Rn) (l i : Int) : Int := ixF (fun x => decide (x.l = l) && decide (x.i = i)) L
def triI (L : List Rn) (t : Int) : Int := ixF (fun x => decide (x.t = t)) L
def manyI (L : List Rn) (l : Int) : Nat := (L.filter (fun x => decide (x.l = l))).length
set_option maxRecDepth 100000 in
set_option maxHeartbeats 3200000 in
theorem find_any (w : World) (p : Nat) (A : Option Addr) (L : List Rn) (c : Nat) (l i : Int) (hp : w.cell? ⟨p, 1, none⟩ = some (.slice A L.length c)) (ha : AtR w A L) :
    Calls Tryz.prog 36 #[.pointer (some ⟨p, 0, none⟩), .int .i64 l, .int .i64 i] w fun e w' => e = .returned (.int .i64 (fndI L l i)) ∧ Keeps [] w w' := by
  have np := lt_of_cell hp
  have k1 : Keeps [] w (w.alloc (.cells #[.int .i64 l] 3)) := (Keeps.refl [] w).alloc _
  have k2 : Keeps [] w ((w.alloc (.cells #[.int .i64 l] 3)).alloc (.cells #[.int .i64 i] 3)) := k1.alloc _
  have b1 := (Blk.new w 3 #[.int .i64 l]).alloc (.cells #[.int .i64 i] 3)
  have b2 := Blk.new (w.alloc (.cells #[.int .i64 l] 3)) 3 #[.int .i64 i]
  have hc := ix_find _ A L c w.heap.size (w.alloc (.cells #[.int .i64 l] 3)).heap.size l i (ha.keep k2) (b1.cell 0) (b2.cell 0)
  have HC := Lib.hid hc
  have HK := Lib.hid k2
  clear hc k1 k2 b1 b2 ha
  go_enter Tryz.func36, Tryz.ntmps36
  go_wp2_with fail
  have hC := HC.out
  rw [show (w.alloc (.cells #[.int .i64 l] 3)).heap.size = w.heap.size + 1 by simp] at hC
  refine hC.mono ?_
  rintro e w1 ⟨rfl, k1⟩
  have K1 := Lib.hid (HK.out.trans k1 (by simp))
  clear k1 hC HC
  go_wp2_with fail
  go_ret
  exact ⟨rfl, K1.out⟩
set_option maxRecDepth 100000 in
set_option maxHeartbeats 3200000 in
theorem trial_any (w : World) (p : Nat) (A : Option Addr) (L : List Rn) (c : Nat) (t : Int) (hp : w.cell? ⟨p, 1, none⟩ = some (.slice A L.length c)) (ha : AtR w A L) :
    Calls Tryz.prog 47 #[.pointer (some ⟨p, 0, none⟩), .int .i64 t] w fun e w' => e = .returned (.int .i64 (triI L t)) ∧ Keeps [] w w' := by
  have np := lt_of_cell hp
  have k1 : Keeps [] w (w.alloc (.cells #[.int .i64 t] 3)) := (Keeps.refl [] w).alloc _
  have b1 := Blk.new w 3 #[.int .i64 t]
  have hc := ix_trial _ A L c w.heap.size t (ha.keep k1) (b1.cell 0)
  have HC := Lib.hid hc
  have HK := Lib.hid k1
  clear hc k1 b1 ha
  go_enter Tryz.func47, Tryz.ntmps47
  go_wp2_with fail
  refine HC.out.mono ?_
  rintro e w1 ⟨rfl, k1⟩
  have K1 := Lib.hid (HK.out.trans k1 (by simp))
  clear k1 HC
  go_wp2_with fail
  go_ret
  exact ⟨rfl, K1.out⟩
theorem many_take {L : List Rn} {l : Int} {k : Nat} (hk : k < L.length) : manyI (L.take (k + 1)) l = manyI (L.take k) l + if L[k].l = l then 1 else 0 := by
  unfold manyI
  rw [List.take_succ_eq_append_getElem hk, List.filter_append, List.length_append]
  by_cases h : L[k].l = l <;> simp [h]
set_option maxRecDepth 100000 in
set_option maxHeartbeats 3200000 in
theorem many_any (w : World) (p : Nat) (A : Option Addr) (L : List Rn) (c : Nat) (l : Int) (hp : w.cell? ⟨p, 1, none⟩ = some (.slice A L.length c)) (ha : AtR w A L) :
    Calls Tryz.prog 48 #[.pointer (some ⟨p, 0, none⟩), .int .i64 l] w fun e w' => e = .returned (.int .i64 (manyI L l : Nat)) ∧ Keeps [] w w' := by
  have hm := ha.mx
  have HA := Lib.hid ha
  clear ha
  go_enter Tryz.func48, Tryz.ntmps48
  go_wp2_with fail
  go_loopw [5, 13] (fun n iv wr => ∃ k : Nat, k ≤ L.length ∧ iv = .int .i64 k ∧ n = .int .i64 (manyI (L.take k) l : Nat) ∧ Keeps [] w wr) (fun _ iv _ => L.length - (intOf iv).toNat)
  case atStart => exact ⟨0, by omega, rfl, rfl, Keeps.refl _ _⟩
  case round =>
    obtain ⟨k, hk, rfl, rfl, kp⟩ := hrel
    have KP := Lib.hid kp
    have HK := Lib.hid (HA.out.keep kp)
    clear kp
    by_cases hlt : k < L.length
    · obtain ⟨bl, off, hAA, hbl, hc⟩ := HK.out.at_ (by omega)
      subst hAA
      obtain ⟨c0, c1, c2, c3⟩ := hc k hlt
      have i0 : (0 : Int) ≤ (k : Int) := by omega
      have i1 : (k : Int) < (L.length : Int) := by omega
      have hmt := many_take (l := l) hlt
      have hle : manyI (L.take k) l ≤ k := by unfold manyI; exact Nat.le_trans (List.length_filter_le _ _) (by rw [List.length_take]; omega)
      obtain ⟨M, hM⟩ : ∃ M, manyI (L.take k) l = M := ⟨_, rfl⟩
      rw [hM] at hmt hle
      rw [hM]
      generalize hx : L[k] = x at c0 c1 c2 c3 hmt
      have HMT := Lib.hid hmt
      clear hmt hc hx hM
      by_cases e : x.l = l
      · go_wp2_with fail
        go_roundw
        case rel => exact ⟨k + 1, by omega, by go_num, by rw [HMT.out, if_pos e]; go_num, KP.out.alloc _⟩
        case measure => simp [intOf]; omega
      · go_wp2_with fail
        go_roundw
        case rel => exact ⟨k + 1, by omega, by go_num, by rw [HMT.out, if_neg e]; rfl, KP.out.alloc _⟩
        case measure => simp [intOf]; omega
    · obtain rfl : k = L.length := by omega
      rw [List.take_length]
      go_wp2_with fail
      go_ret
      exact ⟨rfl, KP.out⟩
end Go.Proofs.YtcopjjokhjealaaGreat
namespace Go.Proofs.YtcopjjokhjealaaGreat
open Go.RowKit

/-- The numbers lie at A. -/
structure AtZ (w : World) (A : Option Addr) (L : List Int) : Prop where
  at_ : 0 < L.length → ∃ b off, A = some ⟨b, off, none⟩ ∧ b < w.heap.size ∧ ∀ k (hk : k < L.length), w.cell? ⟨b, off + k, none⟩ = some (.int .i64 L[k])
  mx : L.length ≤ 1000000
theorem AtZ.keep {w w' : World} {A : Option Addr} {L : List Int} (h : AtZ w A L) (hk : Keeps [] w w') : AtZ w' A L := by
  refine ⟨fun h0 => ?_, h.mx⟩
  obtain ⟨b, off, h1, h2, h3⟩ := h.at_ h0
  exact ⟨b, off, h1, Nat.lt_of_lt_of_le h2 hk.size, fun k hk' => (hk.cell (p := ⟨b, off + k, none⟩) h2 (by simp)).trans (h3 k hk')⟩
def ixZ (L : List Int) (x : Int) : Int := match L.findIdx? (fun y => decide (y = x)) with
  | some k => k
  | none => -1
theorem ixZ_at {L : List Int} {x : Int} {k : Nat} (hk : k < L.length) (h1 : L[k] = x) (h2 : ∀ j (hj : j < L.length), j < k → ¬ L[j] = x) : ixZ L x = k := by
  have h : L.findIdx? (fun y => decide (y = x)) = some k := by
    rw [List.findIdx?_eq_some_iff_getElem]
    exact ⟨hk, by simpa using h1, fun j hj => by simpa using h2 j (by omega) hj⟩
  unfold ixZ
  rw [h]
theorem ixZ_none {L : List Int} {x : Int} (h : ∀ j (hj : j < L.length), j < L.length → ¬ L[j] = x) : ixZ L x = -1 := by
  have h1 : L.findIdx? (fun y => decide (y = x)) = none := by
    rw [List.findIdx?_eq_none_iff]
    intro y hy
    obtain ⟨j, hj, rfl⟩ := List.getElem_of_mem hy
    simpa using h j hj hj
  unfold ixZ
  rw [h1]
theorem ixZ_ge (L : List Int) (x : Int) : decide (0 ≤ ixZ L x) = decide (x ∈ L) := by
  unfold ixZ
  cases h : L.findIdx? (fun y => decide (y = x)) with
  | none =>
    rw [List.findIdx?_eq_none_iff] at h
    have : x ∉ L := fun hx => by simpa using h x hx
    simp [this]
  | some k =>
    obtain ⟨hk, h1, _⟩ := List.findIdx?_eq_some_iff_getElem.1 h
    have : x ∈ L := by rw [← (by simpa using h1 : L[k] = x)]; exact List.getElem_mem hk
    simp [this]
set_option maxRecDepth 100000 in
set_option maxHeartbeats 3200000 in
theorem index_any (w : World) (A : Option Addr) (L : List Int) (c : Nat) (x : Int) (ha : AtZ w A L) :
    Calls Tryz.prog 71 #[.slice A L.length c, .int .i64 x] w fun e w' => e = .returned (.int .i64 (ixZ L x)) ∧ w' = w := by
  have hm := ha.mx
  have HH := Lib.hid ha
  obtain ⟨V, hV⟩ : ∃ V, ixZ L x = V := ⟨_, rfl⟩
  rw [hV]
  have HV := Lib.hid hV
  clear ha hV
  go_enter Tryz.func71, Tryz.ntmps71
  go_wp2_with fail
  go_loop [8] (fun iv => ∃ k : Nat, k ≤ L.length ∧ iv = .int .i64 k ∧ (∀ j (hj : j < L.length), j < k → ¬ L[j] = x)) (fun iv => L.length - (intOf iv).toNat)
  case atStart => exact ⟨0, by omega, rfl, fun j hj h => absurd h (by omega)⟩
  case round =>
    obtain ⟨k, hk, rfl, hno⟩ := hrel
    have HNO := Lib.hid hno
    clear hno
    by_cases hlt : k < L.length
    · obtain ⟨bl, off, hAA, hbl, hc⟩ := HH.out.at_ (by omega)
      subst hAA
      have c0 := hc k hlt
      have i0 : (0 : Int) ≤ (k : Int) := by omega
      have i1 : (k : Int) < (L.length : Int) := by omega
      obtain ⟨y, hy⟩ : ∃ y, L[k] = y := ⟨_, rfl⟩
      rw [hy] at c0
      have HY := Lib.hid hy
      clear hc hy
      by_cases e : x = y
      · have eV : V = k := by rw [← HV.out]; exact ixZ_at hlt (by rw [HY.out, e]) HNO.out
        have HE := Lib.hid eV
        clear eV
        go_wp2_with fail
        go_ret
        rw [HE.out]
        exact ⟨rfl, rfl⟩
      · go_wp2_with fail
        go_round
        case rel =>
          refine ⟨k + 1, by omega, by go_num, fun j hj hjk => ?_⟩
          by_cases e2 : j = k
          · subst e2; rw [HY.out]; exact fun h => e h.symm
          · exact HNO.out j hj (by omega)
        case measure => simp [intOf]; omega
    · obtain rfl : k = L.length := by omega
      have eV : V = -1 := by rw [← HV.out]; exact ixZ_none HNO.out
      have HE := Lib.hid eV
      clear eV
      go_wp2_with fail
      go_ret
      rw [HE.out]
      exact ⟨rfl, rfl⟩
set_option maxRecDepth 100000 in
set_option maxHeartbeats 3200000 in
theorem contains_any (w : World) (A : Option Addr) (L : List Int) (c : Nat) (x : Int) (ha : AtZ w A L) :
    Calls Tryz.prog 46 #[.slice A L.length c, .int .i64 x] w fun e w' => e = .returned (.bool (decide (x ∈ L))) ∧ w' = w := by
  go_enter Tryz.func46, Tryz.ntmps46
  go_wp2_with fail
  refine (index_any w A L c x ha).mono ?_
  rintro e w1 ⟨rfl, rfl⟩
  go_wp2_with fail
  go_ret
  exact ⟨ret_bool (ixZ_ge L x), rfl⟩
set_option maxRecDepth 100000 in
set_option maxHeartbeats 3200000 in
theorem has_any (w : World) (A : Option Addr) (L : List Int) (c : Nat) (x : Int) (ha : AtZ w A L) :
    Calls Tryz.prog 55 #[.slice A L.length c, .int .i64 x] w fun e w' => e = .returned (.bool (decide (x ∈ L))) ∧ w' = w := by
  have hm := ha.mx
  have HH := Lib.hid ha
  obtain ⟨V, hV⟩ : ∃ V, decide (x ∈ L) = V := ⟨_, rfl⟩
  rw [hV]
  have HV := Lib.hid hV
  clear ha hV
  go_enter Tryz.func55, Tryz.ntmps55
  go_wp2_with fail
  go_loop [5] (fun iv => ∃ k : Nat, k ≤ L.length ∧ iv = .int .i64 k ∧ (∀ j (hj : j < L.length), j < k → ¬ L[j] = x)) (fun iv => L.length - (intOf iv).toNat)
  case atStart => exact ⟨0, by omega, rfl, fun j hj h => absurd h (by omega)⟩
  case round =>
    obtain ⟨k, hk, rfl, hno⟩ := hrel
    have HNO := Lib.hid hno
    clear hno
    by_cases hlt : k < L.length
    · obtain ⟨bl, off, hAA, hbl, hc⟩ := HH.out.at_ (by omega)
      subst hAA
      have c0 := hc k hlt
      have i0 : (0 : Int) ≤ (k : Int) := by omega
      have i1 : (k : Int) < (L.length : Int) := by omega
      obtain ⟨y, hy⟩ : ∃ y, L[k] = y := ⟨_, rfl⟩
      rw [hy] at c0
      have HY := Lib.hid hy
      have hmem : y ∈ L := by rw [← hy]; exact List.getElem_mem hlt
      have HM := Lib.hid hmem
      clear hc hy hmem
      by_cases e : y = x
      · have eV : V = true := by rw [← HV.out, ← e]; exact decide_eq_true HM.out
        have HE := Lib.hid eV
        clear eV
        go_wp2_with fail
        go_ret
        rw [HE.out]
        exact ⟨rfl, rfl⟩
      · go_wp2_with fail
        go_round
        case rel =>
          refine ⟨k + 1, by omega, by go_num, fun j hj hjk => ?_⟩
          by_cases e2 : j = k
          · subst e2; rw [HY.out]; exact e
          · exact HNO.out j hj (by omega)
        case measure => simp [intOf]; omega
    · obtain rfl : k = L.length := by omega
      have eV : V = false := by
        rw [← HV.out]
        refine decide_eq_false fun hx => ?_
        obtain ⟨j, hj, hjx⟩ := List.getElem_of_mem hx
        exact HNO.out j hj hj hjx
      have HE := Lib.hid eV
      clear eV
      go_wp2_with fail
      go_ret
      rw [HE.out]
      exact ⟨rfl, rfl⟩
end Go.Proofs.YtcopjjokhjealaaGreat
namespace Go.Proofs.YtcopjjokhjealaaGreat
open Go.RowKit

theorem info69 : (Tryz.prog.info? 69).map (fun i => (i.zero, i.size, i.bytes)) = some (some (.agg #[.int .i64 0, .int .i64 0, .int .i64 0, .bool false]), 4, 32) := by kernel_rfl
set_option maxRecDepth 100000 in
set_option maxHeartbeats 1600000 in
/-- slices.Delete of one entry. -/
theorem delete_any (w : World) (g n cap i : Nat) (xs : List Value) (ho : w.ownsRow 0 69 4 (.slice (some ⟨g, 0, none⟩) n cap) n xs) (h1c : ∀ u ∈ xs, u.oneCell' = true) (hi : i < n) (hn : n ≤ 1000000) :
    Calls Tryz.prog 51 #[.slice (some ⟨g, 0, none⟩) n cap, .int .i64 i, .int .i64 ((i : Int) + 1)] w fun e w' => e = .returned (.slice (some ⟨g, 0, none⟩) (n - 1) cap) ∧
      w'.ownsRow 0 69 4 (.slice (some ⟨g, 0, none⟩) (n - 1) cap) (n - 1) (xs.take (i * 4) ++ xs.drop ((i + 1) * 4)) ∧ Keeps [g] w w' := by
  obtain ⟨i0, hi0, hz0, hz1, hz2⟩ := info_parts (P := Tryz.prog) (e := 69) (z := .agg #[.int .i64 0, .int .i64 0, .int .i64 0, .bool false]) (size := 4) (bytes := 32) (by kernel_rfl)
  obtain ⟨cur, hb, hnc, hcm, hcs, hx⟩ := own_blk ho
  have hxl := own_len ho
  unfold maxLen at hcm
  have hnl : (xs.drop ((i + 1) * 4)).length = (n - (i + 1)) * 4 := by rw [List.length_drop, hxl]; omega
  have hcell : ∀ j, j < cap * 4 → w.drew.cell? ⟨g, j, none⟩ = some (cur.getD j undef) := fun j hj => by
    rw [hb.drew.cell]; simp [Array.getD, hcs, hj]
  obtain ⟨A, hA, hnews⟩ : ∃ A : Addr, (if cap = i + 1 then some (⟨g, 0, none⟩ : Addr) else some ⟨g, (i + 1) * 4, none⟩) = some A ∧ (∀ j u, (xs.drop ((i + 1) * 4))[j]? = some u → w.drew.cell? (A.add j) = some u) := by
    by_cases h : cap = i + 1
    · refine ⟨⟨g, 0, none⟩, by simp [h], fun j u hu => ?_⟩
      have h0 : (xs.drop ((i + 1) * 4)).length = 0 := by rw [hnl]; omega
      rw [List.length_eq_zero_iff.1 h0] at hu
      simp at hu
    · refine ⟨⟨g, (i + 1) * 4, none⟩, by simp [h], fun j u hu => ?_⟩
      rw [Addr.add_lit]
      rw [List.getElem?_drop] at hu
      exact own_cell (own_drew ho) hu
  have S1 := Lib.hid hnl
  have S2 := Lib.hid hnews
  have S3 : Hid (∀ u ∈ xs.drop ((i + 1) * 4), u.oneCell' = true) := fun u hu => h1c u (List.mem_of_mem_drop hu)
  have S4 : Hid (∀ j, j < (xs.drop ((i + 1) * 4)).length → (w.drew.cell? ⟨g, 0 + i * 4 + j, none⟩).isSome = true ∧ w.drew.frozen? ⟨g, 0 + i * 4 + j, none⟩ = false) := by
    intro j hj
    rw [hnl] at hj
    exact ⟨by rw [hcell _ (by omega)]; rfl, hb.drew.frozen _⟩
  have hwr : IntKind.i64.wrap ((i : Int) + 1) = (i : Int) + 1 := by rw [IntKind.wrap_i64]; omega
  have hp0 : (0 : Int) ≤ (i : Int) + 1 := by omega
  have hp1 : (i : Int) + 1 ≤ (n : Int) := by omega
  have hp2 : ((i : Int) + 1).toNat = i + 1 := by omega
  have HB := Lib.hid hb
  have HX := Lib.hid hx
  have HO := Lib.hid ho
  have HC := Lib.hid hcs
  clear hx hb ho hnl hnews hcell hxl hcs h1c
  have hic : i ≤ cap := by omega
  go_enter Tryz.func51, Tryz.ntmps51
  go_wp2_with fail
  go_region_law (refine step_append_room rfl (.tmp 22) (.tmp 25) 58 rfl 69 i0 4 Tryz.underlying58 hi0 hz1 g 0 i cap (by simp [Act.eval, Act.put]) A (n - (i + 1)) (cap - (i + 1)) (xs.drop ((i + 1) * 4)) (by simp [Act.eval, Act.put]) S1.out S2.out S3.out (by omega) S4.out ?_)
  have e1 : i + (n - (i + 1)) = n - 1 := by omega
  rw [e1]
  clear e1 hA
  go_wp2_with fail
  have hb1 := HB.out.drew.setCells (xs.drop ((i + 1) * 4)) (i * 4) (by rw [S1.out, HC.out]; omega)
  have hlen1 : (splice cur.toList (i * 4) (xs.drop ((i + 1) * 4))).length = cap * 4 := by
    rw [splice_len (by rw [S1.out, Array.length_toList, HC.out]; omega), Array.length_toList, HC.out]
  have hs1 : n - (n - 1) = 1 := by omega
  have hclr := run_clear_one (P := Tryz.prog) (w.drew.setCells g (i * 4) (xs.drop ((i + 1) * 4))) 58 69 0 (.agg #[.int .i64 0, .int .i64 0, .int .i64 0, .bool false]) [.int .i64 0, .int .i64 0, .int .i64 0, .bool false] Tryz.underlying58 (fun w => by kernel_rfl) (by kernel_rfl)
    (by simp [Value.oneCell']) g ((n - 1) * 4) (cap - (n - 1))
    (fun j hj => by rw [hb1.cell]; simp only [List.length_cons, List.length_nil] at hj; rw [List.getElem?_toArray, List.getElem?_eq_getElem (by rw [hlen1]; omega)]; rfl)
    (fun j _ => hb1.frozen _)
  rw [hs1, hclr]
  have hb2 := hb1.setCells [.int .i64 0, .int .i64 0, .int .i64 0, .bool false] ((n - 1) * 4) (by rw [List.size_toArray, hlen1]; simp; omega)
  have hk2 : Keeps [g] w ((w.drew.setCells g (i * 4) (xs.drop ((i + 1) * 4))).setCells g ((n - 1) * 4) [.int .i64 0, .int .i64 0, .int .i64 0, .bool false]) := ((Keeps.refl [g] w).drew.setCells _ _ (.inl (by simp))).setCells _ _ (.inl (by simp))
  have ho2 : ((w.drew.setCells g (i * 4) (xs.drop ((i + 1) * 4))).setCells g ((n - 1) * 4) [.int .i64 0, .int .i64 0, .int .i64 0, .bool false]).ownsRow 0 69 4 (.slice (some ⟨g, 0, none⟩) (n - 1) cap) (n - 1) (xs.take (i * 4) ++ xs.drop ((i + 1) * 4)) := by
    refine own_of_blk hb2 (by omega) (by unfold maxLen; omega) ?_ ?_
    · rw [List.size_toArray, splice_len (by rw [List.toList_toArray, hlen1]; simp; omega), List.toList_toArray, hlen1]
    · rw [List.toList_toArray]
      have e1 : ∀ Y : List Value, Y.length = cap * 4 → (splice Y ((n - 1) * 4) [.int .i64 0, .int .i64 0, .int .i64 0, .bool false]).take ((n - 1) * 4) = Y.take ((n - 1) * 4) := by
        intro Y hY
        unfold splice
        rw [List.append_assoc, List.take_append_of_le_length (by rw [List.length_take, hY]; omega), List.take_take, Nat.min_self]
      rw [List.toList_toArray, e1 _ hlen1]
      unfold splice
      have e2 : (cur.toList.take (i * 4)) = xs.take (i * 4) := by rw [← HX.out, List.take_take, Nat.min_eq_left (by omega)]
      rw [e2, List.take_append_of_le_length (by simp only [List.length_append, S1.out]; rw [← e2]; simp [HC.out]; omega)]
      apply List.take_of_length_le
      simp only [List.length_append, S1.out]
      rw [← e2]
      simp [HC.out]
      omega
  generalize (w.drew.setCells g (i * 4) (xs.drop ((i + 1) * 4))).setCells g ((n - 1) * 4) [.int .i64 0, .int .i64 0, .int .i64 0, .bool false] = w2 at *
  clear hb1 hlen1 hclr hb2 hs1
  go_wp2
  go_ret
  exact ⟨rfl, ho2, hk2⟩
/-- slices.Clone over entries. -/
theorem cloneR_any (w : World) (A : Option Addr) (n cap : Nat) (xs : List Value) (ho : w.ownsRow 0 69 4 (.slice A n cap) n xs) (h1 : ∀ u ∈ xs, u.oneCell' = true) (hn : n ≤ 1000000) :
    Calls Tryz.prog 67 #[.slice A n cap] w fun e w' => ∃ v, e = .returned v ∧ w'.ownsRow 0 69 4 v n xs ∧ Keeps [] w w' ∧ ∀ g ∈ fp v, w.heap.size ≤ g := by
  rcases A with _ | a
  · have hx : n = 0 ∧ cap = 0 := by
      rcases ho.2 with ⟨h, h0⟩ | ⟨g, c, cur, h, _⟩
      · injection h with _ _ h2; exact ⟨h0, h2⟩
      · injection h with h; cases h
    obtain ⟨rfl, rfl⟩ := hx
    have he := fun W => Lib.run_eql_slice_nil (P := Tryz.prog) W 58 69 none 0 0 0 0 Tryz.underlying58
    go_enter Tryz.func67, Tryz.ntmps67
    go_wp2
    go_ret
    exact ⟨_, rfl, ho, Keeps.refl _ _, by simp⟩
  · have he := fun W => Lib.run_eql_slice_nil (P := Tryz.prog) W 58 69 (some a) n cap 0 0 Tryz.underlying58
    go_enter Tryz.func67, Tryz.ntmps67
    go_wp2_with (at_builtin; refine wpList_app _ rfl (.tmp 5) (.tmp 6) _ rfl 69 (.agg #[.int .i64 0, .int .i64 0, .int .i64 0, .bool false]) 4 32 Tryz.underlying58 info69 rfl (by omega) (.slice (some ⟨w.heap.size, 0, none⟩) 0 0) 0 [] rfl (own_of_blk (Blk.new w 69 #[]) (by omega) (by omega) rfl rfl) _ _ _ _ xs rfl (reads_own (own_keep ho ((Keeps.refl [] _).alloc _) (by simp))) h1 (by unfold maxLen; omega) (by omega) ?_)
    intro v' w' ho' hk' hf'
    go_wp2
    go_ret
    have hk1 : Keeps [] w (w.alloc (.cells #[] 69)) := (Keeps.refl _ _).alloc _
    refine ⟨v', rfl, by simpa using ho', hk1.trans hk' (by simp), fun g hg => ?_⟩
    rcases hf' g hg with h2 | h2
    · have : g = w.heap.size := by simpa using h2
      omega
    · omega


theorem info3 : (Tryz.prog.info? 3).map (fun i => (i.zero, i.size, i.bytes)) = some (some (.int .i64 0), 1, 8) := by kernel_rfl
/-- slices.Clone of numbers. -/
theorem cloneZ_any (w : World) (A : Option Addr) (n cap : Nat) (xs : List Value) (ho : w.ownsRow 0 3 1 (.slice A n cap) n xs) (h1 : ∀ u ∈ xs, u.oneCell' = true) (hn : n ≤ 1000000) :
    Calls Tryz.prog 24 #[.slice A n cap] w fun e w' => ∃ v, e = .returned v ∧ w'.ownsRow 0 3 1 v n xs ∧ Keeps [] w w' ∧ ∀ g ∈ fp v, w.heap.size ≤ g := by
  rcases A with _ | a
  · have hx : n = 0 ∧ cap = 0 := by
      rcases ho.2 with ⟨h, h0⟩ | ⟨g, c, cur, h, _⟩
      · injection h with _ _ h2; exact ⟨h0, h2⟩
      · injection h with h; cases h
    obtain ⟨rfl, rfl⟩ := hx
    have he := fun W => Lib.run_eql_slice_nil (P := Tryz.prog) W 22 3 none 0 0 0 0 Tryz.underlying22
    go_enter Tryz.func24, Tryz.ntmps24
    go_wp2
    go_ret
    exact ⟨_, rfl, ho, Keeps.refl _ _, by simp⟩
  · have he := fun W => Lib.run_eql_slice_nil (P := Tryz.prog) W 22 3 (some a) n cap 0 0 Tryz.underlying22
    go_enter Tryz.func24, Tryz.ntmps24
    go_wp2_with (at_builtin; refine wpList_app _ rfl (.tmp 5) (.tmp 6) _ rfl 3 (.int .i64 0) 1 8 Tryz.underlying22 info3 rfl (by omega) (.slice (some ⟨w.heap.size, 0, none⟩) 0 0) 0 [] rfl (own_of_blk (Blk.new w 3 #[]) (by omega) (by omega) rfl rfl) _ _ _ _ xs rfl (reads_own (own_keep ho ((Keeps.refl [] _).alloc _) (by simp))) h1 (by unfold maxLen; omega) (by omega) ?_)
    intro v' w' ho' hk' hf'
    go_wp2
    go_ret
    have hk1 : Keeps [] w (w.alloc (.cells #[] 3)) := (Keeps.refl _ _).alloc _
    refine ⟨v', rfl, by simpa using ho', hk1.trans hk' (by simp), fun g hg => ?_⟩
    rcases hf' g hg with h2 | h2
    · have : g = w.heap.size := by simpa using h2
      omega
    · omega


end Go.Proofs.YtcopjjokhjealaaGreat
namespace Go.Proofs.YtcopjjokhjealaaGreat
open Go.RowKit

theorem keyed3 : Maps.Keyed Tryz.prog 3 := Maps.int_keyed Tryz.underlying3
theorem wfZ {x : Int} (h1 : -9223372036854775808 ≤ x) (h2 : x ≤ 9223372036854775807) : (Lit.int .i64 x).wf = true := WalkArith.wf_i64 ⟨h1, h2⟩
theorem plainElem_bool_invG {P : Program} {e : TypeId} (he : P.underlying e = some .bool) {v : Value} {z : DataW Unit × List MemPlace} (h : plainElem P e v = some z) : ∃ a, v = .bool a ∧ z = (.lit (.bool a), []) := by
  unfold plainElem at h
  rw [he] at h
  cases v <;> simp at h
  subst h
  exact ⟨_, rfl, rfl⟩
theorem plainElem_bool_inv {v : Value} {z : DataW Unit × List MemPlace} (h : plainElem Tryz.prog 4 v = some z) : ∃ a, v = .bool a ∧ z = (.lit (.bool a), []) := plainElem_bool_invG Tryz.underlying4 h
/-- The map at b tells f. -/
def BMap (w : World) (b n : Nat) (f : Int → Bool) : Prop :=
  ∃ D : DataW Unit, w.ownsMap Tryz.prog 3 (plainElem Tryz.prog 4) b n D ∧ ∀ x, D.atKey (.int .i64 x) (.lit (.bool false)) = .lit (.bool (f x))
theorem BMap.keep {F : List Nat} {w w' : World} {b n : Nat} {f : Int → Bool} (h : BMap w b n f) (hk : Keeps F w w') (hn : b ∉ F) : BMap w' b n f := by
  obtain ⟨D, ⟨es, clock, hb, r⟩, e⟩ := h
  exact ⟨D, ⟨es, clock, (hk.block b (Array.getElem?_eq_some_iff.1 hb).1 hn).trans hb, r⟩, e⟩
theorem BMap.lt {w : World} {b n : Nat} {f : Int → Bool} (h : BMap w b n f) : b < w.heap.size := by obtain ⟨D, h, _⟩ := h; exact h.lt
theorem BMap.mono {w : World} {b n n' : Nat} {f : Int → Bool} (h : BMap w b n f) (hn : n ≤ n') : BMap w b n' f := by obtain ⟨D, h, e⟩ := h; exact ⟨D, h.mono hn, e⟩
theorem BMap.made (w : World) : BMap (w.alloc (.map #[] 0)) w.heap.size 0 (fun _ => false) := ⟨_, World.ownsMap_made w _ _ _, fun _ => rfl⟩
theorem BMap.look {w : World} {b n : Nat} {f : Int → Bool} (h : BMap w b n f) {x : Int} (h1 : -9223372036854775808 ≤ x) (h2 : x ≤ 9223372036854775807) :
    (Instr.lookup 89 (.map (some b)) (.int .i64 x) false).run Tryz.prog w = .ok (.bool (f x)) w := by
  obtain ⟨D, h, e⟩ := h
  obtain ⟨v, ps, hrun, hv⟩ := h.lookup keyed3 Tryz.underlying89 (z := .bool false) (zd := .lit (.bool false)) (zp := []) (Tryz.zeroValue4 w) (plainElem_bool Tryz.underlying4 false) (Maps.keyOf_int_mk Tryz.underlying3 (wfZ h1 h2))
  obtain ⟨a, rfl, hz⟩ := plainElem_bool_inv hv
  rw [e x] at hz
  simp only [Prod.mk.injEq, DataW.lit.injEq, Lit.bool.injEq] at hz
  rw [hz.1]
  exact hrun
theorem BMap.upd {w : World} {b n : Nat} {f : Int → Bool} (h : BMap w b n f) {x : Int} (v : Bool) (h1 : -9223372036854775808 ≤ x) (h2 : x ≤ 9223372036854775807) (hn : n < maxLen) :
    ∃ w', (Instr.mapUpdate 89 (.map (some b)) (.int .i64 x) (.bool v)).run Tryz.prog w = .ok () w' ∧ BMap w' b (n + 1) (fun y => if y = x then v else f y) ∧ Keeps [b] w w' := by
  obtain ⟨D, h, e⟩ := h
  have hk := Maps.keyOf_int_mk (P := Tryz.prog) Tryz.underlying3 (wfZ h1 h2)
  obtain ⟨w', hrun, h', hg⟩ := h.update keyed3 Tryz.underlying89 hn hk (plainElem_bool Tryz.underlying4 v)
  refine ⟨w', hrun, ⟨_, h', fun y => ?_⟩, (Keeps.refl _ w).grown hg (fun g hx => .inl (by cases hx; simp))⟩
  dsimp only
  by_cases hy : y = x
  · subst hy
    rw [if_pos rfl, Maps.atKey_put_same h.isMap (by trivial)]
  · rw [if_neg hy, Maps.atKey_put_other (fun hc => hy (by injection hc)), e y]
theorem wpList_updB {ops : Array Oper} {rest : List Oper} {o : Oper} {a : Act} {w : World} {Q : Exit → Act → World → Prop} (hg : o.guard = none) (hd : o.dst = none) (mo xo vo : Operand) (hop : o.op = Op.mapUpdate 89 mo xo vo)
    (b n : Nat) (f : Int → Bool) (hm : a.eval mo = .map (some b)) (h : BMap w b n f) (hn : n < maxLen) (x : Int) (v : Bool) (hx : a.eval xo = .int .i64 x) (hv : a.eval vo = .bool v)
    (h1 : -9223372036854775808 ≤ x) (h2 : x ≤ 9223372036854775807)
    (hK : ∀ w', BMap w' b (n + 1) (fun y => if y = x then v else f y) → Keeps [b] w w' → wpList Tryz.prog ops Q rest a w') : wpList Tryz.prog ops Q (o :: rest) a w := by
  refine wpList_plain hg fun K' hK' => ?_
  obtain ⟨w', hrun, h', hk⟩ := h.upd v h1 h2 hn
  unfold Oper.wp
  simp [execOp, hop, hm, hx, hv, hrun, Result.andThen]
  refine hK' _ _ ?_
  rw [hd]
  exact hK w' h' hk
/-- The items are right. -/
def okN (n : Int) : Bool := decide (1 ≤ n) && decide (n ≤ 1099511627776)
def rightB : (Int → Bool) → List Int → Bool
  | _, [] => true
  | f, x :: r => okN x && !f x && rightB (fun y => if y = x then true else f y) r
def rightL (L : List Int) : Bool := rightB (fun _ => false) L && decide (L.length ≤ 500)
theorem rightB_drop {L : List Int} {f : Int → Bool} {k : Nat} (hk : k < L.length) : rightB f (L.drop k) = (okN L[k] && !f L[k] && rightB (fun y => if y = L[k] then true else f y) (L.drop (k + 1))) := by
  rw [List.drop_eq_getElem_cons hk]; rfl
set_option maxRecDepth 100000 in
set_option maxHeartbeats 3200000 in
theorem right_any (w : World) (A : Option Addr) (L : List Int) (c : Nat) (ha : AtZ w A L) (hr : ∀ x ∈ L, -9223372036854775808 ≤ x ∧ x ≤ 9223372036854775807) :
    Calls Tryz.prog 22 #[.slice A L.length c] w fun e w' => e = .returned (.bool (rightL L)) ∧ Keeps [] w w' := by
  have hm := ha.mx
  have HH := Lib.hid ha
  have HR := Lib.hid hr
  obtain ⟨V, hV⟩ : ∃ V, rightL L = V := ⟨_, rfl⟩
  rw [hV]
  have HV := Lib.hid hV
  have hmm := @run_makeMap Tryz.prog
  have HM := Lib.hid (BMap.made w)
  have K0 : Hid (Keeps [] w (w.alloc (.map #[] 0))) := Lib.hid ((Keeps.refl [] w).alloc _)
  clear ha hV hr
  go_enter Tryz.func22, Tryz.ntmps22
  go_wp2_with fail
  clear hmm
  go_loopw [9] (fun iv wr => ∃ (k : Nat) (f : Int → Bool), k ≤ L.length ∧ iv = .int .i64 k ∧ BMap wr w.heap.size k f ∧ rightB (fun _ => false) L = rightB f (L.drop k) ∧ Keeps [] w wr) (fun iv _ => L.length - (intOf iv).toNat)
  case atStart => exact ⟨0, _, by omega, rfl, HM.out, by rw [List.drop_zero], K0.out⟩
  case round =>
    obtain ⟨k, f, hk, rfl, hB, hrb, kp⟩ := hrel
    have HB := Lib.hid hB
    have HRB := Lib.hid hrb
    have KP := Lib.hid kp
    have HA := Lib.hid (HH.out.keep kp)
    clear hB hrb kp K0 HM
    by_cases hlt : k < L.length
    · obtain ⟨bl, off, hAA, hbl, hc⟩ := HA.out.at_ (by omega)
      subst hAA
      have c0 := hc k hlt
      have i0 : (0 : Int) ≤ (k : Int) := by omega
      have i1 : (k : Int) < (L.length : Int) := by omega
      have hrd := HRB.out
      rw [rightB_drop hlt] at hrd
      have hxr := HR.out _ (List.getElem_mem hlt)
      generalize hx : L[k] = x at c0 hrd hxr
      obtain ⟨r1, r2⟩ := hxr
      have hl := HB.out.look r1 r2
      have HRD := Lib.hid hrd
      obtain ⟨fx, hfx⟩ : ∃ fx, f x = fx := ⟨_, rfl⟩
      rw [hfx] at hl
      have HFX := Lib.hid hfx
      clear hc hx hrd hfx HRB
      have hbad : Hid (okN x = false ∨ fx = true → V = false) := Lib.hid (fun h => by
        rw [← HV.out]
        unfold rightL
        rw [HRD.out, HFX.out]
        rcases h with h | h <;> rw [h] <;> simp)
      by_cases e1 : x < 1
      · have eV : V = false := hbad.out (.inl (by unfold okN; rw [decide_eq_false (by omega)]; rfl))
        have HE := Lib.hid eV
        clear eV
        go_wp2_with fail
        go_ret
        rw [HE.out]
        exact ⟨rfl, KP.out⟩
      by_cases e2 : 1099511627776 < x
      · have eV : V = false := hbad.out (.inl (by unfold okN; rw [decide_eq_false (p := x ≤ 1099511627776) (by omega), Bool.and_false]))
        have HE := Lib.hid eV
        clear eV
        go_wp2_with fail
        go_ret
        rw [HE.out]
        exact ⟨rfl, KP.out⟩
      cases fx with
      | true =>
        have eV : V = false := hbad.out (.inr rfl)
        have HE := Lib.hid eV
        clear eV
        go_wp2_with fail
        go_ret
        rw [HE.out]
        exact ⟨rfl, KP.out⟩
      | false =>
        have hok : okN x = true := by unfold okN; rw [decide_eq_true (by omega), decide_eq_true (by omega)]; rfl
        have HRN : Hid (rightB (fun _ => false) L = rightB (fun y => if y = x then true else f y) (L.drop (k + 1))) := Lib.hid (by rw [HRD.out, hok, HFX.out]; rfl)
        clear hok HRD hbad
        go_wp2_with (refine wpList_updB rfl rfl _ _ _ rfl w.heap.size k f rfl HB.out (by unfold maxLen; omega) x true rfl rfl r1 r2 ?_; intro w2 hb2 k2)
        have HB2 := Lib.hid hb2
        have K2 : Hid (Keeps [] w w2) := Lib.hid (KP.out.trans k2 (by simp))
        clear hb2 k2
        go_wp2_with fail
        go_roundw
        case rel => exact ⟨k + 1, _, by omega, by go_num, HB2.out, HRN.out, K2.out⟩
        case measure => simp [intOf]; omega
    · obtain rfl : k = L.length := by omega
      have hrd := HRB.out
      rw [List.drop_length] at hrd
      have eV : V = decide (L.length ≤ 500) := by rw [← HV.out]; unfold rightL; rw [hrd]; rfl
      have HE := Lib.hid eV
      clear eV hrd
      go_wp2_with fail
      go_ret
      rw [HE.out]
      exact ⟨ret_bool (by simp; omega), KP.out⟩
end Go.Proofs.YtcopjjokhjealaaGreat
