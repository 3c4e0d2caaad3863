/- TlbTells: the walk. -/
import Derived.Test.YtkfcoemdpcjhfaaE5
import Derived.Test.YtkfcoemdpcjhfaaT2
namespace Go.Proofs.Ytkfcoemdpcjhfaa
open Go.RowKit

/-- What holds at the head of each round. -/
structure TInv (w wr : World) (F G X Y : List Nat) (p q x y : Nat) (s r t : Tl) : Prop where
  rx : TlRep 49 wr F p s
  ry : TlRep 46 wr G q r
  rz : TlRep 49 wr X x t
  rw : TlRep 46 wr Y y t
  d1 : ∀ g ∈ F, g ∉ G
  d2 : ∀ g ∈ F, g ∉ X
  d3 : ∀ g ∈ F, g ∉ Y
  d4 : ∀ g ∈ G, g ∉ X
  d5 : ∀ g ∈ G, g ∉ Y
  kp : Keeps [] w wr
  fF : ∀ g ∈ F, w.heap.size ≤ g
  fG : ∀ g ∈ G, w.heap.size ≤ g
section
variable {w wr w1 w2 : World} {F G X Y X' Y' : List Nat} {p q x y x' y' : Nat} {s r t s' : Tl}
theorem TInv.keep (I : TInv w wr F G X Y p q x y s r t) (hk : Keeps [] wr w1) : TInv w w1 F G X Y p q x y s r t :=
  ⟨I.rx.keep hk (by simp), I.ry.keep hk (by simp), I.rz.keep hk (by simp), I.rw.keep hk (by simp), I.d1, I.d2, I.d3, I.d4, I.d5, I.kp.trans hk (by simp), I.fF, I.fG⟩
theorem TInv.copied (I : TInv w wr F G X Y p q x y s s t)
    (h1 : TlRep 49 w1 X' x' s) (k1 : Keeps [] wr w1) (n1 : ∀ g ∈ X', wr.heap.size ≤ g) (h2 : TlRep 46 w2 Y' y' s) (k2 : Keeps [] w1 w2) (n2 : ∀ g ∈ Y', w1.heap.size ≤ g) :
    TInv w w2 F G X' Y' p q x' y' s s s := by
  have kk := k1.trans k2 (by simp)
  have lF := I.rx.lt
  have lG := I.ry.lt
  refine ⟨I.rx.keep kk (by simp), I.ry.keep kk (by simp), h1.keep k2 (by simp), h2, I.d1, ?_, ?_, ?_, ?_, I.kp.trans kk (by simp), I.fF, I.fG⟩
  · intro g hg h; have := lF g hg; have := n1 g h; omega
  · intro g hg h; have := lF g hg; have := n2 g h; have := k1.size; omega
  · intro g hg h; have := lG g hg; have := n1 g h; omega
  · intro g hg h; have := lG g hg; have := n2 g h; have := k1.size; omega
theorem TInv.stepX (I : TInv w wr F G X Y p q x y s r t) (h : Next 49 wr w1 F p s') : ∃ F', TInv w w1 F' G X Y p q x y s' r t := by
  obtain ⟨F', h1, hk, hf⟩ := h
  have n1 : ∀ {H : List Nat}, (∀ g ∈ F, g ∉ H) → (∀ g ∈ H, g < wr.heap.size) → ∀ g ∈ F', g ∉ H := fun hd hl g hg hh => (hf g hg).elim (fun h => hd g h hh) (fun h => by have := hl g hh; omega)
  exact ⟨F', h1, I.ry.keep hk (fun g hg hx => I.d1 g hx hg), I.rz.keep hk (fun g hg hx => I.d2 g hx hg), I.rw.keep hk (fun g hg hx => I.d3 g hx hg), n1 I.d1 I.ry.lt, n1 I.d2 I.rz.lt, n1 I.d3 I.rw.lt, I.d4, I.d5,
    I.kp.trans hk (fun g hg => .inr (I.fF g hg)), fun g hg => (hf g hg).elim (I.fF g) (fun h => Nat.le_trans I.kp.size h), I.fG⟩
theorem TInv.stepY (I : TInv w wr F G X Y p q x y s r t) (h : Next 46 wr w1 G q s') : ∃ G', TInv w w1 F G' X Y p q x y s s' t ∧ Keeps G wr w1 := by
  obtain ⟨G', h1, hk, hf⟩ := h
  have n1 : ∀ {H : List Nat}, (∀ g ∈ G, g ∉ H) → (∀ g ∈ H, g < wr.heap.size) → ∀ g ∈ G', g ∉ H := fun hd hl g hg hh => (hf g hg).elim (fun h => hd g h hh) (fun h => by have := hl g hh; omega)
  exact ⟨G', ⟨I.rx.keep hk I.d1, h1, I.rz.keep hk (fun g hg hx => I.d4 g hx hg), I.rw.keep hk (fun g hg hx => I.d5 g hx hg),
    fun g hg hx => (hf g hx).elim (fun h => I.d1 g hg h) (fun h => by have := I.rx.lt g hg; omega), I.d2, I.d3, n1 I.d4 I.rz.lt, n1 I.d5 I.rw.lt,
    I.kp.trans hk (fun g hg => .inr (I.fG g hg)), I.fF, fun g hg => (hf g hg).elim (I.fG g) (fun h => Nat.le_trans I.kp.size h)⟩, hk⟩
end

set_option maxRecDepth 100000 in
set_option maxHeartbeats 6400000 in
theorem tells_out (w : World) (nn : Int) (A : Option Addr) (m c : Nat) (at_ : Int) (hz1 : -9223372036854775808 ≤ nn) (hz2 : nn ≤ 9223372036854775807) (hm : m ≤ 9223372036854775807) (g1 : 40 < nn ∨ 120 < m) :
    Calls Try.prog 6 #[.int .i64 nn, .slice A m c, .int .i64 at_] w fun e w' => e = .returned (.bool true) ∧ Keeps [] w w' := by
  by_cases a1 : 40 < nn
  · clear g1
    go_enter Try.func6, Try.ntmps6
    go_wp2_with fail
    refine (small_any _).mono ?_
    rintro e w1 ⟨rfl, k1⟩
    go_wp2_with fail
    refine (new_any _ nn hz1 hz2).mono ?_
    rintro e w2 ⟨F, p, rfl, r2, k2, f2⟩
    go_wp2_with fail
    refine (rnew_any _ nn hz1 hz2).mono ?_
    rintro e w3 ⟨G, q, rfl, r3, k3, f3⟩
    go_wp2
    go_ret
    exact ⟨rfl, (k1.trans k2 (by simp)).trans k3 (by simp)⟩
  have a3 : 120 < m := by omega
  clear g1
  go_enter Try.func6, Try.ntmps6
  go_wp2_with fail
  refine (small_any _).mono ?_
  rintro e w1 ⟨rfl, k1⟩
  go_wp2_with fail
  refine (new_any _ nn hz1 hz2).mono ?_
  rintro e w2 ⟨F, p, rfl, r2, k2, f2⟩
  go_wp2_with fail
  refine (rnew_any _ nn hz1 hz2).mono ?_
  rintro e w3 ⟨G, q, rfl, r3, k3, f3⟩
  go_wp2
  go_ret
  exact ⟨rfl, (k1.trans k2 (by simp)).trans k3 (by simp)⟩

set_option maxRecDepth 100000 in
set_option maxHeartbeats 6400000 in
theorem tells_any (w : World) (nn : Int) (A : Option Addr) (m c : Nat) (d : Nat → Int) (en : Nat → En) (at_ : Int) (hm : m ≤ 9223372036854775807) (hz1 : -9223372036854775808 ≤ nn) (hz2 : nn ≤ 9223372036854775807)
    (hA : 0 < m → ∃ bl off, A = some ⟨bl, off, none⟩ ∧ ActsAt w bl off m d en) :
    Calls Try.prog 6 #[.int .i64 nn, .slice A m c, .int .i64 at_] w fun e w' => e = .returned (.bool true) ∧ Keeps [] w w' := by
  by_cases g1 : 40 < nn ∨ 120 < m
  · exact tells_out w nn A m c at_ hz1 hz2 hm g1
  have b2 : nn ≤ 40 := by omega
  have b3 : m ≤ 120 := by omega
  clear g1 hm
  go_enter Try.func6, Try.ntmps6
  go_wp2_with fail
  refine (small_any _).mono ?_
  rintro e w1 ⟨rfl, k1⟩
  go_wp2_with fail
  refine (new_any _ nn hz1 hz2).mono ?_
  rintro e w2 ⟨F, p, rfl, r2, k2, f2⟩
  go_wp2_with fail
  refine (rnew_any _ nn hz1 hz2).mono ?_
  rintro e w3 ⟨G, q, rfl, r3, k3, f3⟩
  have hN : nn.toNat ≤ 40 := by omega
  have h1000 : (⟨nn.toNat, []⟩ : Tl).n ≤ 1000 := by show nn.toNat ≤ 1000; omega
  have rx3 := r2.keep k3 (by simp)
  have dFG : ∀ g ∈ F, g ∉ G := fun g hf hg => by have := r2.lt g hf; have := f3 g hg; omega
  have hFw : ∀ g ∈ F, w.heap.size ≤ g := fun g hg => Nat.le_trans k1.size (f2 g hg)
  have hGw : ∀ g ∈ G, w.heap.size ≤ g := fun g hg => Nat.le_trans k1.size (Nat.le_trans k2.size (f3 g hg))
  have K3 : Keeps [] w w3 := (k1.trans k2 (by simp)).trans k3 (by simp)
  clear k1 k2 k3 r2 f2 f3
  go_wp2_with fail
  refine (copy_any _ F p _ h1000 rx3).mono ?_
  rintro e w4 ⟨X, x, rfl, r4, k4, n4⟩
  go_wp2_with fail
  refine (rcopy_any _ G q _ h1000 (r3.keep k4 (by simp))).mono ?_
  rintro e w5 ⟨Y, y, rfl, r5, k5, n5⟩
  have I0 : TInv w w5 F G X Y p q x y ⟨nn.toNat, []⟩ ⟨nn.toNat, []⟩ ⟨nn.toNat, []⟩ := by
    have lF := rx3.lt
    have lG := r3.lt
    have kk := k4.trans k5 (by simp)
    refine ⟨rx3.keep kk (by simp), r3.keep kk (by simp), r4.keep k5 (by simp), r5, dFG, ?_, ?_, ?_, ?_, K3.trans kk (by simp), hFw, hGw⟩
    · intro g hg h; have := lF g hg; have := n4 g h; omega
    · intro g hg h; have := lF g hg; have := n5 g h; have := k4.size; omega
    · intro g hg h; have := lG g hg; have := n4 g h; omega
    · intro g hg h; have := lG g hg; have := n5 g h; have := k4.size; omega
  clear rx3 r3 r4 r5 k4 k5 n4 n5 K3 dFG hFw hGw h1000
  generalize nn.toNat = N at *
  go_wp2_with fail
  go_loopw [10, 11, 12] (fun z v i wr => ∃ (k : Nat) (s t : Tl) (F G X Y : List Nat) (x y : Nat), k ≤ m ∧ i = .int .i64 k ∧ z = .pointer (some ⟨x, 0, none⟩) ∧ v = .pointer (some ⟨y, 0, none⟩) ∧ TInv w wr F G X Y p q x y s s t ∧ s.n ≤ 40 ∧ t.n ≤ 40 ∧ Nd s.L) (fun _ _ i _ => m - (intOf i).toNat)
  case atStart => exact ⟨0, _, _, F, G, X, Y, x, y, by omega, rfl, rfl, rfl, I0, hN, hN, List.Pairwise.nil⟩
  case round =>
    clear I0
    obtain ⟨k, s, t, F, G, X, Y, x, y, hk, rfl, rfl, rfl, I, hs40, ht40, hnd⟩ := hrel
    by_cases hlt : k < m
    rotate_left
    · have kd : Keeps [] wr wr.drew := (Keeps.refl [] wr).drew
      have j3 := I.rz.keep kd (by simp)
      obtain ⟨Ay, cy, gy⟩ := I.rw
      have j5 : wr.drew.cell? ⟨y, 1, none⟩ = some (.slice Ay t.L.length cy) := gy.b.cell 1
      have HI := Lib.hid I.kp
      have HY := Lib.hid gy
      have ht1000 : t.n ≤ 1000 := by omega
      clear I hA gy
      go_wp2_with fail
      go_region_held3 (fun w' => TlRep 49 w' X x t ∧ w'.cell? ⟨y, 1, none⟩ = some (.slice Ay t.L.length cy) ∧ Keeps [] wr w')
        (first
          | exact ⟨j3, j5, kd⟩
          | (go_split_ands; exact ⟨by assumption, by assumption, by assumption⟩))
        ((first
          | (go_split_ands; go_at_call 12; refine (list_any _ X x t ht1000 (by assumption)).mono ?_; rintro e w8 ⟨v1, rfl, o1, k8, -⟩; have m3 := TlRep.keep (T := 49) (F := X) (p := x) (s := t) (by assumption) k8 (by simp); have m6 := Keeps.trans (F := []) (a := wr) (by assumption) k8 (by simp); have m8 := (HY.out.b.keep m6 (by simp)).cell 1)
          | (go_split_ands; go_at_call 18; refine (same_any _ _ _ _ o1 (own_keep HY.out.o (by assumption) (by simp))).mono ?_; rintro e w10 ⟨rfl, k10⟩; have m3 := TlRep.keep (T := 49) (F := X) (p := x) (s := t) (by assumption) k10 (by simp); have m6 := Keeps.trans (F := []) (a := wr) (by assumption) k10 (by simp); have m8 := (HY.out.b.keep m6 (by simp)).cell 1)))
      go_wp2
      go_ret
      go_split_ands
      exact ⟨rfl, HI.out.trans (G := []) (by assumption) (by simp)⟩
    obtain ⟨bl, off, rfl, O⟩ := hA (by omega)
    clear hA
    have hx := fun W F (h : TlRep 49 W F p s) => do_any W F p s (d k) (en k) (by omega) h
    have hy := fun W G (h : TlRep 46 W G q s) => rmodel_any W G q s (d k) (en k) (by omega) hnd h
    have hnd' : Nd (s.op (d k) (en k)).L := hnd.op _ _
    have hs0 := hs40
    rw [← op_n s (d k) (en k)] at hs40
    have HX := Lib.hid hx
    have HY := Lib.hid hy
    clear hx hy
    generalize s.op (d k) (en k) = s' at *
    generalize s.opR (d k) (en k) = R at *
    obtain ⟨R1, R2⟩ := R
    have hs1000 : s'.n ≤ 1000 := by omega
    have hs1001 : s.n ≤ 1000 := by omega
    by_cases ha : (k : Int) = at_
    · have ta : ((k : Int) == at_) = true := by simp [ha]
      clear ha
      go_wp2_with fail
      refine (copy_any _ F p s hs1001 I.rx).mono ?_
      rintro e wa ⟨X', x', rfl, ra, ka, na⟩
      go_wp2_with fail
      refine (rcopy_any _ G q s hs1001 (I.ry.keep ka (by simp))).mono ?_
      rintro e wb ⟨Y', y', rfl, rb, kb, nb⟩
      have I2 := I.copied ra ka na rb kb nb
      clear I ra ka na rb kb nb
      have I := I2
      clear I2
      have O1 := O.keep I.kp
      have q0 := O1.c0 k hlt
      have q1 := O1.c1 k hlt
      have q2 := O1.c2 k hlt
      have q3 := O1.c3 k hlt
      have q4 := O1.c4 k hlt
      clear O1
      go_wp2_with fail
      refine (HX.out _ _ I.rx).mono ?_
      rintro e w6 ⟨rfl, n6⟩
      obtain ⟨F', I6⟩ := I.stepX n6
      have O1 := O.keep I6.kp
      have q0 := O1.c0 k hlt
      have q1 := O1.c1 k hlt
      have q2 := O1.c2 k hlt
      have q3 := O1.c3 k hlt
      have q4 := O1.c4 k hlt
      clear O1 n6 I
      go_wp2_with fail
      refine (HY.out _ _ I6.ry).mono ?_
      rintro e w7 ⟨rfl, n7⟩
      obtain ⟨G', I8, k8⟩ := I6.stepY n7
      have kd : Keeps [] w7 w7.drew := (Keeps.refl [] w7).drew
      have j1 := I8.rx.keep kd (by simp)
      obtain ⟨Aq, cq, gq⟩ := I8.ry
      have j5 : w7.drew.cell? ⟨q, 1, none⟩ = some (.slice Aq s'.L.length cq) := gq.b.cell 1
      have HI := Lib.hid I8
      have HQ := Lib.hid gq
      clear n7 I8 k8 I6 q0 q1 q2 q3 q4 gq
      go_wp2_with fail
      go_region_held3 (fun w' => TlRep 49 w' F' p s' ∧ w'.cell? ⟨q, 1, none⟩ = some (.slice Aq s'.L.length cq) ∧ Keeps [] w7 w')
        (first
          | exact ⟨j1, j5, kd⟩
          | (go_split_ands; exact ⟨by assumption, by assumption, by assumption⟩))
        ((first
          | (go_split_ands; go_at_call 12; refine (list_any _ F' p s' hs1000 (by assumption)).mono ?_; rintro e w8 ⟨v1, rfl, o1, k8, -⟩; have m1 := TlRep.keep (T := 49) (F := F') (p := p) (s := s') (by assumption) k8 (by simp); have m6 := Keeps.trans (F := []) (a := w7) (by assumption) k8 (by simp); have m7 := (HQ.out.b.keep m6 (by simp)).cell 1)
          | (go_split_ands; go_at_call 18; refine (same_any _ _ _ _ o1 (own_keep HQ.out.o (by assumption) (by simp))).mono ?_; rintro e w10 ⟨rfl, k10⟩; have m1 := TlRep.keep (T := 49) (F := F') (p := p) (s := s') (by assumption) k10 (by simp); have m6 := Keeps.trans (F := []) (a := w7) (by assumption) k10 (by simp); have m7 := (HQ.out.b.keep m6 (by simp)).cell 1)))
      go_wp2
      go_roundw
      case rel =>
        go_split_ands
        exact ⟨k + 1, s', s, F', G', X', Y', x', y', by omega, by go_num, rfl, rfl, HI.out.keep (by assumption), hs40, hs0, hnd'⟩
      case measure => simp [intOf]; omega
    · have ta : ((k : Int) == at_) = false := by simp [ha]
      clear ha
      have O1 := O.keep I.kp
      have q0 := O1.c0 k hlt
      have q1 := O1.c1 k hlt
      have q2 := O1.c2 k hlt
      have q3 := O1.c3 k hlt
      have q4 := O1.c4 k hlt
      clear O1
      go_wp2_with fail
      refine (HX.out _ _ I.rx).mono ?_
      rintro e w6 ⟨rfl, n6⟩
      obtain ⟨F', I6⟩ := I.stepX n6
      have O1 := O.keep I6.kp
      have q0 := O1.c0 k hlt
      have q1 := O1.c1 k hlt
      have q2 := O1.c2 k hlt
      have q3 := O1.c3 k hlt
      have q4 := O1.c4 k hlt
      clear O1 n6 I
      go_wp2_with fail
      refine (HY.out _ _ I6.ry).mono ?_
      rintro e w7 ⟨rfl, n7⟩
      obtain ⟨G', I8, k8⟩ := I6.stepY n7
      have kd : Keeps [] w7 w7.drew := (Keeps.refl [] w7).drew
      have j1 := I8.rx.keep kd (by simp)
      obtain ⟨Aq, cq, gq⟩ := I8.ry
      have j5 : w7.drew.cell? ⟨q, 1, none⟩ = some (.slice Aq s'.L.length cq) := gq.b.cell 1
      have HI := Lib.hid I8
      have HQ := Lib.hid gq
      clear n7 I8 k8 I6 q0 q1 q2 q3 q4 gq
      go_wp2_with fail
      go_region_held3 (fun w' => TlRep 49 w' F' p s' ∧ w'.cell? ⟨q, 1, none⟩ = some (.slice Aq s'.L.length cq) ∧ Keeps [] w7 w')
        (first
          | exact ⟨j1, j5, kd⟩
          | (go_split_ands; exact ⟨by assumption, by assumption, by assumption⟩))
        ((first
          | (go_split_ands; go_at_call 12; refine (list_any _ F' p s' hs1000 (by assumption)).mono ?_; rintro e w8 ⟨v1, rfl, o1, k8, -⟩; have m1 := TlRep.keep (T := 49) (F := F') (p := p) (s := s') (by assumption) k8 (by simp); have m6 := Keeps.trans (F := []) (a := w7) (by assumption) k8 (by simp); have m7 := (HQ.out.b.keep m6 (by simp)).cell 1)
          | (go_split_ands; go_at_call 18; refine (same_any _ _ _ _ o1 (own_keep HQ.out.o (by assumption) (by simp))).mono ?_; rintro e w10 ⟨rfl, k10⟩; have m1 := TlRep.keep (T := 49) (F := F') (p := p) (s := s') (by assumption) k10 (by simp); have m6 := Keeps.trans (F := []) (a := w7) (by assumption) k10 (by simp); have m7 := (HQ.out.b.keep m6 (by simp)).cell 1)))
      go_wp2
      go_roundw
      case rel =>
        go_split_ands
        exact ⟨k + 1, s', t, F', G', X, Y, x, y, by omega, by go_num, rfl, rfl, HI.out.keep (by assumption), hs40, ht40, hnd'⟩
      case measure => simp [intOf]; omega
end Go.Proofs.Ytkfcoemdpcjhfaa
