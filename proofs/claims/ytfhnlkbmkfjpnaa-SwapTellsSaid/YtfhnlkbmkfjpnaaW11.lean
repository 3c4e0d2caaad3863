/- SwapTells: the walk. -/
import Derived.Test.YtfhnlkbmkfjpnaaR2
import Derived.Test.YtfhnlkbmkfjpnaaW9
namespace Go.Proofs.Ytfhnlkbmkfjpnaa
open Go.RowKit

theorem RfRep.ret {w : World} {F : List Nat} {p : Nat} {s : Sw} (h : RfRep w F p s) : w.cell? ⟨p, 2, none⟩ = some (.int .i64 s.ret) := by
  obtain ⟨A, c, h⟩ := h
  exact h.b.cell 2

/-- What holds at the head of each round. -/
structure TellsInv (w wr : World) (F G X Y : List Nat) (p q x y : Nat) (s t : Sw) (k : Nat) : Prop where
  rx : SwRep wr F p s
  ry : RfRep wr G q s
  rz : SwRep wr X x t
  rw : RfRep wr Y y t
  d1 : ∀ g ∈ F, g ∉ G
  d2 : ∀ g ∈ F, g ∉ X
  d3 : ∀ g ∈ F, g ∉ Y
  d4 : ∀ g ∈ G, g ∉ X
  d5 : ∀ g ∈ G, g ∉ Y
  kp : Keeps [] w wr
  fF : ∀ g ∈ F, w.heap.size ≤ g
  fG : ∀ g ∈ G, w.heap.size ≤ g
  rt : s.ret ≤ 1000 * k

theorem TellsInv.keep {w wr w1 : World} {F G X Y : List Nat} {p q x y : Nat} {s t : Sw} {k : Nat} (I : TellsInv w wr F G X Y p q x y s t k) (hk : Keeps [] wr w1) : TellsInv w w1 F G X Y p q x y s t k :=
  ⟨I.rx.keep hk (by simp), I.ry.keep hk (by simp), I.rz.keep hk (by simp), I.rw.keep hk (by simp), I.d1, I.d2, I.d3, I.d4, I.d5, I.kp.trans hk (by simp), I.fF, I.fG, I.rt⟩
theorem TellsInv.copied {w wr w1 w2 : World} {F G X Y X' Y' : List Nat} {p q x y x' y' : Nat} {s t : Sw} {k : Nat} (I : TellsInv w wr F G X Y p q x y s t k)
    (h1 : SwRep w1 X' x' s) (k1 : Keeps [] wr w1) (n1 : ∀ g ∈ X', wr.heap.size ≤ g) (h2 : RfRep w2 Y' y' s) (k2 : Keeps [] w1 w2) (n2 : ∀ g ∈ Y', w1.heap.size ≤ g) :
    TellsInv w w2 F G X' Y' p q x' y' s s k := by
  have kk := k1.trans k2 (by simp)
  have lF := I.rx.lt
  have lG := I.ry.lt
  refine ⟨I.rx.keep kk (by simp), I.ry.keep kk (by simp), h1.keep k2 (by simp), h2, I.d1, ?_, ?_, ?_, ?_, I.kp.trans kk (by simp), I.fF, I.fG, I.rt⟩
  · intro g hg h; have := lF g hg; have := n1 g h; omega
  · intro g hg h; have := lF g hg; have := n2 g h; have := k1.size; omega
  · intro g hg h; have := lG g hg; have := n1 g h; omega
  · intro g hg h; have := lG g hg; have := n2 g h; have := k1.size; omega
theorem TellsInv.stepped {w wr w1 w2 : World} {F G X Y : List Nat} {p q x y : Nat} {s s' t : Sw} {k : Nat} (I : TellsInv w wr F G X Y p q x y s t k)
    (h1 : SwRep w1 F p s') (k1 : Keeps F wr w1) (h2 : RfRep w2 G q s') (k2 : Keeps G w1 w2) (hr : s'.ret ≤ s.ret + 1000) : TellsInv w w2 F G X Y p q x y s' t (k + 1) :=
  ⟨h1.keep k2 I.d1, h2, (I.rz.keep k1 (fun g hg hf => I.d2 g hf hg)).keep k2 (fun g hg hf => I.d4 g hf hg), (I.rw.keep k1 (fun g hg hf => I.d3 g hf hg)).keep k2 (fun g hg hf => I.d5 g hf hg),
    I.d1, I.d2, I.d3, I.d4, I.d5, (I.kp.trans k1 (fun g hg => .inr (I.fF g hg))).trans k2 (fun g hg => .inr (I.fG g hg)), I.fF, I.fG, by have := I.rt; omega⟩

set_option maxRecDepth 100000 in
set_option maxHeartbeats 4000000 in
theorem tells_any (w : World) (slots at_ : Int) (A : Option Addr) (n c : Nat) (d m b : Nat → Int) (hn : n ≤ 9223372036854775807)
    (hA : 0 < n → ∃ bl off, A = some ⟨bl, off, none⟩ ∧ OpsAt w bl off n d m b) :
    Calls Try.prog 6 #[.int .i64 slots, .slice A n c, .int .i64 at_] w fun e w' => e = .returned (.bool true) ∧ Keeps [] w w' := by
  by_cases g1 : 100 < n
  · go_enter Try.func6, Try.ntmps6
    go_wp2_with fail
    refine (small_any _).mono ?_
    rintro e w1 ⟨rfl, k1⟩
    go_wp2
    go_ret
    exact ⟨rfl, k1⟩
  go_enter Try.func6, Try.ntmps6
  go_wp2_with fail
  refine (small_any _).mono ?_
  rintro e w1 ⟨rfl, k1⟩
  go_wp2_with fail
  refine (new_any _ slots).mono ?_
  rintro e w2 ⟨F, p, rfl, r2, k2, hF⟩
  go_wp2_with fail
  refine (rnew_any _ slots).mono ?_
  rintro e w3 ⟨G, q, rfl, r3, k3, hG⟩
  generalize List.replicate (max 0 (min slots 4096)).toNat E0 = L0 at *
  have rx3 := r2.keep k3 (by simp)
  have dFG : ∀ g ∈ F, g ∉ G := fun g hf hg => by have := r2.lt g hf; have := hG g hg; omega
  have hFw : ∀ g ∈ F, w.heap.size ≤ g := fun g hg => Nat.le_trans k1.size (hF g hg)
  have hGw : ∀ g ∈ G, w.heap.size ≤ g := fun g hg => Nat.le_trans k1.size (Nat.le_trans k2.size (hG g hg))
  have K3 : Keeps [] w w3 := (k1.trans k2 (by simp)).trans k3 (by simp)
  clear k1 k2 k3 r2 hF hG
  go_wp2_with fail
  refine (copy_any _ F p _ rx3).mono ?_
  rintro e w4 ⟨X, x, rfl, r4, k4, n4⟩
  go_wp2_with fail
  refine (rcopy_any _ G q _ (r3.keep k4 (by simp))).mono ?_
  rintro e w5 ⟨Y, y, rfl, r5, k5, n5⟩
  have I0 : TellsInv w w5 F G X Y p q x y ⟨L0, 0, 0⟩ ⟨L0, 0, 0⟩ 0 := by
    have lF := rx3.lt
    have lG := r3.lt
    have kk := k4.trans k5 (by simp)
    refine ⟨rx3.keep kk (by simp), r3.keep kk (by simp), r4.keep k5 (by simp), r5, dFG, ?_, ?_, ?_, ?_, K3.trans kk (by simp), hFw, hGw, by simp⟩
    · intro g hg h; have := lF g hg; have := n4 g h; omega
    · intro g hg h; have := lF g hg; have := n5 g h; have := k4.size; omega
    · intro g hg h; have := lG g hg; have := n4 g h; omega
    · intro g hg h; have := lG g hg; have := n5 g h; have := k4.size; omega
  clear rx3 r3 r4 r5 k4 k5 n4 n5 K3 dFG hFw hGw
  go_wp2_with fail
  go_loopw [10, 11, 12] (fun z v i wr => ∃ (k : Nat) (s t : Sw) (X Y : List Nat) (x y : Nat), k ≤ n ∧ i = .int .i64 k ∧ z = .pointer (some ⟨x, 0, none⟩) ∧ v = .pointer (some ⟨y, 0, none⟩) ∧ TellsInv w wr F G X Y p q x y s t k) (fun _ _ i _ => n - (intOf i).toNat)
  case atStart => exact ⟨0, _, _, X, Y, x, y, by omega, rfl, rfl, rfl, I0⟩
  case round =>
    clear I0
    obtain ⟨k, s, t, X, Y, x, y, hk, rfl, rfl, rfl, I⟩ := hrel
    by_cases hlt : k < n
    rotate_left
    · have j1 := I.rx.keep ((Keeps.refl [] wr).drew) (by simp)
      have j2 := I.ry.keep ((Keeps.refl [] wr).drew) (by simp)
      have j3 := I.rz.keep ((Keeps.refl [] wr).drew) (by simp)
      have j4 := I.rw.keep ((Keeps.refl [] wr).drew) (by simp)
      have j5 := j4.ret
      have j6 : Keeps [] wr wr.drew := (Keeps.refl [] wr).drew
      have HI := Lib.hid I.kp
      clear I hA
      go_wp2_with fail
      go_region_held3 (fun w' => SwRep w' F p s ∧ RfRep w' G q s ∧ SwRep w' X x t ∧ RfRep w' Y y t ∧ w'.cell? ⟨y, 2, none⟩ = some (.int .i64 t.ret) ∧ Keeps [] wr w')
        (first
          | exact ⟨j1, j2, j3, j4, j5, j6⟩
          | (go_split_ands; exact ⟨by assumption, by assumption, by assumption, by assumption, by assumption, by assumption⟩))
        ((first
          | (go_split_ands; go_at_call_of 17 (Value.pointer (some ⟨p, 0, none⟩)); refine (list_any _ F p s (by assumption)).mono ?_; rintro e w8 ⟨v1, rfl, o1, k8, -⟩; have m1 := SwRep.keep (F := F) (p := p) (s := s) (by assumption) k8 (by simp); have m2 := RfRep.keep (F := G) (p := q) (s := s) (by assumption) k8 (by simp); have m3 := SwRep.keep (F := X) (p := x) (s := t) (by assumption) k8 (by simp); have m4 := RfRep.keep (F := Y) (p := y) (s := t) (by assumption) k8 (by simp); have m5 := m4.ret; have m6 := Keeps.trans (F := []) (a := wr) (by assumption) k8 (by simp))
          | (go_split_ands; go_at_call_of 17 (Value.pointer (some ⟨x, 0, none⟩)); refine (list_any _ X x t (by assumption)).mono ?_; rintro e w8 ⟨v1, rfl, o1, k8, -⟩; have m1 := SwRep.keep (F := F) (p := p) (s := s) (by assumption) k8 (by simp); have m2 := RfRep.keep (F := G) (p := q) (s := s) (by assumption) k8 (by simp); have m3 := SwRep.keep (F := X) (p := x) (s := t) (by assumption) k8 (by simp); have m4 := RfRep.keep (F := Y) (p := y) (s := t) (by assumption) k8 (by simp); have m5 := m4.ret; have m6 := Keeps.trans (F := []) (a := wr) (by assumption) k8 (by simp))
          | (go_split_ands; go_at_call_of 23 (Value.pointer (some ⟨q, 0, none⟩)); refine (rlist_any _ G q s (by assumption)).mono ?_; rintro e w9 ⟨v2, rfl, o2, k9, -⟩; have o3 := own_keep o1 k9 (by simp); have m1 := SwRep.keep (F := F) (p := p) (s := s) (by assumption) k9 (by simp); have m2 := RfRep.keep (F := G) (p := q) (s := s) (by assumption) k9 (by simp); have m3 := SwRep.keep (F := X) (p := x) (s := t) (by assumption) k9 (by simp); have m4 := RfRep.keep (F := Y) (p := y) (s := t) (by assumption) k9 (by simp); have m5 := m4.ret; have m6 := Keeps.trans (F := []) (a := wr) (by assumption) k9 (by simp))
          | (go_split_ands; go_at_call_of 23 (Value.pointer (some ⟨y, 0, none⟩)); refine (rlist_any _ Y y t (by assumption)).mono ?_; rintro e w9 ⟨v2, rfl, o2, k9, -⟩; have o3 := own_keep o1 k9 (by simp); have m1 := SwRep.keep (F := F) (p := p) (s := s) (by assumption) k9 (by simp); have m2 := RfRep.keep (F := G) (p := q) (s := s) (by assumption) k9 (by simp); have m3 := SwRep.keep (F := X) (p := x) (s := t) (by assumption) k9 (by simp); have m4 := RfRep.keep (F := Y) (p := y) (s := t) (by assumption) k9 (by simp); have m5 := m4.ret; have m6 := Keeps.trans (F := []) (a := wr) (by assumption) k9 (by simp))
          | (go_split_ands; go_at_call 16; refine (same_any _ _ _ _ _ o3 o2).mono ?_; rintro e w10 ⟨rfl, k10⟩; have m1 := SwRep.keep (F := F) (p := p) (s := s) (by assumption) k10 (by simp); have m2 := RfRep.keep (F := G) (p := q) (s := s) (by assumption) k10 (by simp); have m3 := SwRep.keep (F := X) (p := x) (s := t) (by assumption) k10 (by simp); have m4 := RfRep.keep (F := Y) (p := y) (s := t) (by assumption) k10 (by simp); have m5 := m4.ret; have m6 := Keeps.trans (F := []) (a := wr) (by assumption) k10 (by simp))
          | (go_split_ands; go_at_call 15; refine (retries_any _ X x t (by assumption)).mono ?_; rintro e w8 ⟨rfl, rfl⟩)))
      go_wp2
      go_ret
      go_split_ands
      exact ⟨rfl, HI.out.trans (G := []) (by assumption) (by simp)⟩
    obtain ⟨bl, off, rfl, O⟩ := hA (by omega)
    have hret : s.ret ≤ 1000000000 := by have := I.rt; omega
    have hb0 := (O.rb k hlt).1
    have hb1 := (O.rb k hlt).2
    have O1 := O.keep I.kp
    have q0 := O1.c0 k hlt
    have q1 := O1.c1 k hlt
    have q2 := O1.c2 k hlt
    have dd : s.due ≤ 1000 ∧ 0 ≤ s.due := by obtain ⟨_, _, h⟩ := I.rx; exact ⟨h.d1, h.d0⟩
    have hsr := step_ret (s := s) (d := d k) (m := m k) (b := b k) dd.2 dd.1
    have hx := fun W (h : SwRep W F p s) => do_any W F p s (d k) (m k) (b k) h hret hb0 hb1
    have hy := fun W (h : RfRep W G q s) => model_any W G q s (d k) (m k) (b k) h hret hb0 hb1
    generalize Sw.step s (d k) (m k) (b k) = r at *
    obtain ⟨⟨R1, R2, R3⟩, s'⟩ := r
    simp only [] at hx hy hsr
    have HX := Lib.hid hx
    have HY := Lib.hid hy
    clear hx hy O1
    by_cases ha : (k : Int) = at_
    · have ta : ((k : Int) == at_) = true := by simp [ha]
      clear ha
      go_wp2_with fail
      refine (copy_any _ F p s I.rx).mono ?_
      rintro e wa ⟨X', x', rfl, ra, ka, na⟩
      go_wp2_with fail
      refine (rcopy_any _ G q s (I.ry.keep ka (by simp))).mono ?_
      rintro e wb ⟨Y', y', rfl, rb, kb, nb⟩
      have I2 := I.copied ra ka na rb kb nb
      have O1 := O.keep I2.kp
      have q0 := O1.c0 k hlt
      have q1 := O1.c1 k hlt
      have q2 := O1.c2 k hlt
      clear I ra ka na rb kb nb O1
      have I := I2
      clear I2
      go_wp2_with fail
      refine (HX.out _ I.rx).mono ?_
      rintro e w6 ⟨rfl, r6, k6⟩
      have O1 := O.keep (I.kp.trans k6 (fun g hg => .inr (I.fF g hg)))
      have q0 := O1.c0 k hlt
      have q1 := O1.c1 k hlt
      have q2 := O1.c2 k hlt
      go_wp2_with fail
      refine (HY.out _ (I.ry.keep k6 (fun g hg hf => I.d1 g hf hg))).mono ?_
      rintro e w7 ⟨rfl, r7, k7⟩
      have J := I.stepped r6 k6 r7 k7 hsr
      clear r6 r7 k6 k7 O1 q0 q1 q2
      have j1 := J.rx.keep ((Keeps.refl [] w7).drew) (by simp)
      have j2 := J.ry.keep ((Keeps.refl [] w7).drew) (by simp)
      have j3 := j2.ret
      have j4 : Keeps [] w7 w7.drew := (Keeps.refl [] w7).drew
      have HJ := Lib.hid J
      clear J I
      go_wp2_with fail
      go_region_held3 (fun w' => SwRep w' F p s' ∧ RfRep w' G q s' ∧ w'.cell? ⟨q, 2, none⟩ = some (.int .i64 s'.ret) ∧ Keeps [] w7 w')
        (first
          | exact ⟨j1, j2, j3, j4⟩
          | (go_split_ands; exact ⟨by assumption, by assumption, by assumption, by assumption⟩))
        ((first
          | (go_split_ands; go_at_call 11; refine (used_any _ F p s' (by assumption)).mono ?_; rintro e w8 ⟨rfl, rfl⟩)
          | (go_split_ands; go_at_call 15; refine (retries_any _ F p s' (by assumption)).mono ?_; rintro e w8 ⟨rfl, rfl⟩)
          | (go_split_ands; go_at_call 22; refine (rused_any _ G q s' (by assumption)).mono ?_; rintro e w8 ⟨rfl, k8⟩; have k9 := Lib.hid k8; have m1 := SwRep.keep (F := F) (p := p) (s := s') (by assumption) k8 (by simp); have m2 := RfRep.keep (F := G) (p := q) (s := s') (by assumption) k8 (by simp); have m3 := m2.ret; have m4 := Keeps.trans (F := []) (a := w7) (by assumption) k8 (by simp))))
      go_wp2
      go_roundw
      case rel =>
        go_split_ands
        exact ⟨k + 1, s', s, X', Y', x', y', by omega, by go_num, rfl, rfl, HJ.out.keep (by assumption)⟩
      case measure => simp [intOf]; omega
    · have ta : ((k : Int) == at_) = false := by simp [ha]
      clear ha
      go_wp2_with fail
      refine (HX.out _ I.rx).mono ?_
      rintro e w6 ⟨rfl, r6, k6⟩
      have O1 := O.keep (I.kp.trans k6 (fun g hg => .inr (I.fF g hg)))
      have q0 := O1.c0 k hlt
      have q1 := O1.c1 k hlt
      have q2 := O1.c2 k hlt
      go_wp2_with fail
      refine (HY.out _ (I.ry.keep k6 (fun g hg hf => I.d1 g hf hg))).mono ?_
      rintro e w7 ⟨rfl, r7, k7⟩
      have J := I.stepped r6 k6 r7 k7 hsr
      clear r6 r7 k6 k7 O1 q0 q1 q2
      have j1 := J.rx.keep ((Keeps.refl [] w7).drew) (by simp)
      have j2 := J.ry.keep ((Keeps.refl [] w7).drew) (by simp)
      have j3 := j2.ret
      have j4 : Keeps [] w7 w7.drew := (Keeps.refl [] w7).drew
      have HJ := Lib.hid J
      clear J I
      go_wp2_with fail
      go_region_held3 (fun w' => SwRep w' F p s' ∧ RfRep w' G q s' ∧ w'.cell? ⟨q, 2, none⟩ = some (.int .i64 s'.ret) ∧ Keeps [] w7 w')
        (first
          | exact ⟨j1, j2, j3, j4⟩
          | (go_split_ands; exact ⟨by assumption, by assumption, by assumption, by assumption⟩))
        ((first
          | (go_split_ands; go_at_call 11; refine (used_any _ F p s' (by assumption)).mono ?_; rintro e w8 ⟨rfl, rfl⟩)
          | (go_split_ands; go_at_call 15; refine (retries_any _ F p s' (by assumption)).mono ?_; rintro e w8 ⟨rfl, rfl⟩)
          | (go_split_ands; go_at_call 22; refine (rused_any _ G q s' (by assumption)).mono ?_; rintro e w8 ⟨rfl, k8⟩; have k9 := Lib.hid k8; have m1 := SwRep.keep (F := F) (p := p) (s := s') (by assumption) k8 (by simp); have m2 := RfRep.keep (F := G) (p := q) (s := s') (by assumption) k8 (by simp); have m3 := m2.ret; have m4 := Keeps.trans (F := []) (a := w7) (by assumption) k8 (by simp))))
      go_wp2
      go_roundw
      case rel =>
        go_split_ands
        exact ⟨k + 1, s', t, X, Y, x, y, by omega, by go_num, rfl, rfl, HJ.out.keep (by assumption)⟩
      case measure => simp [intOf]; omega
end Go.Proofs.Ytfhnlkbmkfjpnaa
