/- LinkTells: the walk. -/
import Derived.Test.YtipmhhhhfnpdgaaW7
import Derived.Test.YtipmhhhhfnpdgaaR6
namespace Go.Proofs.Ytipmhhhhfnpdgaa
open Go.RowKit

theorem quiet_left {P : Program} {f : FuncId} {args : Array Value} {w : World} {n : Nat} {v : Value}
    (h : Calls P f args (w.drewN n) fun e w' => e = .returned v ∧ w.drewN n = w') : Calls P f args (w.drewN n) fun e w'' => e = .returned v ∧ ∃ m, w'' = w.drewN m :=
  h.mono fun _ _ ⟨he, hw⟩ => ⟨he, n, hw.symm⟩

/-- What holds at the head of each round. -/
structure TInv (w wr : World) (F G X Y : List Nat) (p q x y : Nat) (s r t : Lk) : Prop where
  rx : LkRep 53 wr F p s
  ry : LkRep 51 wr G q r
  rz : LkRep 53 wr X x t
  rw : LkRep 51 wr Y y t
  d1 : ∀ g ∈ F, g ∉ G
  d2 : ∀ g ∈ F, g ∉ X
  d3 : ∀ g ∈ F, g ∉ Y
  d4 : ∀ g ∈ G, g ∉ X
  d5 : ∀ g ∈ G, g ∉ Y
  kp : Keeps [] w wr
  fF : ∀ g ∈ F, w.heap.size ≤ g
  fG : ∀ g ∈ G, w.heap.size ≤ g
section
variable {w wr w1 w2 : World} {F G X Y X' Y' : List Nat} {p q x y x' y' : Nat} {s r t s' : Lk}
theorem TInv.keep (I : TInv w wr F G X Y p q x y s r t) (hk : Keeps [] wr w1) : TInv w w1 F G X Y p q x y s r t :=
  ⟨I.rx.keep hk (by simp), I.ry.keep hk (by simp), I.rz.keep hk (by simp), I.rw.keep hk (by simp), I.d1, I.d2, I.d3, I.d4, I.d5, I.kp.trans hk (by simp), I.fF, I.fG⟩
theorem TInv.copied (I : TInv w wr F G X Y p q x y s s t)
    (h1 : LkRep 53 w1 X' x' s) (k1 : Keeps [] wr w1) (n1 : ∀ g ∈ X', wr.heap.size ≤ g) (h2 : LkRep 51 w2 Y' y' s) (k2 : Keeps [] w1 w2) (n2 : ∀ g ∈ Y', w1.heap.size ≤ g) :
    TInv w w2 F G X' Y' p q x' y' s s s := by
  have kk := k1.trans k2 (by simp)
  have lF := I.rx.lt
  have lG := I.ry.lt
  refine ⟨I.rx.keep kk (by simp), I.ry.keep kk (by simp), h1.keep k2 (by simp), h2, I.d1, ?_, ?_, ?_, ?_, I.kp.trans kk (by simp), I.fF, I.fG⟩
  · intro g hg h; have := lF g hg; have := n1 g h; omega
  · intro g hg h; have := lF g hg; have := n2 g h; have := k1.size; omega
  · intro g hg h; have := lG g hg; have := n1 g h; omega
  · intro g hg h; have := lG g hg; have := n2 g h; have := k1.size; omega
theorem TInv.stepX (I : TInv w wr F G X Y p q x y s r t) (h : Next 53 wr w1 F p s') : ∃ F', TInv w w1 F' G X Y p q x y s' r t := by
  obtain ⟨F', h1, hk, hf⟩ := h
  have n1 : ∀ {H : List Nat}, (∀ g ∈ F, g ∉ H) → (∀ g ∈ H, g < wr.heap.size) → ∀ g ∈ F', g ∉ H := fun hd hl g hg hh => (hf g hg).elim (fun h => hd g h hh) (fun h => by have := hl g hh; omega)
  exact ⟨F', h1, I.ry.keep hk (fun g hg hx => I.d1 g hx hg), I.rz.keep hk (fun g hg hx => I.d2 g hx hg), I.rw.keep hk (fun g hg hx => I.d3 g hx hg), n1 I.d1 I.ry.lt, n1 I.d2 I.rz.lt, n1 I.d3 I.rw.lt, I.d4, I.d5,
    I.kp.trans hk (fun g hg => .inr (I.fF g hg)), fun g hg => (hf g hg).elim (I.fF g) (fun h => Nat.le_trans I.kp.size h), I.fG⟩
theorem TInv.stepY (I : TInv w wr F G X Y p q x y s r t) (h : Next 51 wr w1 G q s') : ∃ G', TInv w w1 F G' X Y p q x y s s' t ∧ Keeps G wr w1 := by
  obtain ⟨G', h1, hk, hf⟩ := h
  have n1 : ∀ {H : List Nat}, (∀ g ∈ G, g ∉ H) → (∀ g ∈ H, g < wr.heap.size) → ∀ g ∈ G', g ∉ H := fun hd hl g hg hh => (hf g hg).elim (fun h => hd g h hh) (fun h => by have := hl g hh; omega)
  exact ⟨G', ⟨I.rx.keep hk I.d1, h1, I.rz.keep hk (fun g hg hx => I.d4 g hx hg), I.rw.keep hk (fun g hg hx => I.d5 g hx hg),
    fun g hg hx => (hf g hx).elim (fun h => I.d1 g hg h) (fun h => by have := I.rx.lt g hg; omega), I.d2, I.d3, n1 I.d4 I.rz.lt, n1 I.d5 I.rw.lt,
    I.kp.trans hk (fun g hg => .inr (I.fG g hg)), I.fF, fun g hg => (hf g hg).elim (I.fG g) (fun h => Nat.le_trans I.kp.size h)⟩, hk⟩
end

set_option maxRecDepth 100000 in
set_option maxHeartbeats 4000000 in
theorem tells_any (w : World) (A : Option Addr) (n c : Nat) (d m : Nat → Int) (b : Nat → ByteArray) (at_ : Int) (hn : n ≤ 9223372036854775807)
    (hA : 0 < n → ∃ bl off, A = some ⟨bl, off, none⟩ ∧ OpsAt w bl off n d m b) :
    Calls Try.prog 6 #[.slice A n c, .int .i64 at_] w fun e w' => e = .returned (.bool true) ∧ Keeps [] w w' := by
  go_enter Try.func6, Try.ntmps6
  go_wp2_with fail
  refine (small_any _).mono ?_
  rintro e w1 ⟨rfl, k1⟩
  go_wp2_with fail
  refine (new_any _).mono ?_
  rintro e w2 ⟨F, p, rfl, r2, k2, hF⟩
  go_wp2_with fail
  refine (rnew_any _).mono ?_
  rintro e w3 ⟨G, q, rfl, r3, k3, hG⟩
  have rx3 := r2.keep k3 (by simp)
  have dFG : ∀ g ∈ F, g ∉ G := fun g hf hg => by have := r2.lt g hf; have := hG g hg; omega
  have hFw : ∀ g ∈ F, w.heap.size ≤ g := fun g hg => Nat.le_trans k1.size (hF g hg)
  have hGw : ∀ g ∈ G, w.heap.size ≤ g := fun g hg => Nat.le_trans k1.size (Nat.le_trans k2.size (hG g hg))
  have K3 : Keeps [] w w3 := (k1.trans k2 (by simp)).trans k3 (by simp)
  clear k1 k2 k3 r2 hF hG
  go_wp2_with fail
  have hfew := few_any w3 A n c d m b 600 hn (fun h => by obtain ⟨bl, off, e, O⟩ := hA h; exact ⟨bl, off, e, O.keep K3⟩)
  refine hfew.mono ?_
  clear hfew
  rintro e w4 ⟨rr, hr, rfl, rfl⟩
  cases rr
  · clear hr
    go_wp2
    go_ret
    exact ⟨rfl, K3⟩
  have hb := hr rfl
  clear hr
  go_wp2_with fail
  refine (copy_any _ F p _ rx3).mono ?_
  rintro e w4 ⟨X, x, rfl, r4, k4, n4⟩
  go_wp2_with fail
  refine (rcopy_any _ G q _ (r3.keep k4 (by simp))).mono ?_
  rintro e w5 ⟨Y, y, rfl, r5, k5, n5⟩
  have I0 : TInv w w5 F G X Y p q x y ⟨[], false⟩ ⟨[], false⟩ ⟨[], false⟩ := by
    have lF := rx3.lt
    have lG := r3.lt
    have kk := k4.trans k5 (by simp)
    refine ⟨rx3.keep kk (by simp), r3.keep kk (by simp), r4.keep k5 (by simp), r5, dFG, ?_, ?_, ?_, ?_, K3.trans kk (by simp), hFw, hGw⟩
    · intro g hg h; have := lF g hg; have := n4 g h; omega
    · intro g hg h; have := lF g hg; have := n5 g h; have := k4.size; omega
    · intro g hg h; have := lG g hg; have := n4 g h; omega
    · intro g hg h; have := lG g hg; have := n5 g h; have := k4.size; omega
  clear rx3 r3 r4 r5 k4 k5 n4 n5 K3 dFG hFw hGw hb
  go_wp2_with fail
  go_loopw [8, 9, 10] (fun z v i wr => ∃ (k : Nat) (s t : Lk) (F G X Y : List Nat) (x y : Nat), k ≤ n ∧ i = .int .i64 k ∧ z = .pointer (some ⟨x, 0, none⟩) ∧ v = .pointer (some ⟨y, 0, none⟩) ∧ TInv w wr F G X Y p q x y s s t) (fun _ _ i _ => n - (intOf i).toNat)
  case atStart => exact ⟨0, _, _, F, G, X, Y, x, y, by omega, rfl, rfl, rfl, I0⟩
  case round =>
    clear I0
    obtain ⟨k, s, t, F, G, X, Y, x, y, hk, rfl, rfl, rfl, I⟩ := hrel
    by_cases hlt : k < n
    rotate_left
    · have kd : Keeps [] wr wr.drew := (Keeps.refl [] wr).drew
      have j1 := I.rx.keep kd (by simp)
      have j3 := I.rz.keep kd (by simp)
      obtain ⟨Aq, cq, gq⟩ := I.ry
      obtain ⟨Ay, cy, gy⟩ := I.rw
      have j5 : wr.drew.cell? ⟨q, 0, none⟩ = some (.slice Aq s.L.length cq) := gq.b.cell 0
      have j6 : wr.drew.cell? ⟨y, 0, none⟩ = some (.slice Ay t.L.length cy) := gy.b.cell 0
      have j7 : wr.drew.cell? ⟨y, 1, none⟩ = some (.bool t.cut) := gy.b.cell 1
      have HI := Lib.hid I.kp
      have HQ := Lib.hid gq
      have HY := Lib.hid gy
      clear I hA gq gy
      go_wp2_with fail
      go_region_held3 (fun w' => LkRep 53 w' F p s ∧ LkRep 53 w' X x t ∧ w'.cell? ⟨q, 0, none⟩ = some (.slice Aq s.L.length cq) ∧ w'.cell? ⟨y, 0, none⟩ = some (.slice Ay t.L.length cy) ∧ w'.cell? ⟨y, 1, none⟩ = some (.bool t.cut) ∧ Keeps [] wr w')
        (first
          | exact ⟨j1, j3, j5, j6, j7, kd⟩
          | (go_split_ands; exact ⟨by assumption, by assumption, by assumption, by assumption, by assumption, by assumption⟩))
        ((first
          | (go_split_ands; go_at_call_of 12 (Value.pointer (some ⟨p, 0, none⟩)); refine (list_any _ F p s (by assumption)).mono ?_; rintro e w8 ⟨v1, rfl, o1, k8, -⟩; have m1 := LkRep.keep (T := 53) (F := F) (p := p) (s := s) (by assumption) k8 (by simp); have m3 := LkRep.keep (T := 53) (F := X) (p := x) (s := t) (by assumption) k8 (by simp); have m6 := Keeps.trans (F := []) (a := wr) (by assumption) k8 (by simp); have m7 := (HQ.out.b.keep m6 (by simp)).cell 0; have m8 := (HY.out.b.keep m6 (by simp)).cell 0; have m9 := (HY.out.b.keep m6 (by simp)).cell 1)
          | (go_split_ands; go_at_call_of 12 (Value.pointer (some ⟨x, 0, none⟩)); refine (list_any _ X x t (by assumption)).mono ?_; rintro e w8 ⟨v1, rfl, o1, k8, -⟩; have m1 := LkRep.keep (T := 53) (F := F) (p := p) (s := s) (by assumption) k8 (by simp); have m3 := LkRep.keep (T := 53) (F := X) (p := x) (s := t) (by assumption) k8 (by simp); have m6 := Keeps.trans (F := []) (a := wr) (by assumption) k8 (by simp); have m7 := (HQ.out.b.keep m6 (by simp)).cell 0; have m8 := (HY.out.b.keep m6 (by simp)).cell 0; have m9 := (HY.out.b.keep m6 (by simp)).cell 1)
          | (go_split_ands; go_at_call 11; refine (same_any _ _ _ _ o1 (own_keep HQ.out.o (by assumption) (by simp))).mono ?_; rintro e w10 ⟨rfl, k10⟩; have m1 := LkRep.keep (T := 53) (F := F) (p := p) (s := s) (by assumption) k10 (by simp); have m3 := LkRep.keep (T := 53) (F := X) (p := x) (s := t) (by assumption) k10 (by simp); have m6 := Keeps.trans (F := []) (a := wr) (by assumption) k10 (by simp); have m7 := (HQ.out.b.keep m6 (by simp)).cell 0; have m8 := (HY.out.b.keep m6 (by simp)).cell 0; have m9 := (HY.out.b.keep m6 (by simp)).cell 1)
          | (go_split_ands; go_at_call 11; refine (same_any _ _ _ _ o1 (own_keep HY.out.o (by assumption) (by simp))).mono ?_; rintro e w10 ⟨rfl, k10⟩; have m1 := LkRep.keep (T := 53) (F := F) (p := p) (s := s) (by assumption) k10 (by simp); have m3 := LkRep.keep (T := 53) (F := X) (p := x) (s := t) (by assumption) k10 (by simp); have m6 := Keeps.trans (F := []) (a := wr) (by assumption) k10 (by simp); have m7 := (HQ.out.b.keep m6 (by simp)).cell 0; have m8 := (HY.out.b.keep m6 (by simp)).cell 0; have m9 := (HY.out.b.keep m6 (by simp)).cell 1)
          | (go_split_ands; go_at_call 17; refine (iscut_any _ X x t (by assumption)).mono ?_; rintro e w8 ⟨rfl, rfl⟩)))
      go_wp2
      go_ret
      go_split_ands
      exact ⟨rfl, HI.out.trans (G := []) (by assumption) (by simp)⟩
    obtain ⟨bl, off, rfl, O⟩ := hA (by omega)
    have O1 := O.keep I.kp
    have q0 := O1.c0 k hlt
    have q1 := O1.c1 k hlt
    have q2 := O1.c2 k hlt
    have hx := fun W F (h : LkRep 53 W F p s) => do_any W F p s (d k) (m k) (b k) h
    have hy := fun W G (h : LkRep 51 W G q s) => model_any W G q s (d k) (m k) (b k) h
    generalize Lk.step s (d k) (m k) (b k) = r at *
    obtain ⟨⟨⟨R1, R2⟩, R3⟩, s'⟩ := r
    simp only [] at hx hy
    have HX := Lib.hid hx
    have HY := Lib.hid hy
    clear hx hy O1
    by_cases ha : (k : Int) = at_
    · have ta : ((k : Int) == at_) = true := by simp [ha]
      clear ha
      go_wp2_with fail
      refine (copy_any _ F p s I.rx).mono ?_
      rintro e wa ⟨X', x', rfl, ra, ka, na⟩
      go_wp2_with fail
      refine (rcopy_any _ G q s (I.ry.keep ka (by simp))).mono ?_
      rintro e wb ⟨Y', y', rfl, rb, kb, nb⟩
      have I2 := I.copied ra ka na rb kb nb
      have O1 := O.keep I2.kp
      have q0 := O1.c0 k hlt
      have q1 := O1.c1 k hlt
      have q2 := O1.c2 k hlt
      clear I ra ka na rb kb nb O1
      have I := I2
      clear I2
      go_wp2_with fail
      refine (HX.out _ _ I.rx).mono ?_
      rintro e w6 ⟨rfl, n6⟩
      obtain ⟨F', I6⟩ := I.stepX n6
      have I7 := I6.keep ((Keeps.refl [] w6).alloc (.cells #[.int .i64 R1, .string R2] 31))
      have O1 := O.keep I7.kp
      have q0 := O1.c0 k hlt
      have q1 := O1.c1 k hlt
      have q2 := O1.c2 k hlt
      have bx : Blk (w6.alloc (.cells #[.int .i64 R1, .string R2] 31)) w6.heap.size 31 #[.int .i64 R1, .string R2] := Blk.new _ _ _
      have bxG : w6.heap.size ∉ G := fun h => by have := I6.ry.lt _ h; omega
      clear n6 I I6
      go_wp2_with fail
      refine (HY.out _ _ I7.ry).mono ?_
      rintro e w7 ⟨rfl, n7⟩
      obtain ⟨G', I8, k8⟩ := I7.stepY n7
      have bx8 := (bx.keep k8 bxG).alloc (.cells #[.int .i64 R1, .string R2] 31)
      generalize w6.heap.size = bX at *
      have by8 : Blk (w7.alloc (.cells #[.int .i64 R1, .string R2] 31)) w7.heap.size 31 #[.int .i64 R1, .string R2] := Blk.new _ _ _
      have I9 := I8.keep ((Keeps.refl [] w7).alloc (.cells #[.int .i64 R1, .string R2] 31))
      have a0 := bx8.cell 0
      have a1 := bx8.cell 1
      obtain ⟨Aq, cq, gq⟩ := I9.ry
      have e0 := gq.b.cell 0
      have e1 := gq.b.cell 1
      have HI := Lib.hid I9
      have HB := Lib.hid by8
      have hR : ∀ n, LkRep 53 ((w7.alloc (.cells #[.int .i64 R1, .string R2] 31)).drewN n) F' p s' := fun n => I9.rx.keep ((Keeps.refl [] _).drewN n) (by simp)
      have HR := Lib.hid hR
      clear n7 I7 I8 bx bxG bx8 by8 k8 O1 q0 q1 q2 gq I9 hR
      go_wp2_with fail
      go_quiet ((first | (go_at_call 13; exact quiet_left (count_any _ F' p s' (HR.out _))) | (go_at_call 17; exact quiet_left (iscut_any _ F' p s' (HR.out _)))))
      go_wp2
      go_roundw
      case rel => exact ⟨k + 1, s', s, F', G', X', Y', x', y', by omega, by go_num, rfl, rfl, HI.out.keep ((Keeps.refl [] _).drewN _)⟩
      case measure => simp [intOf]; omega
    · have ta : ((k : Int) == at_) = false := by simp [ha]
      clear ha
      go_wp2_with fail
      refine (HX.out _ _ I.rx).mono ?_
      rintro e w6 ⟨rfl, n6⟩
      obtain ⟨F', I6⟩ := I.stepX n6
      have I7 := I6.keep ((Keeps.refl [] w6).alloc (.cells #[.int .i64 R1, .string R2] 31))
      have O1 := O.keep I7.kp
      have q0 := O1.c0 k hlt
      have q1 := O1.c1 k hlt
      have q2 := O1.c2 k hlt
      have bx : Blk (w6.alloc (.cells #[.int .i64 R1, .string R2] 31)) w6.heap.size 31 #[.int .i64 R1, .string R2] := Blk.new _ _ _
      have bxG : w6.heap.size ∉ G := fun h => by have := I6.ry.lt _ h; omega
      clear n6 I I6
      go_wp2_with fail
      refine (HY.out _ _ I7.ry).mono ?_
      rintro e w7 ⟨rfl, n7⟩
      obtain ⟨G', I8, k8⟩ := I7.stepY n7
      have bx8 := (bx.keep k8 bxG).alloc (.cells #[.int .i64 R1, .string R2] 31)
      generalize w6.heap.size = bX at *
      have by8 : Blk (w7.alloc (.cells #[.int .i64 R1, .string R2] 31)) w7.heap.size 31 #[.int .i64 R1, .string R2] := Blk.new _ _ _
      have I9 := I8.keep ((Keeps.refl [] w7).alloc (.cells #[.int .i64 R1, .string R2] 31))
      have a0 := bx8.cell 0
      have a1 := bx8.cell 1
      obtain ⟨Aq, cq, gq⟩ := I9.ry
      have e0 := gq.b.cell 0
      have e1 := gq.b.cell 1
      have HI := Lib.hid I9
      have HB := Lib.hid by8
      have hR : ∀ n, LkRep 53 ((w7.alloc (.cells #[.int .i64 R1, .string R2] 31)).drewN n) F' p s' := fun n => I9.rx.keep ((Keeps.refl [] _).drewN n) (by simp)
      have HR := Lib.hid hR
      clear n7 I7 I8 bx bxG bx8 by8 k8 O1 q0 q1 q2 gq I9 hR
      go_wp2_with fail
      go_quiet ((first | (go_at_call 13; exact quiet_left (count_any _ F' p s' (HR.out _))) | (go_at_call 17; exact quiet_left (iscut_any _ F' p s' (HR.out _)))))
      go_wp2
      go_roundw
      case rel => exact ⟨k + 1, s', t, F', G', X, Y, x, y, by omega, by go_num, rfl, rfl, HI.out.keep ((Keeps.refl [] _).drewN _)⟩
      case measure => simp [intOf]; omega
end Go.Proofs.Ytipmhhhhfnpdgaa
