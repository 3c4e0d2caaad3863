/- TablesTells: the walk. -/
import Derived.Test.YtnnoekcnhdcodaaR6
import Derived.Deep.RegionHeld3
import Derived.Deep.DeepCutAuto
namespace Go.Proofs.Ytnnoekcnhdcodaa
open Go.RowKit

/-- What holds at the head of each round. -/
structure TInv (w wr : World) (F G : List Nat) (p q : Nat) (m : Nat → Option E) : Prop where
  r : TbRep wr F p m
  s : RfRep wr G q m
  d : ∀ g ∈ F, g ∉ G
  kp : Keeps [] w wr
  fF : ∀ g ∈ F, w.heap.size ≤ g
  fG : ∀ g ∈ G, w.heap.size ≤ g
theorem TInv.keep {w wr w1 : World} {F G : List Nat} {p q : Nat} {m : Nat → Option E} (I : TInv w wr F G p q m) (hk : Keeps [] wr w1) : TInv w w1 F G p q m :=
  ⟨I.r.keep hk (by simp), I.s.keep hk (by simp), I.d, I.kp.trans hk (by simp), I.fF, I.fG⟩
theorem doV_at (m : Nat → Option E) (d pg f : Int) (b : Bool) : ∃ (n : Int) (o : Bool) (x1 x2 : Int) (x3 x4 x5 : Bool), doV m d pg f b = .agg #[.int .i64 n, .bool o, .int .i64 x1, .int .i64 x2, .bool x3, .bool x4, .bool x5] :=
  ⟨_, _, _, _, _, _, _, rfl⟩
/-- The state within the loop that writes into the table that was copied. -/
structure SInv (w wr : World) (F X G : List Nat) (p x q : Nat) (mm m : Nat → Option E) : Prop where
  r : TbRep wr F p mm
  t : TbRep wr X x m
  s : RfRep wr G q m
  d1 : ∀ g ∈ X, g ∉ F
  d2 : ∀ g ∈ G, g ∉ F
  d3 : ∀ g ∈ X, g ∉ G
  kp : Keeps [] w wr
  fF : ∀ g ∈ F, w.heap.size ≤ g
  fX : ∀ g ∈ X, w.heap.size ≤ g
  fG : ∀ g ∈ G, w.heap.size ≤ g
theorem SInv.step {w wr w1 : World} {F F1 X G : List Nat} {p x q : Nat} {mm m1 m : Nat → Option E} (I : SInv w wr F X G p x q mm m) (h : TbRep w1 F1 p m1) (k : Keeps F wr w1) (hF : ∀ g ∈ F1, g ∈ F ∨ wr.heap.size ≤ g) : SInv w w1 F1 X G p x q m1 m := by
  refine ⟨h, I.t.keep k I.d1, I.s.keep k I.d2, fun g hg h1 => ?_, fun g hg h1 => ?_, I.d3, I.kp.trans k (fun g hg => .inr (I.fF g hg)), fun g hg => ?_, I.fX, I.fG⟩
  · rcases hF g h1 with h2 | h2
    · exact I.d1 g hg h2
    · have := I.t.lt g hg; omega
  · rcases hF g h1 with h2 | h2
    · exact I.d2 g hg h2
    · have := I.s.lt g hg; omega
  · rcases hF g hg with h2 | h2
    · exact I.fF g h2
    · have := I.kp.size; omega
theorem TInv.done {w wr w1 w2 : World} {F F1 G G1 : List Nat} {p q : Nat} {m m1 : Nat → Option E} (I : TInv w wr F G p q m) (h1 : TbRep w1 F1 p m1) (k1 : Keeps F wr w1) (f1 : ∀ g ∈ F1, g ∈ F ∨ wr.heap.size ≤ g)
    (h2 : RfRep w2 G1 q m1) (k2 : Keeps G w1 w2) (f2 : ∀ g ∈ G1, g ∈ G ∨ w1.heap.size ≤ g) : TInv w w2 F1 G1 p q m1 := by
  have hF1G : ∀ g ∈ F1, g ∉ G := fun g hg h => by
    rcases f1 g hg with a | a
    · exact I.d g a h
    · have := I.s.lt g h; omega
  refine ⟨h1.keep k2 hF1G, h2, fun g hg h => ?_, (I.kp.trans k1 (fun g hg => .inr (I.fF g hg))).trans k2 (fun g hg => .inr (I.fG g hg)), fun g hg => ?_, fun g hg => ?_⟩
  · rcases f2 g h with a | a
    · exact hF1G g hg a
    · have := h1.lt g hg; omega
  · rcases f1 g hg with a | a
    · exact I.fF g a
    · have := I.kp.size; omega
  · rcases f2 g hg with a | a
    · exact I.fG g a
    · have := I.kp.size; have := k1.size; omega
theorem TInv.done2 {w wr w1 w2 : World} {F F1 G G1 : List Nat} {p q : Nat} {m m1 : Nat → Option E} (I : TInv w wr F G p q m) (h2 : RfRep w1 G1 q m1) (k2 : Keeps G wr w1) (f2 : ∀ g ∈ G1, g ∈ G ∨ wr.heap.size ≤ g)
    (h1 : TbRep w2 F1 p m1) (k1 : Keeps F w1 w2) (f1 : ∀ g ∈ F1, g ∈ F ∨ w1.heap.size ≤ g) : TInv w w2 F1 G1 p q m1 := by
  have hG1F : ∀ g ∈ G1, g ∉ F := fun g hg h => by
    rcases f2 g hg with a | a
    · exact I.d g h a
    · have := I.r.lt g h; omega
  refine ⟨h1, h2.keep k1 hG1F, fun g hg h => ?_, (I.kp.trans k2 (fun g hg => .inr (I.fG g hg))).trans k1 (fun g hg => .inr (I.fF g hg)), fun g hg => ?_, fun g hg => ?_⟩
  · rcases f1 g hg with a | a
    · exact hG1F g h a
    · have := h2.lt g h; omega
  · rcases f1 g hg with a | a
    · exact I.fF g a
    · have := I.kp.size; have := k2.size; omega
  · rcases f2 g hg with a | a
    · exact I.fG g a
    · have := I.kp.size; omega

set_option maxRecDepth 100000 in
set_option maxHeartbeats 16000000 in
theorem tells_any (w : World) (at_ : Int) (A : Option Addr) (n c : Nat) (d pg f : Nat → Int) (b : Nat → Bool) (hn : n ≤ 9223372036854775807)
    (hA : 0 < n → ∃ bl off, A = some ⟨bl, off, none⟩ ∧ ActsAt w bl off n d pg f b) :
    Calls Try.prog 6 #[.slice A n c, .int .i64 at_] w fun e w' => e = .returned (.bool true) ∧ Keeps [] w w' := by
  by_cases g1 : 200 < n
  · go_enter Try.func6, Try.ntmps6
    go_wp2_with fail
    refine (small_any _).mono ?_
    rintro e w1 ⟨rfl, k1⟩
    go_wp2
    go_ret
    exact ⟨rfl, k1⟩
  go_enter Try.func6, Try.ntmps6
  go_wp2_with fail
  refine (small_any _).mono ?_
  rintro e w1 ⟨rfl, k1⟩
  go_wp2_with fail
  refine (new_any _).mono ?_
  rintro e w2 ⟨F, p, rfl, r2, k2, f2⟩
  have I0 : TInv w (w2.alloc (.cells #[.slice none 0 0] 49)) F [w2.heap.size] p w2.heap.size (fun _ => none) := by
    have kk : Keeps [] w2 (w2.alloc (.cells #[.slice none 0 0] 49)) := (Keeps.refl _ _).alloc _
    have e0 : ents (fun _ => none) 256 = [] := by kernel_rfl
    refine ⟨r2.keep kk (by simp), ⟨none, 0, by rw [e0]; rfl, ?_, ?_, fun _ _ => rfl⟩, fun g hg h => ?_, (k1.trans k2 (by simp)).trans kk (by simp), fun g hg => Nat.le_trans k1.size (f2 g hg), fun g hg => ?_⟩
    · rw [e0]; exact Blk.new _ _ _
    · rw [e0]; exact World.ownsRow_nil _ _ _ _
    · have := List.mem_singleton.1 h; subst this; have := r2.lt _ hg; omega
    · rw [List.mem_singleton.1 hg]; exact Nat.le_trans k1.size k2.size
  clear r2 k1 k2 f2
  go_wp2_with fail
  generalize w2.heap.size = q at I0
  go_loopw [6, 8, 9, 10] (fun t i _ _ wr => ∃ (k p : Nat) (m : Nat → Option E) (F G : List Nat), k ≤ n ∧ i = .int .i64 k ∧ t = .pointer (some ⟨p, 0, none⟩) ∧ TInv w wr F G p q m) (fun _ i _ _ _ => n - (intOf i).toNat)
  case atStart => exact ⟨0, p, _, F, _, by omega, rfl, rfl, I0⟩
  case round =>
    clear I0
    obtain ⟨k, p, m, F, G, hk, rfl, rfl, I⟩ := hrel
    by_cases hlt : k < n
    rotate_left
    · have kd : Keeps [] wr wr.drew := (Keeps.refl [] wr).drew
      have j1 := I.r.keep kd (by simp)
      have j2 := I.s.keep kd (by simp)
      obtain ⟨Aq, cq, gq⟩ := I.s
      have HL := Lib.hid (fun _ : Unit => gq.len)
      have HI := Lib.hid I.kp
      have HO := Lib.hid (fun _ : Unit => gq.o)
      have HB := Lib.hid (fun _ : Unit => gq.b)
      generalize hLL : ents m 256 = L at *
      have hent := fun W (h : TbRep W F p m) => entries_any W F p m h
      simp only [hLL] at hent
      have HENT := Lib.hid hent
      have j5 : wr.drew.cell? ⟨q, 0, none⟩ = some (.slice Aq L.length cq) := (HB.out ()).cell 0
      clear I hA gq hLL hent
      go_wp2_with fail
      go_region_held3 (fun w' => TbRep w' F p m ∧ RfRep w' G q m ∧ w'.cell? ⟨q, 0, none⟩ = some (.slice Aq L.length cq) ∧ Keeps [] wr w')
        (first
          | exact ⟨j1, j2, j5, kd⟩
          | (go_split_ands; exact ⟨by assumption, by assumption, by assumption, by assumption⟩))
        ((first
          | (go_split_ands; go_at_call 13; refine (HENT.out _ (by assumption)).mono ?_; rintro e w8 ⟨v1, rfl, o1, k8, -⟩; have m1 := TbRep.keep (F := F) (p := p) (m := m) (by assumption) k8 (by simp); have m2 := RfRep.keep (G := G) (q := q) (m := m) (by assumption) k8 (by simp); have m6 := Keeps.trans (F := []) (a := wr) (by assumption) k8 (by simp); have m7 := ((HB.out ()).keep m6 (by simp)).cell 0)
          | (go_split_ands; go_at_call 16; refine (same_any _ _ _ _ o1 (own_keep (HO.out ()) (by assumption) (by simp))).mono ?_; rintro e w10 ⟨rfl, k10⟩; have m1 := TbRep.keep (F := F) (p := p) (m := m) (by assumption) k10 (by simp); have m2 := RfRep.keep (G := G) (q := q) (m := m) (by assumption) k10 (by simp); have m6 := Keeps.trans (F := []) (a := wr) (by assumption) k10 (by simp); have m7 := ((HB.out ()).keep m6 (by simp)).cell 0)
          | (go_split_ands; go_at_call 12; refine (levels_any _ F p m (by assumption)).mono ?_; rintro e w8 ⟨rfl, rfl⟩)
          | (go_split_ands; go_at_call 19; refine (rlevels_any _ G q m (by assumption)).mono ?_; rintro e w8 ⟨rfl, m2, k8⟩; have m1 := TbRep.keep (F := F) (p := p) (m := m) (by assumption) k8 (by simp); have m6 := Keeps.trans (F := []) (a := wr) (by assumption) k8 (by simp); have m7 := ((HB.out ()).keep m6 (by simp)).cell 0)))
      go_wp2
      go_ret
      go_split_ands
      exact ⟨rfl, HI.out.trans (G := []) (by assumption) (by simp)⟩
    obtain ⟨bl, off, rfl, O⟩ := hA (by omega)
    obtain ⟨x1, x2⟩ := O.rg k hlt
    obtain ⟨x3, x4⟩ := O.rf k hlt
    have O0 := Lib.hid O
    go_upto_if 29 with fail
    go_cut [6] (fun s6 wc => ∃ (p1 : Nat) (F1 : List Nat), s6 = .pointer (some ⟨p1, 0, none⟩) ∧ TInv w wc F1 G p1 q m)
    case first =>
      by_cases ha : (k : Int) = at_
      rotate_left
      · have ta : ((k : Int) == at_) = false := by simp [ha]
        clear ha hA O
        go_wp2_with fail
        go_meet
        case rel => exact ⟨p, F, rfl, I⟩
      have ta : ((k : Int) == at_) = true := by simp [ha]
      clear ha hA O
      go_wp2_with fail
      refine (copy_any _ F p m I.r).mono ?_
      rintro e wa ⟨X, x, rfl, ra, ka, na⟩
      have S0 : SInv w wa F X G p x q m m := by
        have lF := I.r.lt
        have lG := I.s.lt
        exact ⟨I.r.keep ka (by simp), ra, I.s.keep ka (by simp), fun g hg h => by have := lF g h; have := na g hg; omega, fun g hg h => I.d g h hg, fun g hg h => by have := lG g h; have := na g hg; omega, I.kp.trans ka (by simp), I.fF, fun g hg => Nat.le_trans I.kp.size (na g hg), I.fG⟩
      clear I ra ka na
      go_wp2_with fail
      obtain ⟨w0, rfl⟩ : ∃ w0 : World, w0 = wr := ⟨_, rfl⟩
      go_loopw [10] (fun i wr => ∃ (j : Nat) (mm : Nat → Option E) (F : List Nat), j ≤ 258 ∧ i = .int .i64 j ∧ SInv w wr F X G p x q mm m) (fun i _ => 258 - (intOf i).toNat)
      case atStart => exact ⟨0, _, _, by omega, rfl, S0⟩
      case round =>
        clear S0
        obtain ⟨j, mm, F, hj, rfl, S⟩ := hrel
        by_cases hjt : j < 256
        rotate_left
        · go_wp2_with fail
          go_meet
          case rel => exact ⟨x, X, rfl, S.t, S.s, S.d3, S.kp, S.fX, S.fG⟩
        go_wp2_with fail
        refine (map_any _ F p mm j 7 true S.r (by omega) (by omega) (by omega) (by omega)).mono ?_
        rintro e w3 ⟨F3, rfl, r3, k3, f3⟩
        have S3 := S.step r3 k3 f3
        clear S r3 k3 f3
        go_wp2_with fail
        refine (unmap_any _ F3 p _ ((j : Int) + 1) S3.r (by omega) (by omega)).mono ?_
        rintro e w4 ⟨rfl, r4, k4⟩
        have S4 := S3.step r4 k4 (fun g hg => .inl hg)
        clear S3 r4 k4
        go_wp2_with fail
        refine (walk_any _ F3 p _ j true S4.r (by omega) (by omega)).mono ?_
        rintro e w5 ⟨rfl, r5, k5⟩
        have S5 := S4.step r5 k5 (fun g hg => .inl hg)
        clear S4 r5 k5
        go_wp2
        go_roundw
        case rel => exact ⟨j + 3, _, F3, by omega, by go_num, S5⟩
        case measure => simp [intOf]; omega
    case rest =>
      obtain ⟨p1, F1, rfl, J⟩ := hcut
      have kd : Keeps [] wc wc.drew := (Keeps.refl [] wc).drew
      have I2 := J.keep kd
      have hbw : bl < w.heap.size := O.lt
      have hbF : bl ∉ F1 := fun h => by have := J.fF _ h; omega
      have hbG : bl ∉ G := fun h => by have := J.fG _ h; omega
      have O1 := O.keep I2.kp
      have q0 := O1.c0 k hlt
      have q1 := O1.c1 k hlt
      have q2 := O1.c2 k hlt
      have q3 := O1.c3 k hlt
      have hx := fun W (h : TbRep W F1 p1 m) => do_any W F1 p1 m (d k) (pg k) (f k) (b k) h x1 x2 x3 x4
      have hy := fun W (h : RfRep W G q m) => tell_any W G q m (d k) (pg k) (f k) (b k) h
      obtain ⟨v1, v2, v3, v4, v5, v6, v7, hv⟩ := doV_at m (d k) (pg k) (f k) (b k)
      rw [hv] at hx hy
      have HX := Lib.hid hx
      have HY := Lib.hid hy
      have JJ := Lib.hid I2
      generalize doM m (d k) (pg k) (f k) (b k) = m1 at *
      have hi1 : (k : Int) < (n : Int) := by omega
      have hi0 : (0 : Int) ≤ (k : Int) := by omega
      clear hx hy hv O1 J I2 hA I
      go_wp2_with fail
      go_region_held3 (fun w' => w'.cell? ⟨bl, off + k * 4, none⟩ = some (.int .i64 (d k)) ∧ w'.cell? ⟨bl, off + k * 4 + 1, none⟩ = some (.int .i64 (pg k)) ∧ w'.cell? ⟨bl, off + k * 4 + 2, none⟩ = some (.int .i64 (f k)) ∧ w'.cell? ⟨bl, off + k * 4 + 3, none⟩ = some (.bool (b k)))
        (first
          | exact ⟨q0, q1, q2, q3⟩
          | (go_split_ands; exact ⟨by assumption, by assumption, by assumption, by assumption⟩))
        ((first
          | (go_at_call 18; refine (HY.out _ rr1).mono ?_; rintro e wz ⟨G1, rfl, r2, k2, f2⟩; have JZ := JJ.out.done tt1 kk1 ff1 r2 k2 f2; have OZ := O0.out.keep JZ.kp; have q0 := OZ.c0 k hlt; have q1 := OZ.c1 k hlt; have q2 := OZ.c2 k hlt; have q3 := OZ.c3 k hlt)
          | (go_at_call 9; refine (HX.out _ tt2).mono ?_; rintro e wz ⟨G1, rfl, r2, k2, f2⟩; have JZ := JJ.out.done2 rr2 kk2 ff2 r2 k2 f2; have OZ := O0.out.keep JZ.kp; have q0 := OZ.c0 k hlt; have q1 := OZ.c1 k hlt; have q2 := OZ.c2 k hlt; have q3 := OZ.c3 k hlt)
          | (go_at_call 9; refine (HX.out _ JJ.out.r).mono ?_; rintro e wy ⟨F2, rfl, tt1, kk1, ff1⟩; have rr1 := JJ.out.s.keep kk1 (fun g hg h => JJ.out.d g h hg); have OZ := O0.out.keep (JJ.out.kp.trans kk1 (fun g hg => .inr (JJ.out.fF g hg))); have q0 := OZ.c0 k hlt; have q1 := OZ.c1 k hlt; have q2 := OZ.c2 k hlt; have q3 := OZ.c3 k hlt)
          | (go_at_call 18; refine (HY.out _ JJ.out.s).mono ?_; rintro e wy ⟨F2, rfl, rr2, kk2, ff2⟩; have tt2 := JJ.out.r.keep kk2 (fun g hg h => JJ.out.d g hg h); have OZ := O0.out.keep (JJ.out.kp.trans kk2 (fun g hg => .inr (JJ.out.fG g hg))); have q0 := OZ.c0 k hlt; have q1 := OZ.c1 k hlt; have q2 := OZ.c2 k hlt; have q3 := OZ.c3 k hlt)))
      all_goals
        go_wp2
        go_roundw
        case rel => exact ⟨k + 1, p1, m1, _, _, by omega, by go_num, rfl, JZ⟩
        case measure => simp [intOf]; omega
end Go.Proofs.Ytnnoekcnhdcodaa
