/- LinkOrders: the walk. -/
import Derived.Test.YtipmhhhhfnpdgaaW9
import Derived.Laws.StructEq
import Derived.Deep.RegionLaw
import Derived.Laws.StructEq
import Derived.Laws.StructEq
import Derived.Laws.StructEq
namespace Go.Proofs.Ytipmhhhhfnpdgaa
open Go.RowKit

structure StrsAt (w : World) (bl off n : Nat) (b : Nat → ByteArray) : Prop where
  lt : bl < w.heap.size
  c : ∀ i, i < n → w.cell? ⟨bl, off + i, none⟩ = some (.string (b i))
structure IntsAt (w : World) (bl off n : Nat) (z : Nat → Int) : Prop where
  lt : bl < w.heap.size
  c : ∀ i, i < n → w.cell? ⟨bl, off + i, none⟩ = some (.int .i64 (z i))
  r : ∀ i, i < n → -9223372036854775808 ≤ z i ∧ z i ≤ 9223372036854775807
theorem StrsAt.at_ {w w' : World} {bl off n i : Nat} {b : Nat → ByteArray} (h : StrsAt w bl off n b) (hk : Keeps [] w w') (hi : i < n) : w'.cell? ⟨bl, off + i, none⟩ = some (.string (b i)) :=
  (hk.cell (p := ⟨bl, _, none⟩) h.lt (by simp)).trans (h.c i hi)
theorem IntsAt.at_ {w w' : World} {bl off n i : Nat} {z : Nat → Int} (h : IntsAt w bl off n z) (hk : Keeps [] w w') (hi : i < n) : w'.cell? ⟨bl, off + i, none⟩ = some (.int .i64 (z i)) :=
  (hk.cell (p := ⟨bl, _, none⟩) h.lt (by simp)).trans (h.c i hi)

/-- The link and the list beside it. -/
structure OInv (w wr : World) (F : List Nat) (p : Nat) (L M : List Pk) (v : Value) : Prop where
  r : LkRep 53 wr F p ⟨L, false⟩
  o : wr.ownsRow 0 31 2 v M.length (pc M)
  dj : ∀ g ∈ F, g ∉ fp v
  kp : Keeps [] w wr
  fF : ∀ g ∈ F, w.heap.size ≤ g
  fv : ∀ g ∈ fp v, w.heap.size ≤ g
section
variable {w wr w1 : World} {F : List Nat} {p : Nat} {L M L' M' : List Pk} {v v' : Value}
theorem OInv.keep (I : OInv w wr F p L M v) (hk : Keeps [] wr w1) : OInv w w1 F p L M v :=
  ⟨I.r.keep hk (by simp), own_keep I.o hk (by simp), I.dj, I.kp.trans hk (by simp), I.fF, I.fv⟩
theorem OInv.link (I : OInv w wr F p L M v) (h : Next 53 wr w1 F p ⟨L', false⟩) : ∃ F', OInv w w1 F' p L' M v := by
  obtain ⟨F', h1, hk, hf⟩ := h
  exact ⟨F', h1, own_keep I.o hk (fun g hg hx => I.dj g hx hg), fun g hg hx => (hf g hg).elim (fun h => I.dj g h hx) (fun h => by have := own_lt I.o hx; omega),
    I.kp.trans hk (fun g hg => .inr (I.fF g hg)), fun g hg => (hf g hg).elim (I.fF g) (fun h => Nat.le_trans I.kp.size h), I.fv⟩
theorem OInv.list (I : OInv w wr F p L M v) (ho : w1.ownsRow 0 31 2 v' M'.length (pc M')) (hk : Keeps (fp v) wr w1) (hf : ∀ g ∈ fp v', g ∈ fp v ∨ wr.heap.size ≤ g) : OInv w w1 F p L M' v' :=
  ⟨I.r.keep hk I.dj, ho, fun g hg hx => (hf g hx).elim (fun h => I.dj g hg h) (fun h => by have := I.r.lt g hg; omega),
    I.kp.trans hk (fun g hg => .inr (I.fv g hg)), I.fF, fun g hg => (hf g hg).elim (I.fv g) (fun h => Nat.le_trans I.kp.size h)⟩
end
theorem dl_no {L : List Pk} {c : Bool} {i : Int} (h : ¬(0 ≤ i ∧ i < L.length)) : Lk.deliver ⟨L, c⟩ i = ((0, E0), 4, ⟨L, c⟩) := by
  unfold Lk.deliver hasI; rw [decide_eq_false h]; rfl
theorem dl_yes {L : List Pk} {c : Bool} {k : Nat} (h : k < L.length) : Lk.deliver ⟨L, c⟩ (k : Int) = (L[k], 0, ⟨L.eraseIdx k, c⟩) := by
  unfold Lk.deliver hasI; simp [List.getD, h]
section
variable {W : World} {L : List Pk} {g cap k : Nat}
theorem reads_take (h : W.ownsRow 0 31 2 (.slice (some ⟨g, 0, none⟩) L.length cap) L.length (pc L)) (hk : k < L.length) : Reads W W.heap.size 2 (some ⟨g, 0, none⟩) k (pc (L.take k)) := by
  have hR := reads_own h
  refine ⟨by rw [pc_len, List.length_take]; congr 1; omega, fun h0 => ?_⟩
  obtain ⟨ad, e, hb, hc⟩ := hR.2 (by omega)
  refine ⟨ad, e, hb, fun j u hu => hc j u ?_⟩
  rw [← pc_take] at hu
  rw [List.getElem?_take] at hu
  split at hu
  · exact hu
  · cases hu
theorem reads_dropA (h : W.ownsRow 0 31 2 (.slice (some ⟨g, 0, none⟩) L.length cap) L.length (pc L)) (hk : k < L.length) (hcap : L.length ≤ cap) :
    Reads W W.heap.size 2 (if cap = k + 1 then some ⟨g, 0, none⟩ else some ⟨g, (k + 1) * 2, none⟩) (L.length - (k + 1)) (pc (L.drop (k + 1))) := by
  have hr1 := reads_own h
  have := hr1.cut (k := k + 1) (by omega) hcap
  rw [pc_drop] at this
  have e : (if cap = k + 1 then some (⟨g, 0, none⟩ : Addr) else some ⟨g, (k + 1) * 2, none⟩) = (if cap = k + 1 then some ⟨g, 0, none⟩ else (some ⟨g, 0, none⟩ : Option Addr).map (·.add ((k + 1) * 2))) := by
    split
    · rfl
    · simp [add_of_plain]
  rw [e]
  exact this
theorem erase_own {v : Value} (hk : k < L.length) (h : W.ownsRow 0 31 2 v ((0 + k) + (L.length - (k + 1))) (([] ++ pc (L.take k)) ++ pc (L.drop (k + 1)))) : W.ownsRow 0 31 2 v (L.eraseIdx k).length (pc (L.eraseIdx k)) := by
  rw [List.length_eraseIdx_of_lt hk, pc_erase, pc_take, pc_drop]
  have e : (0 + k) + (L.length - (k + 1)) = L.length - 1 := by omega
  rw [e, List.nil_append] at h
  exact h
theorem own_e (W : World) : (W.alloc (.cells #[] 31)).ownsRow 0 31 2 (.slice (some ⟨W.heap.size, 0, none⟩) 0 0) 0 [] := own_of_blk (Blk.new W 31 #[]) (by omega) (by omega) rfl rfl
end

set_option maxRecDepth 100000 in
set_option maxHeartbeats 8000000 in
theorem orders_core (w : World) (f : Int) (A B : Option Addr) (n c n2 c2 : Nat) (b : Nat → ByteArray) (z : Nat → Int) (g1 : n ≤ 30) (g2 : n2 ≤ 30) (g3 : f = 0 ∨ f = 1)
    (hA : 0 < n → ∃ bl off, A = some ⟨bl, off, none⟩ ∧ StrsAt w bl off n b) (hB : 0 < n2 → ∃ bl off, B = some ⟨bl, off, none⟩ ∧ IntsAt w bl off n2 z) :
    Calls Try.prog 3 #[.int .i64 f, .slice A n c, .slice B n2 c2] w fun e w' => e = .returned (.bool true) ∧ Keeps [] w w' := by
  have hgt1 : ((n : Int) > 30) = False := by simp; omega
  have hgt2 : ((n2 : Int) > 30) = False := by simp; omega
  have hE : (!E0.toList.isEmpty) = false := by rw [E0_toList]; rfl
  have f0 : 0 ≤ f := by omega
  have f1 : f ≤ 1 := by omega
  have G3 := Lib.hid g3
  have HI31 := Lib.hid info31
  have hN1 : (n : Int) ≤ 30 := by omega
  have hN2 : (n2 : Int) ≤ 30 := by omega
  have key : ((f != 0) = false) ∨ ((f != 0) = true ∧ (f != 1) = false) := by
    rcases g3 with rfl | rfl
    · exact .inl rfl
    · exact .inr ⟨rfl, rfl⟩
  clear g3
  rcases key with t0 | ⟨t0, t1⟩
  all_goals
    go_enter Try.func3, Try.ntmps3
    go_wp2_with fail
    refine (small_any _).mono ?_
    rintro e w1 ⟨rfl, k1⟩
    go_wp2_with fail
    refine (new_any _).mono ?_
    rintro e w2 ⟨F, p, rfl, r2, k2, hF⟩
    have I0 : OInv w w2 F p [] [] (.slice none 0 0) := ⟨r2, World.ownsRow_nil _ _ _ _, by simp, k1.trans k2 (by simp), fun g hg => Nat.le_trans k1.size (hF g hg), by simp⟩
    clear r2 k1 k2 hF
    go_wp2_with fail
    go_loopw [9, 10] (fun v i wr => ∃ (k : Nat) (L : List Pk) (F : List Nat), k ≤ n ∧ i = .int .i64 k ∧ L.length = k ∧ OInv w wr F p L L v) (fun _ i _ => n - (intOf i).toNat)
    case atStart => exact ⟨0, [], F, by omega, rfl, rfl, I0⟩
    case round =>
      clear I0
      obtain ⟨k, L, F, hk, rfl, hl, I⟩ := hrel
      have HL := Lib.hid hl
      by_cases hlt : k < n
      · obtain ⟨bl, off, rfl, S⟩ := hA (by omega)
        have q0 := S.at_ I.kp hlt
        by_cases hb : (100 : Int) < (b k).size
        · clear hl
          go_wp2_with fail
          go_ret
          exact ⟨rfl, I.kp⟩
        · have hs := send_ok (b := b k) (L := L) G3.out (by omega)
          have HS := Lib.hid hs
          have hle : L.length ≤ 30 := by omega
          clear hs hl
          go_wp2_with fail
          refine (send_any _ F p _ _ (b k) I.r).mono ?_
          rw [HS.out]
          rintro e w3 ⟨rfl, n3⟩
          obtain ⟨F', I3⟩ := I.link n3
          clear n3 I q0
          have q0 := S.at_ I3.kp hlt
          obtain ⟨A1, cap1, rfl, -, -, -⟩ := own_shape I3.o
          go_wp2_with (at_builtin; refine wpList_app _ rfl (.tmp 63) (.tmp 71) _ rfl 31 (.agg #[.int .i64 0, .string E0]) 2 24 Try.underlying27 HI31.out rfl (by omega) (.slice A1 L.length cap1) _ _ rfl (own_keep I3.o ((Keeps.refl [] _).alloc _) (by simp)) _ _ _ _ _ rfl (reads_pk w3 _ (b k)) (pc_one _) (by unfold maxLen; omega) (by omega) ?_)
          intro v' w4 ho4 hk4 hf4
          have I4 := (I3.keep ((Keeps.refl [] w3).alloc (.cells #[.int .i64 (1 - f), .string (b k)] 31))).list (M' := L ++ [(1 - f, b k)]) (by simpa [pc_append] using ho4) hk4 (by intro g hg; simpa using hf4 g hg)
          clear I3 ho4 hk4 hf4 q0
          go_wp2
          go_roundw
          case rel => exact ⟨k + 1, _, F', by omega, by go_num, by simp [HL.out], I4⟩
          case measure => simp [intOf]; omega
      · obtain rfl : k = n := by omega
        have hle : L.length ≤ 30 := by omega
        clear hl HL hA
        go_wp2_with fail
        go_loopw [9, 11] (fun v i wr => ∃ (k : Nat) (L : List Pk) (F : List Nat), k ≤ n2 ∧ i = .int .i64 k ∧ L.length ≤ 30 ∧ OInv w wr F p L L v) (fun _ i _ => n2 - (intOf i).toNat)
        case atStart => exact ⟨0, L, F, by omega, rfl, hle, I⟩
        case round =>
          clear I hle
          obtain ⟨k, L, F, hk, rfl, hle, I⟩ := hrel
          by_cases hlt : k < n2
          rotate_left
          · go_wp2_with fail
            refine (list_any _ F p _ I.r).mono ?_
            rintro e w3 ⟨v3, rfl, o3, k3, -⟩
            have I3 := I.keep k3
            go_wp2_with fail
            refine (same_any _ _ _ L o3 I3.o).mono ?_
            rintro e w4 ⟨rfl, k4⟩
            have I4 := I3.keep k4
            go_wp2
            go_ret
            exact ⟨rfl, I4.kp⟩
          obtain ⟨bl, off, rfl, S⟩ := hB (by omega)
          have q0 := S.at_ I.kp hlt
          have q1 := (S.r k hlt).1
          have q2 := (S.r k hlt).2
          obtain ⟨A1, cap1, rfl, hcap, -, hA1⟩ := own_shape I.o
          generalize z k = zz at *
          have hx := fun W F (h : LkRep 53 W F p ⟨L, false⟩) => deliver_any W F p ⟨L, false⟩ zz h
          by_cases z0 : zz < 0
          · simp only [dl_no (L := L) (c := false) (i := zz) (by omega)] at hx
            have HX := Lib.hid hx
            clear hx hA1
            go_wp2_with fail
            refine (HX.out _ F I.r).mono ?_
            rintro e w3 ⟨rfl, r3, k3⟩
            obtain ⟨F', I3⟩ := I.link (Next.same r3 k3)
            have I4 := I3.keep ((Keeps.refl [] w3).alloc (.cells #[.int .i64 0, .string E0] 31))
            clear I3 r3 k3 I
            have HJ := Lib.hid I4
            clear I4
            go_wp2
            go_roundw
            case rel => exact ⟨k + 1, L, F', by omega, by go_num, hle, HJ.out⟩
            case measure => simp [intOf]; omega
          by_cases z1 : (L.length : Int) ≤ zz
          · simp only [dl_no (L := L) (c := false) (i := zz) (by omega)] at hx
            have HX := Lib.hid hx
            clear hx hA1
            go_wp2_with fail
            refine (HX.out _ F I.r).mono ?_
            rintro e w3 ⟨rfl, r3, k3⟩
            obtain ⟨F', I3⟩ := I.link (Next.same r3 k3)
            have I4 := I3.keep ((Keeps.refl [] w3).alloc (.cells #[.int .i64 0, .string E0] 31))
            clear I3 r3 k3 I
            have HJ := Lib.hid I4
            clear I4
            go_wp2
            go_roundw
            case rel => exact ⟨k + 1, L, F', by omega, by go_num, hle, HJ.out⟩
            case measure => simp [intOf]; omega
          obtain ⟨m, rfl⟩ : ∃ m : Nat, zz = m := ⟨zz.toNat, by omega⟩
          have hm : m < L.length := by omega
          obtain ⟨g, rfl⟩ := hA1 (by omega)
          simp only [dl_yes (L := L) (c := false) hm] at hx
          have HX := Lib.hid hx
          clear hx hA1 z0 z1
          go_wp2_with fail
          refine (HX.out _ F I.r).mono ?_
          rintro e w3 ⟨rfl, r3, k3⟩
          obtain ⟨F', I3⟩ := I.link (Next.same r3 k3)
          have I4 := I3.keep ((Keeps.refl [] w3).alloc (.cells #[.int .i64 L[m].1, .string L[m].2] 31))
          have p0 : (w3.alloc (.cells #[.int .i64 L[m].1, .string L[m].2] 31)).cell? ⟨g, m * 2, none⟩ = some (.int .i64 L[m].1) := own_cell I4.o (pc_at0 _ _ hm)
          have p1 : (w3.alloc (.cells #[.int .i64 L[m].1, .string L[m].2] 31)).cell? ⟨g, m * 2 + 1, none⟩ = some (.string L[m].2) := own_cell I4.o (pc_at1 _ _ hm)
          have hz1 : (m : Int) < (L.length : Int) := by omega
          have hz2 : (0 : Int) ≤ (m : Int) := by omega
          have HJ := Lib.hid I4
          have HM := Lib.hid hm
          have hle2 : (L.length : Int) ≤ 30 := by omega
          clear I3 r3 k3 I I4 HX
          generalize L[m] = x at *
          obtain ⟨x1, x2⟩ := x
          go_wp2_with fail
          go_quiet (fail)
          go_wp2_with fail
          have hI5 := HJ.out.keep ((Keeps.refl [] (w3.alloc (.cells #[.int .i64 x1, .string x2] 31))).drewN nq)
          generalize (w3.alloc (.cells #[.int .i64 x1, .string x2] 31)).drewN nq = W at *
          clear HJ p0 p1 q0 q1 q2
          have hwr : IntKind.i64.wrap ((m : Int) + 1) = (m : Int) + 1 := by rw [IntKind.wrap_i64]; omega
          have hp0 : (0 : Int) ≤ (m : Int) + 1 := by omega
          have hp1 : (m : Int) + 1 ≤ (L.length : Int) := by omega
          have hp2 : ((m : Int) + 1).toNat = m + 1 := by omega
          have hp3 : (m : Int) ≤ (L.length : Int) := by omega
          have hp4 : (m : Int) ≤ (cap1 : Int) := by omega
          have hk1 : Keeps [] W (W.alloc (.cells #[] 31)).drew := ((Keeps.refl _ _).alloc _).drew
          have HE : Hid ((W.alloc (.cells #[] 31)).drew.ownsRow 0 31 2 (.slice (some ⟨W.heap.size, 0, none⟩) 0 0) 0 []) := own_drew (own_e W)
          have HR := Lib.hid (reads_take (own_keep hI5.o hk1 (by simp)) hm)
          have HK := Lib.hid hk1
          have P1 := Lib.hid (pc_one (L.take m))
          have P2 := Lib.hid (pc_one (L.drop (m + 1)))
          have h63 : 0 + m ≤ maxLen := by unfold maxLen; omega
          have h64 : (0 + m) + (L.length - (m + 1)) ≤ maxLen := by unfold maxLen; omega
          have HC : Hid (∀ W1, Keeps [] W W1 → Reads W1 W1.heap.size 2 (if cap1 = m + 1 then some ⟨g, 0, none⟩ else some ⟨g, (m + 1) * 2, none⟩) (L.length - (m + 1)) (pc (L.drop (m + 1)))) := fun W1 hk => reads_dropA (own_keep hI5.o hk (by simp)) hm hcap
          have HL : Hid ((L.eraseIdx m).length ≤ 30) := by rw [Hid, List.length_eraseIdx_of_lt hm]; omega
          obtain ⟨A2, hA2⟩ : ∃ A2 : Option Addr, (if cap1 = m + 1 then some (⟨g, 0, none⟩ : Addr) else some ⟨g, (m + 1) * 2, none⟩) = A2 := ⟨_, rfl⟩
          have HJ := Lib.hid hI5
          clear hI5 hk1
          go_region_law (first
            | (refine step_app (by rfl) (.tmp 118) (.tmp 122) 27 (by rfl) 31 (.agg #[.int .i64 0, .string E0]) 2 24 Try.underlying27 HI31.out rfl (by omega) v1 (0 + m) ([] ++ pc (L.take m)) (by simp [Act.eval]) ho1 _ A2 (L.length - (m + 1)) (cap1 - (m + 1)) (pc (L.drop (m + 1))) ?_ (hA2 ▸ HC.out _ kk1) P2.out h64 (by omega) (fun v2 w2 ho2 hk2 hf2 => ?_); (focus (first | (simp [Act.eval]; done) | (simp [Act.eval, Act.put]; done))); have hfin := OInv.list (M' := L.eraseIdx m) HJ.out (erase_own HM.out ho2) ((kk1.trans hk2 (fun g hg => .inr (ff1 g hg))).mono (by simp)) (fun g hg => .inr ((hf2 g hg).elim (ff1 g) (fun h => Nat.le_trans kk1.size h))); obtain ⟨A3, cap3, rfl, -, -, -⟩ := own_shape ho2; have HF := Lib.hid hfin; clear hfin ho2 hk2 hf2)
            | (refine step_app (by rfl) (.tmp 114) (.tmp 117) 27 (by rfl) 31 (.agg #[.int .i64 0, .string E0]) 2 24 Try.underlying27 HI31.out rfl (by omega) (.slice (some ⟨W.heap.size, 0, none⟩) 0 0) 0 [] ?_ HE.out _ (some ⟨g, 0, none⟩) m cap1 (pc (L.take m)) ?_ HR.out P1.out h63 (by omega) (fun v1 w1 ho1 hk1 hf1 => ?_); (focus (first | (simp [Act.eval]; done) | (simp [Act.eval, Act.put]; done))); (focus (first | (simp [Act.eval]; done) | (simp [Act.eval, Act.put]; done))); have kk1 := HK.out.trans hk1 (by simp); have ff1 : ∀ g ∈ fp v1, W.heap.size ≤ g := (fun g hg => (hf1 g hg).elim (fun h => Nat.le_of_eq (List.mem_singleton.1 h).symm) (fun h => Nat.le_trans HK.out.size h))))
          all_goals
            go_wp2
            go_roundw
            case rel => exact ⟨k + 1, _, F', by omega, by go_num, HL.out, by have h := HF.out; rw [Nat.zero_add] at h; exact h⟩
            case measure => simp [intOf]; omega

set_option maxRecDepth 100000 in
theorem orders_any (w : World) (f : Int) (A B : Option Addr) (n c n2 c2 : Nat) (b : Nat → ByteArray) (z : Nat → Int)
    (hA : 0 < n → ∃ bl off, A = some ⟨bl, off, none⟩ ∧ StrsAt w bl off n b) (hB : 0 < n2 → ∃ bl off, B = some ⟨bl, off, none⟩ ∧ IntsAt w bl off n2 z) (hn : n ≤ 9223372036854775807) (hn2 : n2 ≤ 9223372036854775807) :
    Calls Try.prog 3 #[.int .i64 f, .slice A n c, .slice B n2 c2] w fun e w' => e = .returned (.bool true) ∧ Keeps [] w w' := by
  by_cases g1 : 30 < n
  · clear hA hB
    go_enter Try.func3, Try.ntmps3
    go_wp2_with fail
    refine (small_any _).mono ?_
    rintro e w1 ⟨rfl, k1⟩
    go_wp2_with fail
    refine (new_any _).mono ?_
    rintro e w2 ⟨F, p, rfl, r2, k2, hF⟩
    go_wp2
    go_ret
    exact ⟨rfl, k1.trans k2 (by simp)⟩
  by_cases g2 : 30 < n2
  · clear hA hB
    go_enter Try.func3, Try.ntmps3
    go_wp2_with fail
    refine (small_any _).mono ?_
    rintro e w1 ⟨rfl, k1⟩
    go_wp2_with fail
    refine (new_any _).mono ?_
    rintro e w2 ⟨F, p, rfl, r2, k2, hF⟩
    go_wp2
    go_ret
    exact ⟨rfl, k1.trans k2 (by simp)⟩
  by_cases g3 : f = 0 ∨ f = 1
  · exact orders_core w f A B n c n2 c2 b z (by omega) (by omega) g3 hA hB
  · have t0 : (f != 0) = true := by simp; omega
    have t1 : (f != 1) = true := by simp; omega
    clear g3 hA hB
    go_enter Try.func3, Try.ntmps3
    go_wp2_with fail
    refine (small_any _).mono ?_
    rintro e w1 ⟨rfl, k1⟩
    go_wp2_with fail
    refine (new_any _).mono ?_
    rintro e w2 ⟨F, p, rfl, r2, k2, hF⟩
    go_wp2
    go_ret
    exact ⟨rfl, k1.trans k2 (by simp)⟩
end Go.Proofs.Ytipmhhhhfnpdgaa
