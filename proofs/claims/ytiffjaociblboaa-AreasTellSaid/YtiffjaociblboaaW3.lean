/- The reference's Find; Valid; named; Same. -/
import Derived.Test.YtiffjaociblboaaW2
namespace Go.Proofs.Ytiffjaociblboaa
open Go.RowKit

theorem AtL.cells {w : World} {b off : Nat} {L : List Ar} (h : AtL w (some ⟨b, off, none⟩) L) {k : Nat} (hk : k < L.length) :
    w.cell? ⟨b, off + k * 6, none⟩ = some (.int .i64 L[k].a) ∧ w.cell? ⟨b, off + k * 6 + 1, none⟩ = some (.int .i64 L[k].n) ∧ w.cell? ⟨b, off + k * 6 + 2, none⟩ = some (.string L[k].o) ∧
    w.cell? ⟨b, off + k * 6 + 3, none⟩ = some (.int .i64 L[k].f) ∧ w.cell? ⟨b, off + k * 6 + 4, none⟩ = some (.bool L[k].s) ∧ w.cell? ⟨b, off + k * 6 + 5, none⟩ = some (.bool L[k].w) := by
  obtain ⟨b2, o2, e, _, h3⟩ := h.at_ (by omega)
  injection e with e
  injection e with e1 e2
  subst e1
  subst e2
  exact h3 k hk
set_option maxRecDepth 100000 in
set_option maxHeartbeats 3200000 in
theorem rfind_any (w : World) (A : Option Addr) (L : List Ar) (c : Nat) (p : Int) (h : AtL w A L) (hv : Vds L) :
    Calls Try.prog 18 #[.slice A L.length c, .int .i64 p] w fun e w' => e = .returned (.tuple #[(fndV L p).v, .bool (fnd L p).isSome]) ∧ Keeps [] w w' := by
  have hm := h.mx
  have HH := Lib.hid h
  have HV := Lib.hid hv
  obtain ⟨Z, hZ⟩ : ∃ Z, fndV L p = Z := ⟨_, rfl⟩
  obtain ⟨B, hB⟩ : ∃ B, (fnd L p).isSome = B := ⟨_, rfl⟩
  rw [hZ, hB]
  have HZ := Lib.hid (And.intro hZ hB)
  clear h hv hZ hB
  unfold Ar.v
  go_enter Try.func18, Try.ntmps18
  go_wp2_with fail
  have k0 : Keeps [] w (w.alloc (.cells #[.int .i64 0, .int .i64 0, .string ⟨#[]⟩, .int .i64 0, .bool false, .bool false] 24)) := (Keeps.refl _ _).alloc _
  have b0 := Blk.new w 24 #[.int .i64 0, .int .i64 0, .string ⟨#[]⟩, .int .i64 0, .bool false, .bool false]
  go_loopw [6] (fun i wr => ∃ k : Nat, k ≤ L.length ∧ i = .int .i64 k ∧ fnd (L.take k) p = none ∧ Blk wr w.heap.size 24 #[.int .i64 0, .int .i64 0, .string ⟨#[]⟩, .int .i64 0, .bool false, .bool false] ∧ Keeps [] w wr) (fun i _ => L.length - (intOf i).toNat)
  case atStart => exact ⟨0, by omega, rfl, rfl, b0, k0⟩
  case round =>
    clear k0 b0
    obtain ⟨k, hk, rfl, hf, b, kp⟩ := hrel
    have HF := Lib.hid hf
    have HB := Lib.hid b
    have HK := Lib.hid kp
    clear hf
    by_cases hlt : k < L.length
    · obtain ⟨bl, off, rfl, hbl, hc⟩ := (HH.out.keep kp).at_ (by omega)
      have hvk := HV.out _ (List.getElem_mem hlt)
      have HX := Lib.hid (fnd_take hlt HF.out)
      have HX2 := Lib.hid (fun hi => fnd_hit hlt HF.out hi)
      obtain ⟨x, hx⟩ : ∃ x, L[k] = x := ⟨_, rfl⟩
      have HC := Lib.hid (fun (W : World) (kW : Keeps [] wr W) => ((HH.out.keep kp).keep kW).cells hlt)
      rw [hx] at HX HX2 hvk HC
      obtain ⟨c0, c1, c2, c3, c4, c5⟩ := HC.out wr (Keeps.refl _ _)
      have hh := has_any wr x p (by have := hvk.a0; have := hvk.n1; have := hvk.an; omega)
      unfold Ar.v at hh
      obtain ⟨I, hI⟩ : ∃ I, inA p x = I := ⟨_, rfl⟩
      rw [hI] at hh
      have HHas := Lib.hid hh
      have HI := Lib.hid hI
      clear hx hvk hc b kp hh hI hbl
      cases I with
      | true =>
        have hF := HX2.out HI.out
        have eZ : Z = x := by rw [← HZ.out.1]; unfold fndV; rw [hF]; rfl
        have eB : B = true := by rw [← HZ.out.2, hF]; rfl
        have HE := Lib.hid (And.intro eZ eB)
        clear hF eZ eB
        go_wp2_with fail
        refine HHas.out.mono ?_
        rintro e w1 ⟨rfl, k1⟩
        obtain ⟨d0, d1, d2, d3, d4, d5⟩ := HC.out w1 k1
        have HB2 := Lib.hid (HB.out.keep k1 (by simp))
        have HK2 := Lib.hid (HK.out.trans k1 (by simp))
        clear k1 HHas c0 c1 c2 c3 c4 c5
        go_wp2_with (refine wpList_store_blk rfl 24 _ _ rfl rfl w.heap.size rfl 24 _ #[.int .i64 x.a, .int .i64 x.n, .string x.o, .int .i64 x.f, .bool x.s, .bool x.w] HB2.out rfl rfl (by simp [Value.oneCell']) (by kernel_rfl) ?_; intro w3 b3 k3)
        have r0 := b3.cell 0
        have r1 := b3.cell 1
        have r2 := b3.cell 2
        have r3 := b3.cell 3
        have r4 := b3.cell 4
        have r5 := b3.cell 5
        have KF := Lib.hid (HK2.out.trans k3 (fun g hg => .inr (by simp at hg; omega)))
        clear b3 k3
        go_wp2_with fail
        refine bodyPost_ret (v := .tuple #[.agg #[.int .i64 x.a, .int .i64 x.n, .string x.o, .int .i64 x.f, .bool x.s, .bool x.w], .bool true]) (by simp [results, Try.results18, go_sem, r0, r1, r2, r3, r4, r5]) rfl ?_
        rw [HE.out.1, HE.out.2]
        exact ⟨rfl, KF.out⟩
      | false =>
        have hN : fnd (L.take (k + 1)) p = none := by rw [HX.out, if_neg (by rw [HI.out]; simp)]
        have HN := Lib.hid hN
        clear hN
        go_wp2_with fail
        refine HHas.out.mono ?_
        rintro e w1 ⟨rfl, k1⟩
        have HB2 := Lib.hid (HB.out.keep k1 (by simp))
        have HK2 := Lib.hid (HK.out.trans k1 (by simp))
        clear k1 HHas
        go_wp2_with fail
        go_roundw
        case rel => exact ⟨k + 1, by omega, by go_num, HN.out, HB2.out, HK2.out⟩
        case measure => simp [intOf]; omega
    · obtain rfl : k = L.length := by omega
      have hF := HF.out
      rw [List.take_length] at hF
      have eZ : Z = zA := by rw [← HZ.out.1]; unfold fndV; rw [hF]; rfl
      have eB : B = false := by rw [← HZ.out.2, hF]; rfl
      have HE := Lib.hid (And.intro eZ eB)
      clear eZ eB hF b kp
      go_wp2_with (refine wpList_store_blk rfl 24 _ _ rfl rfl w.heap.size rfl 24 _ #[.int .i64 0, .int .i64 0, .string ⟨#[]⟩, .int .i64 0, .bool false, .bool false] HB.out rfl rfl (by simp [Value.oneCell']) (by kernel_rfl) ?_; intro w3 b3 k3)
      have r0 := b3.cell 0
      have r1 := b3.cell 1
      have r2 := b3.cell 2
      have r3 := b3.cell 3
      have r4 := b3.cell 4
      have r5 := b3.cell 5
      have KF := Lib.hid (HK.out.trans k3 (fun g hg => .inr (by simp at hg; omega)))
      clear b3 k3
      go_wp2_with fail
      refine bodyPost_ret (v := .tuple #[.agg #[.int .i64 0, .int .i64 0, .string ⟨#[]⟩, .int .i64 0, .bool false, .bool false], .bool false]) (by simp [results, Try.results18, go_sem, r0, r1, r2, r3, r4, r5]) rfl ?_
      rw [HE.out.1, HE.out.2]
      exact ⟨rfl, KF.out⟩

theorem chn_drop {E : Int} {L : List Ar} {k : Nat} (hk : k < L.length) : chn E (L.drop k) = (vld L[k] && decide (E ≤ L[k].a) && chn (L[k].a + L[k].n) (L.drop (k + 1))) := by rw [List.drop_eq_getElem_cons hk]; rfl
set_option maxRecDepth 100000 in
set_option maxHeartbeats 3200000 in
theorem Valid_any (w : World) (A : Option Addr) (L : List Ar) (c : Nat) (h : AtL w A L) :
    Calls Try.prog 8 #[.slice A L.length c] w fun e w' => e = .returned (.bool (Vl L)) ∧ Keeps [] w w' := by
  have hm := h.mx
  have HH := Lib.hid h
  obtain ⟨V, hV⟩ : ∃ V, Vl L = V := ⟨_, rfl⟩
  rw [hV]
  have HV := Lib.hid hV
  clear h hV
  go_enter Try.func8, Try.ntmps8
  go_wp2_with fail
  go_loopw [3, 8] (fun e i wr => ∃ (k : Nat) (E : Int), k ≤ L.length ∧ i = .int .i64 k ∧ e = .int .i64 E ∧ 0 ≤ E ∧ E ≤ 256 ∧ chn 0 L = chn E (L.drop k) ∧ Keeps [] w wr) (fun _ i _ => L.length - (intOf i).toNat)
  case atStart => exact ⟨0, 0, by omega, rfl, rfl, by omega, by omega, by rw [List.drop_zero], Keeps.refl _ _⟩
  case round =>
    obtain ⟨k, E, hk, rfl, rfl, hE0, hE1, hch, kp⟩ := hrel
    have HCH := Lib.hid hch
    have HK := Lib.hid kp
    clear hch
    by_cases hlt : k < L.length
    · obtain ⟨bl, off, rfl, hbl, hc⟩ := (HH.out.keep kp).at_ (by omega)
      obtain ⟨c0, c1, c2, c3, c4, c5⟩ := hc k hlt
      have hd := HCH.out
      rw [chn_drop hlt] at hd
      obtain ⟨x, hx⟩ : ∃ x, L[k] = x := ⟨_, rfl⟩
      rw [hx] at c0 c1 c2 c3 c4 c5 hd
      have bx := Blk.new wr 24 #[.int .i64 x.a, .int .i64 x.n, .string x.o, .int .i64 x.f, .bool x.s, .bool x.w]
      have hv := valid_any (wr.alloc (.cells #[.int .i64 x.a, .int .i64 x.n, .string x.o, .int .i64 x.f, .bool x.s, .bool x.w] 24)) x
      unfold Ar.v at hv
      have HD := Lib.hid hd
      have HBX := Lib.hid bx
      clear hx hc kp hd bx
      obtain ⟨I, hI⟩ : ∃ I, vld x = I := ⟨_, rfl⟩
      rw [hI] at hv
      have HVA := Lib.hid hv
      have HI := Lib.hid hI
      clear hv hI
      cases I with
      | false =>
        have eV : V = false := by rw [← HV.out]; unfold Vl; rw [HD.out, HI.out]; rfl
        have HE := Lib.hid eV
        clear eV
        go_wp2_with fail
        refine HVA.out.mono ?_
        rintro e w1 ⟨rfl, k1⟩
        have HK2 := Lib.hid ((HK.out.alloc (.cells #[.int .i64 x.a, .int .i64 x.n, .string x.o, .int .i64 x.f, .bool x.s, .bool x.w] 24)).trans k1 (by simp))
        clear k1 HVA
        go_wp2_with fail
        go_ret
        exact ⟨ret_bool HE.out.symm, HK2.out⟩
      | true =>
        have hvd := vld_iff.1 HI.out
        have h1 := hvd.a0
        have h2 := hvd.n1
        have h3 := hvd.n2
        have h4 := hvd.an
        clear hvd
        by_cases hE : E ≤ x.a
        · have hn : chn 0 L = chn (x.a + x.n) (L.drop (k + 1)) := by rw [HD.out, HI.out, decide_eq_true hE]; rfl
          have HN := Lib.hid hn
          clear hn
          go_wp2_with fail
          refine HVA.out.mono ?_
          rintro e w1 ⟨rfl, k1⟩
          have b1 := HBX.out.keep k1 (by simp)
          have d0 := b1.cell 0
          have d1 := b1.cell 1
          have HK2 := Lib.hid ((HK.out.alloc (.cells #[.int .i64 x.a, .int .i64 x.n, .string x.o, .int .i64 x.f, .bool x.s, .bool x.w] 24)).trans k1 (by simp))
          clear k1 b1 HVA
          go_wp2_with fail
          go_roundw
          case rel => exact ⟨k + 1, x.a + x.n, by omega, by go_num, rfl, by omega, by omega, HN.out, HK2.out⟩
          case measure => simp [intOf]; omega
        · have eV : V = false := by rw [← HV.out]; unfold Vl; rw [HD.out, HI.out, decide_eq_false hE]; rfl
          have HE := Lib.hid eV
          have hE' : x.a < E := by omega
          clear eV hE
          go_wp2_with fail
          refine HVA.out.mono ?_
          rintro e w1 ⟨rfl, k1⟩
          have b1 := HBX.out.keep k1 (by simp)
          have d0 := b1.cell 0
          have HK2 := Lib.hid ((HK.out.alloc (.cells #[.int .i64 x.a, .int .i64 x.n, .string x.o, .int .i64 x.f, .bool x.s, .bool x.w] 24)).trans k1 (by simp))
          clear k1 b1 HVA
          go_wp2_with fail
          go_ret
          exact ⟨ret_bool HE.out.symm, HK2.out⟩
    · obtain rfl : k = L.length := by omega
      have hc := HCH.out
      rw [List.drop_length] at hc
      have eV : V = decide (L.length ≤ 16) := by rw [← HV.out]; unfold Vl; rw [hc]; rfl
      have HE := Lib.hid eV
      clear eV hc kp
      go_wp2_with fail
      go_ret
      rw [HE.out]
      exact ⟨ret_bool (by simp; omega), HK.out⟩
/-- The names and the list are short. -/
def nmd (L : List Ar) : Bool := L.all (fun x => decide (x.o.size ≤ 20)) && decide (L.length ≤ 20)
set_option maxRecDepth 100000 in
set_option maxHeartbeats 3200000 in
theorem named_any (w : World) (A : Option Addr) (L : List Ar) (c : Nat) (h : AtL w A L) :
    Calls Try.prog 7 #[.slice A L.length c] w fun e w' => e = .returned (.bool (nmd L)) ∧ w = w' := by
  have hm := h.mx
  have HH := Lib.hid h
  obtain ⟨V, hV⟩ : ∃ V, nmd L = V := ⟨_, rfl⟩
  rw [hV]
  have HV := Lib.hid hV
  clear h hV
  go_enter Try.func7, Try.ntmps7
  go_wp2_with fail
  go_loop [3] (fun i => ∃ k : Nat, k ≤ L.length ∧ i = .int .i64 k ∧ L.all (fun x => decide (x.o.size ≤ 20)) = (L.drop k).all (fun x => decide (x.o.size ≤ 20))) (fun i => L.length - (intOf i).toNat)
  case atStart => exact ⟨0, by omega, rfl, by rw [List.drop_zero]⟩
  case round =>
    obtain ⟨k, hk, rfl, hch⟩ := hrel
    have HCH := Lib.hid hch
    clear hch
    by_cases hlt : k < L.length
    · obtain ⟨bl, off, rfl, hbl, hc⟩ := HH.out.at_ (by omega)
      obtain ⟨-, -, c2, -, -, -⟩ := hc k hlt
      have hd := HCH.out
      rw [List.drop_eq_getElem_cons hlt, List.all_cons] at hd
      obtain ⟨x, hx⟩ : ∃ x, L[k] = x := ⟨_, rfl⟩
      rw [hx] at c2 hd
      have HD := Lib.hid hd
      clear hx hc hd
      by_cases hs : x.o.size ≤ 20
      · have hn : L.all (fun x => decide (x.o.size ≤ 20)) = (L.drop (k + 1)).all (fun x => decide (x.o.size ≤ 20)) := by rw [HD.out, decide_eq_true hs]; rfl
        have HN := Lib.hid hn
        clear hn
        go_wp2_with fail
        go_round
        case rel => exact ⟨k + 1, by omega, by go_num, HN.out⟩
        case measure => simp [intOf]; omega
      · have eV : V = false := by rw [← HV.out]; unfold nmd; rw [HD.out, decide_eq_false hs]; rfl
        have HE := Lib.hid eV
        have hs' : 20 < x.o.size := by omega
        clear eV hs
        go_wp2_with fail
        go_ret
        exact ⟨ret_bool HE.out.symm, rfl⟩
    · obtain rfl : k = L.length := by omega
      have hc := HCH.out
      rw [List.drop_length] at hc
      have eV : V = decide (L.length ≤ 20) := by rw [← HV.out]; unfold nmd; rw [hc]; rfl
      have HE := Lib.hid eV
      clear eV hc
      go_wp2_with fail
      go_ret
      rw [HE.out]
      exact ⟨ret_bool (by simp; omega), rfl⟩
set_option maxRecDepth 100000 in
set_option maxHeartbeats 3200000 in
theorem same_any (w : World) (A B : Option Addr) (L : List Ar) (c d : Nat) (h1 : AtL w A L) (h2 : AtL w B L) :
    Calls Try.prog 11 #[.slice A L.length c, .slice B L.length d] w fun e w' => e = .returned (.bool true) ∧ Keeps [] w w' := by
  have hm := h1.mx
  have H1 := Lib.hid h1
  have H2 := Lib.hid h2
  clear h1 h2
  go_enter Try.func11, Try.ntmps11
  go_wp2_with fail
  go_loopw [5] (fun i wr => ∃ k : Nat, k ≤ L.length ∧ i = .int .i64 k ∧ Keeps [] w wr) (fun i _ => L.length - (intOf i).toNat)
  case atStart => exact ⟨0, by omega, rfl, Keeps.refl _ _⟩
  case round =>
    obtain ⟨k, hk, rfl, kp⟩ := hrel
    have HK := Lib.hid kp
    by_cases hlt : k < L.length
    · obtain ⟨b1, o1, rfl, hb1, hc1⟩ := (H1.out.keep kp).at_ (by omega)
      obtain ⟨b2, o2, rfl, hb2, hc2⟩ := (H2.out.keep kp).at_ (by omega)
      obtain ⟨c0, c1, c2, c3, c4, c5⟩ := hc1 k hlt
      obtain ⟨d0, d1, d2, d3, d4, d5⟩ := hc2 k hlt
      have hi0 : (0 : Int) ≤ (k : Int) := by omega
      have hi1 : (k : Int) < (L.length : Int) := by omega
      generalize L[k] = x at *
      clear hc1 hc2 kp hb1 hb2
      go_wp2_with fail
      go_quiet (fail)
      go_wp2_with fail
      go_roundw
      case rel => exact ⟨k + 1, by omega, by go_num, HK.out.drewN _⟩
      case measure => simp [intOf]; omega
    · go_wp2_with fail
      go_ret
      exact ⟨rfl, HK.out⟩
end Go.Proofs.Ytiffjaociblboaa
