/- The walk of TlbKeeps. -/
import Derived.Test.YtkfcoemdpcjhfaaK3
import Derived.Test.YtkfcoemdpcjhfaaT2
namespace Go.Proofs.Ytkfcoemdpcjhfaa
open Go.RowKit

/-- The state ahead of a round. -/
structure KW (w wr : World) (F : List Nat) (p : Nat) (N : Nat) (s pg f : Int) (t : Tl) (v : Value) (O : List En) : Prop where
  o : Own1 w wr F p t
  k : KI t N s pg f O
  r : wr.ownsRow 0 34 4 v O.length (es O)
  d : ∀ g ∈ fp v, g ∉ F
  b : ∀ g ∈ fp v, w.heap.size ≤ g
section
variable {w wr w' : World} {F : List Nat} {p N : Nat} {s pg f : Int} {t t' : Tl} {v v' : Value} {O O' : List En}
theorem KW.keep (h : KW w wr F p N s pg f t v O) (k : Keeps [] wr w') : KW w w' F p N s pg f t v O :=
  ⟨⟨h.o.r.keep k (by simp), h.o.k.trans k (by simp), h.o.f⟩, h.k, own_keep h.r k (by simp), h.d, h.b⟩
/-- Behind an operation: the cache has turned, the list has not. -/
structure KV (w wr : World) (F : List Nat) (p : Nat) (t : Tl) (v : Value) (O : List En) : Prop where
  o : Own1 w wr F p t
  r : wr.ownsRow 0 34 4 v O.length (es O)
  d : ∀ g ∈ fp v, g ∉ F
  b : ∀ g ∈ fp v, w.heap.size ≤ g
theorem KV.keep (h : KV w wr F p t v O) (k : Keeps [] wr w') : KV w w' F p t v O :=
  ⟨⟨h.o.r.keep k (by simp), h.o.k.trans k (by simp), h.o.f⟩, own_keep h.r k (by simp), h.d, h.b⟩
theorem KW.next (h : KW w wr F p N s pg f t v O) (n : Next 49 wr w' F p t') : ∃ F', KV w w' F' p t' v O := by
  obtain ⟨F', r, k, f⟩ := n
  refine ⟨F', ⟨r, h.o.k.trans k (fun g hg => .inr (h.o.f g hg)), fun g hg => (f g hg).elim (h.o.f g) (fun x => Nat.le_trans h.o.k.size x)⟩, own_keep h.r k h.d, fun g hg hF => ?_, h.b⟩
  rcases f g hF with h1 | h1
  · exact h.d g hg h1
  · have := own_lt h.r hg; omega
theorem KV.to (h : KV w wr F p t v O) (k : KI t N s pg f O) : KW w wr F p N s pg f t v O := ⟨h.o, k, h.r, h.d, h.b⟩
theorem KV.none (h : KV w wr F p t v O) (k : KI t N s pg f []) : KW w wr F p N s pg f t (.slice none 0 0) [] := ⟨h.o, k, World.ownsRow_nil _ _ _ _, by simp, by simp⟩
theorem KV.app (h : KV w wr F p t v O) {O' : List En} (r : w'.ownsRow 0 34 4 v' O'.length (es O')) (k : Keeps (fp v) wr w') (hf : ∀ g ∈ fp v', g ∈ fp v ∨ wr.heap.size ≤ g) : KV w w' F p t v' O' := by
  refine ⟨⟨h.o.r.keep k (fun g hg hv => h.d g hv hg), h.o.k.trans k (fun g hg => .inr (h.b g hg)), h.o.f⟩, r, fun g hg hF => ?_, fun g hg => (hf g hg).elim (h.b g) (fun x => Nat.le_trans h.o.k.size x)⟩
  rcases hf g hg with h1 | h1
  · exact h.d g h1 hF
  · have := h.o.r.lt g hF; omega
theorem more_in {O : List En} {x : En} (h : (O.any (fun y => y.is x.s x.p)) = true) : more O x = O := by unfold more; rw [if_pos h]
theorem more_out {O : List En} {x : En} (h : (O.any (fun y => y.is x.s x.p)) = false) : more O x = O ++ [⟨x.s, x.p, 0, false⟩] := by unfold more; rw [h]; rfl
theorem more_le (O : List En) (x : En) : (more O x).length ≤ O.length + 1 := by unfold more; split <;> simp
end

set_option maxRecDepth 100000 in
set_option maxHeartbeats 6400000 in
theorem keeps_out (w : World) (nn s pg f : Int) (A : Option Addr) (m c : Nat) (hz1 : -9223372036854775808 ≤ nn) (hz2 : nn ≤ 9223372036854775807) (hm : m ≤ 9223372036854775807) (g1 : nn < 1 ∨ 40 < nn ∨ 120 < m) :
    Calls Try.prog 4 #[.int .i64 nn, .int .i64 s, .int .i64 pg, .int .i64 f, .slice A m c] w fun e w' => e = .returned (.bool true) ∧ Keeps [] w w' := by
  by_cases a1 : nn < 1
  · clear g1
    go_enter Try.func4, Try.ntmps4
    go_wp2_with fail
    refine (small_any _).mono ?_
    rintro e w1 ⟨rfl, k1⟩
    go_wp2_with fail
    refine (new_any _ nn hz1 hz2).mono ?_
    rintro e w2 ⟨F, p, rfl, r2, k2, f2⟩
    go_wp2
    go_ret
    exact ⟨rfl, k1.trans k2 (by simp)⟩
  by_cases a2 : 40 < nn
  · clear g1
    go_enter Try.func4, Try.ntmps4
    go_wp2_with fail
    refine (small_any _).mono ?_
    rintro e w1 ⟨rfl, k1⟩
    go_wp2_with fail
    refine (new_any _ nn hz1 hz2).mono ?_
    rintro e w2 ⟨F, p, rfl, r2, k2, f2⟩
    go_wp2
    go_ret
    exact ⟨rfl, k1.trans k2 (by simp)⟩
  have a3 : 120 < m := by omega
  clear g1
  go_enter Try.func4, Try.ntmps4
  go_wp2_with fail
  refine (small_any _).mono ?_
  rintro e w1 ⟨rfl, k1⟩
  go_wp2_with fail
  refine (new_any _ nn hz1 hz2).mono ?_
  rintro e w2 ⟨F, p, rfl, r2, k2, f2⟩
  go_wp2
  go_ret
  exact ⟨rfl, k1.trans k2 (by simp)⟩

set_option maxRecDepth 100000 in
set_option maxHeartbeats 6400000 in
theorem keeps_any (w : World) (nn s pg f : Int) (A : Option Addr) (m c : Nat) (d : Nat → Int) (en : Nat → En) (hm : m ≤ 9223372036854775807) (hz1 : -9223372036854775808 ≤ nn) (hz2 : nn ≤ 9223372036854775807)
    (hA : 0 < m → ∃ bl off, A = some ⟨bl, off, none⟩ ∧ ActsAt w bl off m d en) :
    Calls Try.prog 4 #[.int .i64 nn, .int .i64 s, .int .i64 pg, .int .i64 f, .slice A m c] w fun e w' => e = .returned (.bool true) ∧ Keeps [] w w' := by
  by_cases g1 : nn < 1 ∨ 40 < nn ∨ 120 < m
  · exact keeps_out w nn s pg f A m c hz1 hz2 hm g1
  have b1 : 1 ≤ nn := by omega
  have b2 : nn ≤ 40 := by omega
  have b3 : m ≤ 120 := by omega
  clear g1 hm
  obtain ⟨N, rfl⟩ : ∃ N : Nat, nn = N := ⟨nn.toNat, by omega⟩
  have hNN : ((N : Nat) : Int).toNat = N := by omega
  go_enter Try.func4, Try.ntmps4
  go_wp2_with fail
  refine (small_any _).mono ?_
  rintro e w1 ⟨rfl, k1⟩
  go_wp2_with fail
  refine (new_any _ N hz1 hz2).mono ?_
  rintro e w2 ⟨F, p, rfl, r2, k2, f2⟩
  rw [hNN] at r2
  have O2 : Own1 w w2 F p ⟨N, []⟩ := ⟨r2, k1.trans k2 (by simp), fun g hg => Nat.le_trans k1.size (f2 g hg)⟩
  clear k1 k2 f2 r2 hNN
  go_wp2_with fail
  refine (fill_any _ F p ⟨N, []⟩ ⟨s, pg, f, true⟩ (by show N ≤ 1000; omega) O2.r).mono ?_
  rintro e w3 ⟨rfl, x3⟩
  obtain ⟨F3, O3⟩ := O2.next (t := (⟨N, []⟩ : Tl).fill ⟨s, pg, f, true⟩) x3
  have I0 : KW w w3 F3 p N s pg f ((⟨N, []⟩ : Tl).fill ⟨s, pg, f, true⟩) (.slice none 0 0) [] := ⟨O3, KI.init (by omega), World.ownsRow_nil _ _ _ _, by simp, by simp⟩
  clear x3 O2 O3
  generalize (⟨N, []⟩ : Tl).fill ⟨s, pg, f, true⟩ = t0 at *
  go_wp2_with fail
  go_loopw [13, 14] (fun v i wr => ∃ (k : Nat) (t : Tl) (F : List Nat) (O : List En), k ≤ m ∧ i = .int .i64 k ∧ KW w wr F p N s pg f t v O) (fun _ i _ => m - (intOf i).toNat)
  case atStart => exact ⟨0, _, F3, [], by omega, rfl, I0⟩
  case round =>
    clear I0
    obtain ⟨i, t, F, O, hi, rfl, I⟩ := hrel
    by_cases hlt : i < m
    rotate_left
    · obtain rfl : i = m := by omega
      have hx := look_any _ F p t s pg true (by have := I.k.n; omega) I.o.r
      rw [I.k.last] at hx
      have HX := Lib.hid hx
      clear hx
      go_wp2_with fail
      refine HX.out.mono ?_
      rintro e w4 ⟨rfl, x4⟩
      obtain ⟨F4, O4⟩ := I.o.next x4
      have K4 := O4.k
      clear I x4 O4 HX
      go_wp2
      go_ret
      exact ⟨rfl, K4⟩
    obtain ⟨bl, off, rfl, A0⟩ := hA (by omega)
    clear hA
    have O1 := A0.keep I.o.k
    have q0 := O1.c0 i hlt
    have q1 := O1.c1 i hlt
    have q2 := O1.c2 i hlt
    have q3 := O1.c3 i hlt
    have q4 := O1.c4 i hlt
    have h7 := and_7 (d i)
    have hq0 := Int.emod_nonneg (d i) (by omega : (8 : Int) ≠ 0)
    have hq1 := Int.emod_lt_of_pos (d i) (by omega : (0 : Int) < 8)
    obtain ⟨Av, cv, rfl, -, -, hAv⟩ := own_shape I.r
    have kB : Keeps [] wr (wr.alloc (.cells #[.int .i64 (d i), .int .i64 (en i).s, .int .i64 (en i).p, .int .i64 (en i).f, .bool (en i).w] 29)) := (Keeps.refl [] wr).alloc _
    have pB : Blk (wr.alloc (.cells #[.int .i64 (d i), .int .i64 (en i).s, .int .i64 (en i).p, .int .i64 (en i).f, .bool (en i).w] 29)) wr.heap.size 29 #[.int .i64 (d i), .int .i64 (en i).s, .int .i64 (en i).p, .int .i64 (en i).f, .bool (en i).w] := Blk.new _ _ _
    have I2 := I.keep kB
    have hxb : ∀ g ∈ F, g ≠ wr.heap.size := fun g hg e => by have := I.o.r.lt g hg; omega
    have hxv : ∀ g ∈ fp (.slice Av O.length cv), g ≠ wr.heap.size := fun g hg e => by have := own_lt I.r hg; omega
    have hxl : w.heap.size ≤ wr.heap.size := I.o.k.size
    clear I kB O1
    have HA := Lib.hid A0
    clear A0
    go_upto_region 12 with fail
    clear q0 q1 q2 q3 q4 h7
    generalize wr.alloc (.cells #[.int .i64 (d i), .int .i64 (en i).s, .int .i64 (en i).p, .int .i64 (en i).f, .bool (en i).w] 29) = wB at *
    generalize wr.heap.size = xb at *
    have HKI := Lib.hid I2.k
    have HA1 := Lib.hid (fun (hq : d i % 8 < 3) (hs : sameB (en i) s pg = true) => I2.k.stepA (d := d i) (x := en i) hq hs)
    have HB1 := Lib.hid (fun (h1 : quitB (d i % 8) (sameB (en i) s pg) (en i) s f = false) => I2.k.stepB (d := d i) (x := en i) h1)
    have HC1 := Lib.hid (fun (h1 : quitB (d i % 8) (sameB (en i) s pg) (en i) s f = false) => I2.k.stepC (d := d i) (x := en i) h1)
    have hd := do_any wB F p t (d i) (en i) (by have := I2.k.n; omega) I2.o.r
    have HD := Lib.hid hd
    have htn : t.n = N := I2.k.n
    have HTN := Lib.hid htn
    clear hd htn
    generalize t.op (d i) (en i) = t' at *
    generalize t.opR (d i) (en i) = R at *
    obtain ⟨R1, R2⟩ := R
    have HA2 : Hid (d i % 8 < 3 → sameB (en i) s pg = true → R2 = true ∧ KI t' N s pg f []) := HA1
    have HB2 : Hid (quitB (d i % 8) (sameB (en i) s pg) (en i) s f = false → skipB (d i % 8) R2 = true → KI t' N s pg f O) := HB1
    have HC2 : Hid (quitB (d i % 8) (sameB (en i) s pg) (en i) s f = false → (decide (d i % 8 < 3) && sameB (en i) s pg) = false → skipB (d i % 8) R2 = false → (more O (en i)).length < N → KI t' N s pg f (more O (en i))) := HC1
    clear HA1 HB1 HC1
    refine kreg12_any wB s pg (d i) xb (en i) pB _ _ _ _ _ _ _ _ _ _ _ _ _ _ _ _ _ _ _ _ _ _ _ _ _ _ _ _ _ _ _ _ _ _ _ _ _ _ _ _ _ _ _ _ _ _ _ _ _ _ _ _ _ _ _ _ _ _ _ _ _ _ _ _ _ _ _ _ _ _ _ _ _ _ _ _ _ _ _ _ _ _ _ _ _ _ _ _ _ _ _ _ _ _ _ _ _ _ _ _ _ _ _ _ _ _ _ _ _ _ _ _ _ _ _ _ _ _ _ _ _ _ _ _ _ _ _ _ _ _ _ _ _ _ _ _ _ _ _ _ _ _ _ _ _ _ _ _ _ _ _ _ _ _ _ _ _ _ _ _ _ _ _ _ _ _ _ _ _ _ _ _ _ _ _ _ _ _ _ _ _ _ _ _ _ _ _ _ _ _ _ ?_
    intro v65 v66 v67 v68 v69 v70 v71 v72 v73 v74
    generalize hsm : sameB (en i) s pg = sm at *
    clear hsm
    go_upto_region 13 with fail
    refine kreg13_any wB s f (d i) (d i % 8) sm xb (en i) hq0 hq1 pB _ _ _ _ _ _ _ _ _ _ _ _ _ _ _ _ _ _ _ _ _ _ _ _ _ _ _ _ _ _ _ _ _ _ _ _ _ _ _ _ _ _ _ _ _ _ _ _ _ _ _ _ _ _ _ _ _ _ _ _ _ _ _ _ _ _ _ _ _ _ _ _ _ _ _ _ _ _ _ _ _ _ _ _ _ _ _ _ _ _ _ _ _ _ _ _ _ _ _ _ _ _ _ _ _ _ _ _ _ _ _ _ _ _ _ _ _ _ _ _ _ _ _ _ _ _ _ _ _ _ _ _ _ _ _ _ _ _ _ _ _ _ _ _ _ _ _ _ _ _ _ _ _ _ _ _ _ _ _ _ _ _ _ _ _ _ _ _ _ _ _ _ _ _ _ _ _ _ _ _ _ _ _ _ _ _ _ _ _ ?_
    intro v75 v76 v77 v78 v79 v80 v81 v82 v83 v84 v85 v86 v87 v88 v89 v90 v91 v92 v93 v94 v95 v96 v97 v98 v99 v100 v101 v102 v103 v104 v105 v106 v107 v108 v109
    generalize hqt : quitB (d i % 8) sm (en i) s f = qt at *
    clear hqt
    generalize hq : d i % 8 = q at *
    clear hq
    cases qt with
    | true =>
      have K4 := I2.o.k
      clear I2
      go_wp2_with fail
      go_ret
      exact ⟨rfl, K4⟩
    | false =>
    have y0 := pB.cell 0
    have y1 := pB.cell 1
    have y2 := pB.cell 2
    have y3 := pB.cell 3
    have y4 := pB.cell 4
    go_wp2_with fail
    refine HD.out.mono ?_
    rintro e w4 ⟨rfl, x4⟩
    obtain ⟨F4, J4⟩ := I2.next x4
    have pB4 : Blk w4 xb 29 #[.int .i64 (d i), .int .i64 (en i).s, .int .i64 (en i).p, .int .i64 (en i).f, .bool (en i).w] := by
      obtain ⟨_, _, k, _⟩ := x4
      exact pB.keep k (fun h => hxb xb h rfl)
    clear y0 y1 y2 y3 y4 HD x4 I2 pB hxb
    go_upto_region 16 with fail
    refine kreg16_any w4 q sm _ _ _ _ _ _ _ _ _ _ _ _ _ _ _ _ _ _ _ _ _ _ _ _ _ _ _ _ _ _ _ _ _ _ _ _ _ _ _ _ _ _ _ _ _ _ _ _ _ _ _ _ _ _ _ _ _ _ _ _ _ _ _ _ _ _ _ _ _ _ _ _ _ _ _ _ _ _ _ _ _ _ _ _ _ _ _ _ _ _ _ _ _ _ _ _ _ _ _ _ _ _ _ _ _ _ _ _ _ _ _ _ _ _ _ _ _ _ _ _ _ _ _ _ _ _ _ _ _ _ _ _ _ _ _ _ _ _ _ _ _ _ _ _ _ _ _ _ _ _ _ _ _ _ _ _ _ _ _ _ _ _ _ _ _ _ _ _ _ _ _ _ _ _ _ _ _ _ _ _ _ _ _ _ _ _ _ _ _ _ _ _ ?_
    intro v118 v119 v120 v121
    cases ha : (decide (q < 3) && sm) with
    | true =>
      have ha1 : q < 3 ∧ sm = true := by simpa using ha
      obtain ⟨rfl, hk⟩ := HA2.out ha1.1 ha1.2
      have J5 := J4.none hk
      clear ha ha1 HA2 HB2 HC2 J4 pB4 hxv hAv
      go_wp2_with fail
      go_roundw
      case rel => exact ⟨i + 1, t', F4, [], by omega, by go_num, J5⟩
      case measure => simp [intOf]; omega
    | false =>
    have HC3 := Lib.hid (HC2.out trivial ha)
    clear HA2 HC2 ha
    go_upto_region 20 with fail
    refine kreg20_any w4 q R2 _ _ _ _ _ _ _ _ _ _ _ _ _ _ _ _ _ _ _ _ _ _ _ _ _ _ _ _ _ _ _ _ _ _ _ _ _ _ _ _ _ _ _ _ _ _ _ _ _ _ _ _ _ _ _ _ _ _ _ _ _ _ _ _ _ _ _ _ _ _ _ _ _ _ _ _ _ _ _ _ _ _ _ _ _ _ _ _ _ _ _ _ _ _ _ _ _ _ _ _ _ _ _ _ _ _ _ _ _ _ _ _ _ _ _ _ _ _ _ _ _ _ _ _ _ _ _ _ _ _ _ _ _ _ _ _ _ _ _ _ _ _ _ _ _ _ _ _ _ _ _ _ _ _ _ _ _ _ _ _ _ _ _ _ _ _ _ _ _ _ _ _ _ _ _ _ _ _ _ _ _ _ _ _ _ _ _ _ _ _ _ _ ?_
    intro v125 v126 v127 v128 v129 v130 v131 v132 v133
    cases hb : skipB q R2 with
    | true =>
      have hk := HB2.out trivial hb
      have J5 := J4.to hk
      clear hb hk HB2 HC3 J4 pB4 hxv hAv
      go_wp2_with fail
      go_roundw
      case rel => exact ⟨i + 1, t', F4, O, by omega, by go_num, J5⟩
      case measure => simp [intOf]; omega
    | false =>
    have HC4 := Lib.hid (HC3.out hb)
    have hON : O.length < N := HKI.out.o
    clear HB2 HC3 hb HKI
    go_wp2_with fail
    go_loopw [20, 21] (fun fo a wc => ∃ k : Nat, k ≤ O.length ∧ a = .int .i64 k ∧ fo = .bool ((O.take k).any (fun y => y.is (en i).s (en i).p)) ∧ Keeps [] w4 wc) (fun _ a _ => O.length - (intOf a).toNat)
    case atStart => exact ⟨0, by omega, rfl, rfl, Keeps.refl _ _⟩
    case round =>
      obtain ⟨k, hk, rfl, rfl, kp⟩ := hrel
      have pB5 := pB4.keep kp (by simp)
      have J5 := J4.keep kp
      clear J4 pB4 hxv
      by_cases hkl : k < O.length
      · obtain ⟨gv, rfl⟩ := hAv (by omega)
        have hany : (O.take (k + 1)).any (fun y => y.is (en i).s (en i).p) = ((O.take k).any (fun y => y.is (en i).s (en i).p) || O[k].is (en i).s (en i).p) := by
          rw [List.take_succ_eq_append_getElem hkl, List.any_append]; simp
        have HY := Lib.hid hany
        have ho := J5.r
        clear hany J5 HC4
        generalize (O.take k).any (fun y => y.is (en i).s (en i).p) = fo at *
        go_wp2_with fail
        refine kreg25_any wr (d i) fo xb gv cv k (en i) O hkl ho pB5 _ _ _ _ _ _ _ _ _ _ _ _ _ _ _ _ _ _ _ _ _ _ _ _ _ _ _ _ _ _ _ _ _ _ _ _ _ _ _ _ _ _ _ _ _ _ _ _ _ _ _ _ _ _ _ _ _ _ _ _ _ _ _ _ _ _ _ _ _ _ _ _ _ _ _ _ _ _ _ _ _ _ _ _ _ _ _ _ _ _ _ _ _ _ _ _ _ _ _ _ _ _ _ _ _ _ _ _ _ _ _ _ _ _ _ _ _ _ _ _ _ _ _ _ _ _ _ _ _ _ _ _ _ _ _ _ _ _ _ _ _ _ _ _ _ _ _ _ _ _ _ _ _ _ _ _ _ _ _ _ _ _ _ _ _ _ _ _ _ _ _ _ _ _ _ _ _ _ _ _ _ _ _ _ _ _ _ _ _ _ ?_
        intro v141 v142 v143 v144 v145 v146 v147 v148 v149 v150 v151 v152 v153 v154 v155 v156 v157 v158 v159 v160 v161 nq
        have kq := kp.drewN nq
        clear kp ho pB5
        go_wp2_with fail
        go_roundw
        case rel => exact ⟨k + 1, by omega, by go_num, by rw [HY.out], kq⟩
        case measure => simp [intOf]; omega
      · obtain rfl : k = O.length := by omega
        clear kp
        rw [List.take_length]
        cases hf : O.any (fun y => y.is (en i).s (en i).p) with
        | true =>
          rw [more_in hf] at HC4
          have J6 := J5.to (HC4.out hON)
          have hge : decide ((N : Int) ≤ O.length) = false := by simp; omega
          clear hf HC4 J5 pB5
          go_wp2_with fail
          go_roundw
          case rel => exact ⟨i + 1, t', F4, O, by omega, by go_num, J6⟩
          case measure => simp [intOf]; omega
        | false =>
          rw [more_out hf] at HC4
          have c1 := pB5.cell 1
          have c2 := pB5.cell 2
          have HI := Lib.hid info34
          have HO := Lib.hid (fun W (hW : Keeps [] wr W) => own_keep J5.r hW (by simp))
          clear hf
          go_wp2_with (at_builtin; refine wpList_app _ rfl (.tmp 164) (.tmp 170) _ rfl 34 (.agg #[.int .i64 0, .int .i64 0, .int .i64 0, .bool false]) 4 32 Try.underlying32 HI.out rfl (by omega) (.slice Av O.length cv) _ _ rfl (HO.out _ ((Keeps.refl [] _).alloc _)) _ _ _ _ _ rfl (reads_cells wr #[.int .i64 (en i).s, .int .i64 (en i).p, .int .i64 0, .bool false] 1 4 34 rfl) (ec_one ⟨(en i).s, (en i).p, 0, false⟩) (by unfold maxLen; omega) (by omega) ?_)
          intro v6 w6 o6 k6 f6
          have o7 : w6.ownsRow 0 34 4 v6 (O ++ [(⟨(en i).s, (en i).p, 0, false⟩ : En)]).length (es (O ++ [⟨(en i).s, (en i).p, 0, false⟩])) := by rw [es_append, List.length_append]; exact o6
          have J6 := (J5.keep ((Keeps.refl [] wr).alloc (.cells #[.int .i64 (en i).s, .int .i64 (en i).p, .int .i64 0, .bool false] 34))).app o7 k6 (by simpa using f6)
          obtain ⟨A6, c6, rfl, -, -, -⟩ := own_shape o6
          clear o6 k6 f6 o7 J5 pB5 HO c1 c2
          by_cases hge : N ≤ O.length + 1
          · have hge1 : decide ((N : Int) ≤ (O.length : Int) + 1) = true := by simp; omega
            have hge2 : decide ((N : Int) ≤ ((O.length + 1 : Nat) : Int)) = true := by simp; omega
            have K7 := J6.o.k
            clear J6 HC4 hge
            go_wp2_with fail
            go_ret
            exact ⟨rfl, K7⟩
          · have hge1 : decide ((N : Int) ≤ (O.length : Int) + 1) = false := by simp; omega
            have hge2 : decide ((N : Int) ≤ ((O.length + 1 : Nat) : Int)) = false := by simp; omega
            have J7 := J6.to (HC4.out (by simp; omega))
            clear J6 HC4 hge
            go_wp2_with fail
            go_roundw
            case rel => exact ⟨i + 1, t', F4, _, by omega, by go_num, by simpa using J7⟩
            case measure => simp [intOf]; omega
end Go.Proofs.Ytkfcoemdpcjhfaa
