/- Texts of the elder seat, turned to this one: W38 W39. -/
import Derived.Test.YtbllmpcpfmlemaaGreatMT
namespace Go.Proofs.YtbllmpcpfmlemaaGreat
open Go.RowKit
/-- The numbers l lie at A. -/
structure AtZ (w : World) (A : Option Addr) (l : List Int) : Prop where
  at_ : 0 < l.length → ∃ b off, A = some ⟨b, off, none⟩ ∧ b < w.heap.size ∧ ∀ k (hk : k < l.length), w.cell? ⟨b, off + k, none⟩ = some (.int .i64 l[k])
  mx : l.length ≤ 2000000
theorem AtZ.keep {w w' : World} {A : Option Addr} {l : List Int} (h : AtZ w A l) (hk : Keeps [] w w') : AtZ w' A l := by
  refine ⟨fun h0 => ?_, h.mx⟩
  obtain ⟨b, off, h1, h2, h3⟩ := h.at_ h0
  exact ⟨b, off, h1, Nat.lt_of_lt_of_le h2 hk.size, fun k hk' => (hk.cell (p := ⟨b, off + k, none⟩) h2 (by simp)).trans (h3 k hk')⟩
theorem AtZ.of_own {w : World} {A : Option Addr} {c : Nat} {l : List Int} (h : w.ownsRow 0 3 1 (.slice A l.length c) l.length (zs l)) (hm : l.length ≤ 2000000) : AtZ w A l := by
  refine ⟨fun h0 => ?_, hm⟩
  obtain ⟨_, _, hv, -, -, hA⟩ := own_shape h
  obtain ⟨g, hg⟩ := hA h0
  obtain ⟨rfl, -, rfl⟩ : A = _ ∧ l.length = _ ∧ c = _ := by injection hv with h1 h2 h3; exact ⟨h1, rfl, h3⟩
  subst hg
  refine ⟨g, 0, rfl, own_lt h (by simp [fp, Value.ownBlock]), fun k hk => ?_⟩
  rw [Nat.zero_add]
  exact own_cell h (by simp [zs, hk])
/-- The pairs l lie at A. -/
structure AtP (w : World) (A : Option Addr) (l : List (Str × Str)) : Prop where
  at_ : 0 < l.length → ∃ b off, A = some ⟨b, off, none⟩ ∧ b < w.heap.size ∧ ∀ k (hk : k < l.length), w.cell? ⟨b, off + k * 2, none⟩ = some (sv l[k].1) ∧ w.cell? ⟨b, off + k * 2 + 1, none⟩ = some (sv l[k].2)
  mx : l.length ≤ 1000000
theorem AtP.keep {w w' : World} {A : Option Addr} {l : List (Str × Str)} (h : AtP w A l) (hk : Keeps [] w w') : AtP w' A l := by
  refine ⟨fun h0 => ?_, h.mx⟩
  obtain ⟨b, off, h1, h2, h3⟩ := h.at_ h0
  have e : ∀ o, w'.cell? ⟨b, o, none⟩ = w.cell? ⟨b, o, none⟩ := fun o => hk.cell (p := ⟨b, o, none⟩) h2 (by simp)
  exact ⟨b, off, h1, Nat.lt_of_lt_of_le h2 hk.size, fun k hk' => by simp only [e]; exact h3 k hk'⟩
theorem AtP.of_own {w : World} {A : Option Addr} {c : Nat} {l : List (Str × Str)} (h : w.ownsRow 0 88 2 (.slice A l.length c) l.length (rw pc l)) (hm : l.length ≤ 1000000) : AtP w A l := by
  refine ⟨fun h0 => ?_, hm⟩
  obtain ⟨_, _, hv, -, -, hA⟩ := own_shape h
  obtain ⟨g, hg⟩ := hA h0
  obtain ⟨rfl, -, rfl⟩ : A = _ ∧ l.length = _ ∧ c = _ := by injection hv with h1 h2 h3; exact ⟨h1, rfl, h3⟩
  subst hg
  have hc : ∀ k (hk : k < l.length) j (_ : j < 2) u, (pc l[k])[j]? = some u → w.cell? ⟨g, k * 2 + j, none⟩ = some u := fun k hk j hj u hu => own_cell h (by rw [rw_at pc_len hk hj]; exact hu)
  refine ⟨g, 0, rfl, own_lt h (by simp [fp, Value.ownBlock]), fun k hk => ?_⟩
  rw [Nat.zero_add]
  exact ⟨hc k hk 0 (by omega) _ rfl, hc k hk 1 (by omega) _ rfl⟩
set_option maxRecDepth 100000 in
set_option maxHeartbeats 3200000 in
theorem same_any (w : World) (A B : Option Addr) (l m : List Str) (c d : Nat) (ha : AtS w A l) (hb : AtS w B m) :
    Calls Tryz.prog 13 #[.slice A l.length c, .slice B m.length d] w fun e w' => e = .returned (.bool (decide (l = m))) ∧ Keeps [] w w' := by
  have h1 := ha.mx
  have h2 := hb.mx
  have HA := Lib.hid ha
  have HB := Lib.hid hb
  obtain ⟨V, hV⟩ : ∃ V, decide (l = m) = V := ⟨_, rfl⟩
  rw [hV]
  have HV := Lib.hid hV
  clear ha hb hV
  by_cases hl : l.length = m.length
  · have HL := Lib.hid hl
    rw [← hl]
    clear hl
    go_enter Tryz.func13, Tryz.ntmps13
    go_wp2_with fail
    go_loopw [5] (fun iv wr => ∃ k : Nat, k ≤ l.length ∧ iv = .int .i64 k ∧ (∀ j (h1 : j < l.length) (h2 : j < m.length), j < k → l[j] = m[j]) ∧ Keeps [] w wr) (fun iv _ => l.length - (intOf iv).toNat)
    case atStart => exact ⟨0, by omega, rfl, fun j _ _ h => absurd h (by omega), Keeps.refl _ _⟩
    case round =>
      obtain ⟨k, hk, rfl, hall, kp⟩ := hrel
      have HALL := Lib.hid hall
      have KP := Lib.hid kp
      have HA2 := Lib.hid (HA.out.keep kp)
      have HB2 := Lib.hid (HB.out.keep kp)
      clear hall kp
      by_cases hlt : k < l.length
      · have hlm : k < m.length := by have := HL.out; omega
        obtain ⟨ab, ao, hAA, hab, hac⟩ := HA2.out.at_ (by omega)
        obtain ⟨bb, bo, hBB, hbb, hbc⟩ := HB2.out.at_ (by omega)
        subst hAA
        subst hBB
        have c0 := hac k hlt
        have c1 := hbc k hlm
        have i0 : (0 : Int) ≤ (k : Int) := by omega
        have i1 : (k : Int) < (l.length : Int) := by omega
        by_cases he : l[k] = m[k]
        · have HN : Hid (∀ j (h1 : j < l.length) (h2 : j < m.length), j < k + 1 → l[j] = m[j]) := Lib.hid (fun j h1 h2 h => by
            by_cases hj : j < k
            · exact HALL.out j h1 h2 hj
            · obtain rfl : j = k := by omega
              exact he)
          rw [← he] at c1
          generalize l[k] = y at c0 c1
          clear hac hbc he HALL
          go_upto_region 6 with fail
          go_quiet (fail)
          have KN : Hid (Keeps [] w (wr.drewN nq)) := Lib.hid (KP.out.drewN nq)
          clear KP
          go_wp2_with fail
          exact ⟨⟨k + 1, by omega, rfl, HN.out, KN.out⟩, by simp only [intOf]; omega⟩
        · have hV : V = false := by
            rw [← HV.out]
            exact decide_eq_false (fun e => he (by subst e; rfl))
          have HVF := Lib.hid hV
          have hne : (l[k] == m[k]) = false := by simpa using he
          generalize l[k] = y at c0 hne
          generalize m[k] = z at c1 hne
          clear hac hbc he HALL hV
          go_upto_region 6 with fail
          go_quiet (fail)
          have KN : Hid (Keeps [] w (wr.drewN nq)) := Lib.hid (KP.out.drewN nq)
          clear KP
          go_wp2_with fail
          go_ret
          exact ⟨ret_bool HVF.out.symm, KN.out⟩
      · obtain rfl : k = l.length := by omega
        have i1 : ¬ ((l.length : Int) < (l.length : Int)) := by omega
        have hV : V = true := by
          rw [← HV.out]
          refine decide_eq_true (List.ext_getElem HL.out (fun j h1 h2 => HALL.out j h1 h2 h1))
        have HVT := Lib.hid hV
        clear HALL hV
        go_wp2_with fail
        go_ret
        exact ⟨ret_bool HVT.out.symm, KP.out⟩
  · have hV : V = false := by
      rw [← HV.out]
      exact decide_eq_false (fun e => hl (by rw [e]))
    have HVF := Lib.hid hV
    have hne : ((l.length : Int) == (m.length : Int)) = false := by simp; omega
    have hne2 : ¬ ((l.length : Int) = (m.length : Int)) := by omega
    clear hV
    go_enter Tryz.func13, Tryz.ntmps13
    go_wp2_with fail
    go_ret
    exact ⟨ret_bool HVF.out.symm, Keeps.refl _ _⟩
set_option maxRecDepth 100000 in
set_option maxHeartbeats 3200000 in
theorem ints_any (w : World) (A B : Option Addr) (l m : List Int) (c d : Nat) (ha : AtZ w A l) (hb : AtZ w B m) :
    Calls Tryz.prog 21 #[.slice A l.length c, .slice B m.length d] w fun e w' => e = .returned (.bool (decide (l = m))) ∧ Keeps [] w w' := by
  have h1 := ha.mx
  have h2 := hb.mx
  have HA := Lib.hid ha
  have HB := Lib.hid hb
  obtain ⟨V, hV⟩ : ∃ V, decide (l = m) = V := ⟨_, rfl⟩
  rw [hV]
  have HV := Lib.hid hV
  clear ha hb hV
  by_cases hl : l.length = m.length
  · have HL := Lib.hid hl
    rw [← hl]
    clear hl
    go_enter Tryz.func21, Tryz.ntmps21
    go_wp2_with fail
    go_loopw [5] (fun iv wr => ∃ k : Nat, k ≤ l.length ∧ iv = .int .i64 k ∧ (∀ j (h1 : j < l.length) (h2 : j < m.length), j < k → l[j] = m[j]) ∧ Keeps [] w wr) (fun iv _ => l.length - (intOf iv).toNat)
    case atStart => exact ⟨0, by omega, rfl, fun j _ _ h => absurd h (by omega), Keeps.refl _ _⟩
    case round =>
      obtain ⟨k, hk, rfl, hall, kp⟩ := hrel
      have HALL := Lib.hid hall
      have KP := Lib.hid kp
      have HA2 := Lib.hid (HA.out.keep kp)
      have HB2 := Lib.hid (HB.out.keep kp)
      clear hall kp
      by_cases hlt : k < l.length
      · have hlm : k < m.length := by have := HL.out; omega
        obtain ⟨ab, ao, hAA, hab, hac⟩ := HA2.out.at_ (by omega)
        obtain ⟨bb, bo, hBB, hbb, hbc⟩ := HB2.out.at_ (by omega)
        subst hAA
        subst hBB
        have c0 := hac k hlt
        have c1 := hbc k hlm
        have i0 : (0 : Int) ≤ (k : Int) := by omega
        have i1 : (k : Int) < (l.length : Int) := by omega
        by_cases he : l[k] = m[k]
        · have HN : Hid (∀ j (h1 : j < l.length) (h2 : j < m.length), j < k + 1 → l[j] = m[j]) := Lib.hid (fun j h1 h2 h => by
            by_cases hj : j < k
            · exact HALL.out j h1 h2 hj
            · obtain rfl : j = k := by omega
              exact he)
          rw [← he] at c1
          generalize l[k] = y at c0 c1
          clear hac hbc he HALL
          go_upto_region 6 with fail
          go_quiet (fail)
          have KN : Hid (Keeps [] w (wr.drewN nq)) := Lib.hid (KP.out.drewN nq)
          clear KP
          go_wp2_with fail
          exact ⟨⟨k + 1, by omega, rfl, HN.out, KN.out⟩, by simp only [intOf]; omega⟩
        · have hV : V = false := by
            rw [← HV.out]
            exact decide_eq_false (fun e => he (by subst e; rfl))
          have HVF := Lib.hid hV
          have hne : (l[k] == m[k]) = false := by simpa using he
          have hne2 : ¬ l[k] = m[k] := he
          generalize l[k] = y at c0 hne hne2
          generalize m[k] = z at c1 hne hne2
          clear hac hbc he HALL hV
          go_upto_region 6 with fail
          go_quiet (fail)
          have KN : Hid (Keeps [] w (wr.drewN nq)) := Lib.hid (KP.out.drewN nq)
          clear KP
          go_wp2_with fail
          go_ret
          exact ⟨ret_bool HVF.out.symm, KN.out⟩
      · obtain rfl : k = l.length := by omega
        have i1 : ¬ ((l.length : Int) < (l.length : Int)) := by omega
        have hV : V = true := by
          rw [← HV.out]
          refine decide_eq_true (List.ext_getElem HL.out (fun j h1 h2 => HALL.out j h1 h2 h1))
        have HVT := Lib.hid hV
        clear HALL hV
        go_wp2_with fail
        go_ret
        exact ⟨ret_bool HVT.out.symm, KP.out⟩
  · have hV : V = false := by
      rw [← HV.out]
      exact decide_eq_false (fun e => hl (by rw [e]))
    have HVF := Lib.hid hV
    have hne : ((l.length : Int) == (m.length : Int)) = false := by simp; omega
    have hne2 : ¬ ((l.length : Int) = (m.length : Int)) := by omega
    clear hV
    go_enter Tryz.func21, Tryz.ntmps21
    go_wp2_with fail
    go_ret
    exact ⟨ret_bool HVF.out.symm, Keeps.refl _ _⟩
theorem run_neqP (y z : Str × Str) (h : ¬ y = z) (w : World) : (binOp .neq 88 (.agg #[sv y.1, sv y.2]) (.agg #[sv z.1, sv z.2])).run Tryz.prog w = .ok (.bool true) w := by
  have a9 := Tryz.isAgg9
  have z9 := Tryz.sizeOf9
  have u9 := Tryz.underlying9
  have hS : Tryz.prog.underlying 88 = some (.struct (Tryz.prog.fieldsOf 88)) := by kernel_rfl
  have hp : Tryz.prog.stoodInHeld 88 = false := by kernel_rfl
  have hb : ((bs y.1).toList == (bs z.1).toList && (bs y.2).toList == (bs z.2).toList) = false := by
    rw [bs_beq, bs_beq, Bool.eq_false_iff]
    intro hh
    rw [Bool.and_eq_true, decide_eq_true_eq, decide_eq_true_eq] at hh
    exact h (Prod.ext hh.1 hh.2)
  rw [run_neq_struct, show (10000 : Nat) = 9999 + 1 from rfl, run_equalIn_agg w 9999 88 _ _ hS hp]
  simp only [Program.fieldsOf, Tryz.underlying88]
  go_simp
  exact fun h1 h2 => h (Prod.ext h1 h2)
set_option maxRecDepth 100000 in
set_option maxHeartbeats 3200000 in
theorem pairs_any (w : World) (A B : Option Addr) (l m : List (Str × Str)) (c d : Nat) (ha : AtP w A l) (hb : AtP w B m) :
    Calls Tryz.prog 24 #[.slice A l.length c, .slice B m.length d] w fun e w' => e = .returned (.bool (decide (l = m))) ∧ Keeps [] w w' := by
  have h1 := ha.mx
  have h2 := hb.mx
  have HA := Lib.hid ha
  have HB := Lib.hid hb
  obtain ⟨V, hV⟩ : ∃ V, decide (l = m) = V := ⟨_, rfl⟩
  rw [hV]
  have HV := Lib.hid hV
  clear ha hb hV
  by_cases hl : l.length = m.length
  · have HL := Lib.hid hl
    rw [← hl]
    clear hl
    go_enter Tryz.func24, Tryz.ntmps24
    go_wp2_with fail
    go_loopw [5] (fun iv wr => ∃ k : Nat, k ≤ l.length ∧ iv = .int .i64 k ∧ (∀ j (h1 : j < l.length) (h2 : j < m.length), j < k → l[j] = m[j]) ∧ Keeps [] w wr) (fun iv _ => l.length - (intOf iv).toNat)
    case atStart => exact ⟨0, by omega, rfl, fun j _ _ h => absurd h (by omega), Keeps.refl _ _⟩
    case round =>
      obtain ⟨k, hk, rfl, hall, kp⟩ := hrel
      have HALL := Lib.hid hall
      have KP := Lib.hid kp
      have HA2 := Lib.hid (HA.out.keep kp)
      have HB2 := Lib.hid (HB.out.keep kp)
      clear hall kp
      by_cases hlt : k < l.length
      · have hlm : k < m.length := by have := HL.out; omega
        obtain ⟨ab, ao, hAA, hab, hac⟩ := HA2.out.at_ (by omega)
        obtain ⟨bb, bo, hBB, hbb, hbc⟩ := HB2.out.at_ (by omega)
        subst hAA
        subst hBB
        obtain ⟨c0, c2⟩ := hac k hlt
        obtain ⟨c1, c3⟩ := hbc k hlm
        have i0 : (0 : Int) ≤ (k : Int) := by omega
        have i1 : (k : Int) < (l.length : Int) := by omega
        by_cases he : l[k] = m[k]
        · have HN : Hid (∀ j (h1 : j < l.length) (h2 : j < m.length), j < k + 1 → l[j] = m[j]) := Lib.hid (fun j h1 h2 h => by
            by_cases hj : j < k
            · exact HALL.out j h1 h2 hj
            · obtain rfl : j = k := by omega
              exact he)
          rw [← he] at c1 c3
          generalize l[k] = y at c0 c1 c2 c3
          clear hac hbc he HALL
          go_upto_region 6 with fail
          go_quiet (fail)
          have KN : Hid (Keeps [] w (wr.drewN nq)) := Lib.hid (KP.out.drewN nq)
          clear KP
          go_wp2_with fail
          exact ⟨⟨k + 1, by omega, rfl, HN.out, KN.out⟩, by simp only [intOf]; omega⟩
        · have hV : V = false := by
            rw [← HV.out]
            exact decide_eq_false (fun e => he (by subst e; rfl))
          have HVF := Lib.hid hV
          have hq := fun w => run_neqP l[k] m[k] he w
          generalize l[k] = y at c0 c2 hq
          generalize m[k] = z at c1 c3 hq
          clear hac hbc he HALL hV
          go_upto_region 6 with fail
          go_quiet (fail)
          have KN : Hid (Keeps [] w (wr.drewN nq)) := Lib.hid (KP.out.drewN nq)
          clear KP
          go_wp2_with fail
          go_ret
          exact ⟨ret_bool HVF.out.symm, KN.out⟩
      · obtain rfl : k = l.length := by omega
        have i1 : ¬ ((l.length : Int) < (l.length : Int)) := by omega
        have hV : V = true := by
          rw [← HV.out]
          refine decide_eq_true (List.ext_getElem HL.out (fun j h1 h2 => HALL.out j h1 h2 h1))
        have HVT := Lib.hid hV
        clear HALL hV
        go_wp2_with fail
        go_ret
        exact ⟨ret_bool HVT.out.symm, KP.out⟩
  · have hV : V = false := by
      rw [← HV.out]
      exact decide_eq_false (fun e => hl (by rw [e]))
    have HVF := Lib.hid hV
    have hne : ((l.length : Int) == (m.length : Int)) = false := by simp; omega
    have hne2 : ¬ ((l.length : Int) = (m.length : Int)) := by omega
    clear hV
    go_enter Tryz.func24, Tryz.ntmps24
    go_wp2_with fail
    go_ret
    exact ⟨ret_bool HVF.out.symm, Keeps.refl _ _⟩
end Go.Proofs.YtbllmpcpfmlemaaGreat
namespace Go.Proofs.YtbllmpcpfmlemaaGreat
open Go.RowKit
/-- An operation: its keys lie at A. -/
structure Oq where
  x : Opn
  A : Option Addr
  c : Nat
def Oq.cells (q : Oq) : Array Value := #[.int .i64 q.x.dw, .int .i64 q.x.who, .int .i64 q.x.n, sv q.x.key, sv q.x.val, .int .i64 q.x.r.kind, sv q.x.r.key, sv q.x.r.val, .slice q.A q.x.r.list.length q.c]
/-- The operations lie at A, in a list of any length. -/
structure AtO (w : World) (A : Option Addr) (L : List Oq) : Prop where
  at_ : 0 < L.length → ∃ b off, A = some ⟨b, off, none⟩ ∧ b < w.heap.size ∧ ∀ k (hk : k < L.length),
    w.cell? ⟨b, off + k * 9, none⟩ = some (.int .i64 L[k].x.dw) ∧ w.cell? ⟨b, off + k * 9 + 1, none⟩ = some (.int .i64 L[k].x.who) ∧ w.cell? ⟨b, off + k * 9 + 2, none⟩ = some (.int .i64 L[k].x.n) ∧
    w.cell? ⟨b, off + k * 9 + 3, none⟩ = some (sv L[k].x.key) ∧ w.cell? ⟨b, off + k * 9 + 4, none⟩ = some (sv L[k].x.val) ∧ w.cell? ⟨b, off + k * 9 + 5, none⟩ = some (.int .i64 L[k].x.r.kind) ∧
    w.cell? ⟨b, off + k * 9 + 6, none⟩ = some (sv L[k].x.r.key) ∧ w.cell? ⟨b, off + k * 9 + 7, none⟩ = some (sv L[k].x.r.val) ∧ w.cell? ⟨b, off + k * 9 + 8, none⟩ = some (.slice L[k].A L[k].x.r.list.length L[k].c)
  mx : L.length ≤ 9223372036854775807
  mi : ∀ q ∈ L, q.x.r.list.length ≤ 9223372036854775807
  ml : ∀ q ∈ L, q.x.r.list.length ≤ 1000 → AtS w q.A q.x.r.list
  nn : ∀ q ∈ L, I64 q.x.dw ∧ I64 q.x.who ∧ I64 q.x.n ∧ I64 q.x.r.kind
theorem AtO.keep {w w' : World} {A : Option Addr} {L : List Oq} (h : AtO w A L) (hk : Keeps [] w w') : AtO w' A L := by
  refine ⟨fun h0 => ?_, h.mx, h.mi, fun q hq hl => (h.ml q hq hl).keep hk, h.nn⟩
  obtain ⟨b, off, h1, h2, h3⟩ := h.at_ h0
  have e : ∀ o, w'.cell? ⟨b, o, none⟩ = w.cell? ⟨b, o, none⟩ := fun o => hk.cell (p := ⟨b, o, none⟩) h2 (by simp)
  exact ⟨b, off, h1, Nat.lt_of_lt_of_le h2 hk.size, fun k hk => by simp only [e]; exact h3 k hk⟩
def fewO (x : Opn) : Bool := decide (x.key.length ≤ 30) && decide (x.val.length ≤ 30) && decide (x.r.key.length ≤ 30) && decide (x.r.val.length ≤ 30) && decide (x.r.list.length ≤ 10) && x.r.list.all (fun s => decide (s.length ≤ 30))
def fewB (L : List Oq) (n : Int) : Bool := L.all (fun q => fewO q.x) && decide ((L.length : Int) ≤ n)
set_option maxRecDepth 100000 in
set_option maxHeartbeats 6400000 in
theorem few_any (w : World) (A : Option Addr) (L : List Oq) (c : Nat) (n : Int) (h : AtO w A L) :
    Calls Tryz.prog 10 #[.slice A L.length c, .int .i64 n] w fun e w' => e = .returned (.bool (fewB L n)) ∧ w' = w := by
  have hm := h.mx
  have HH := Lib.hid h
  obtain ⟨V, hV⟩ : ∃ V, fewB L n = V := ⟨_, rfl⟩
  rw [hV]
  have HV := Lib.hid hV
  clear h hV
  go_enter Tryz.func10, Tryz.ntmps10
  go_wp2_with fail
  go_loop [5, 6] (fun iv _jv => ∃ k : Nat, k ≤ L.length ∧ iv = .int .i64 k ∧ L.all (fun q => fewO q.x) = (L.drop k).all (fun q => fewO q.x)) (fun iv _ => L.length - (intOf iv).toNat)
  case atStart => exact ⟨0, by omega, rfl, by rw [List.drop_zero]⟩
  case round =>
    obtain ⟨k, hk, rfl, hch⟩ := hrel
    have HCH := Lib.hid hch
    clear hch
    by_cases hlt : k < L.length
    · obtain ⟨bl, off, hAA, hbl, hc⟩ := HH.out.at_ (by omega)
      subst hAA
      obtain ⟨-, -, -, c3, c4, -, c6, c7, c8⟩ := hc k hlt
      have hd := HCH.out
      rw [List.drop_eq_getElem_cons hlt, List.all_cons] at hd
      have hmi := HH.out.mi _ (List.getElem_mem hlt)
      have HML := Lib.hid (HH.out.ml _ (List.getElem_mem hlt))
      obtain ⟨x, hx⟩ : ∃ x, L[k] = x := ⟨_, rfl⟩
      rw [hx] at c3 c4 c6 c7 c8 hd hmi HML
      obtain ⟨⟨_, _, _, s3, s4, ⟨_, s6, s7, ls⟩⟩, B, cb⟩ := x
      dsimp only at c3 c4 c6 c7 c8 hd hmi HML
      obtain ⟨q, hq⟩ : ∃ q, ls.length = q := ⟨_, rfl⟩
      rw [hq] at c8 hmi
      have HQ := Lib.hid hq
      obtain ⟨R, hR⟩ : ∃ R, (L.drop (k + 1)).all (fun q => fewO q.x) = R := ⟨_, rfl⟩
      rw [hR] at hd
      have hd : L.all (fun q => fewO q.x) = (decide (s3.length ≤ 30) && decide (s4.length ≤ 30) && decide (s6.length ≤ 30) && decide (s7.length ≤ 30) && decide (q ≤ 10) && ls.all (fun s => decide (s.length ≤ 30)) && R) := by rw [hd, ← hq]; rfl
      have HR := Lib.hid hR
      have HD := Lib.hid hd
      have i0 : (0 : Int) ≤ (k : Int) := by omega
      have i1 : (k : Int) < (L.length : Int) := by omega
      have KC := hm
      clear hx hc hd hq hR
      by_cases h3 : s3.length ≤ 30
      rotate_left
      · have h' : 30 < s3.length := by omega
        have eV : V = false := by rw [← HV.out]; unfold fewB; rw [HD.out, decide_eq_false h3]; simp
        have HE := Lib.hid eV
        clear eV h3
        go_wp2_with fail
        go_ret
        exact ⟨ret_bool HE.out.symm, rfl⟩
      by_cases h4 : s4.length ≤ 30
      rotate_left
      · have h' : 30 < s4.length := by omega
        have eV : V = false := by rw [← HV.out]; unfold fewB; rw [HD.out, decide_eq_false h4]; simp
        have HE := Lib.hid eV
        clear eV h4
        go_wp2_with fail
        go_ret
        exact ⟨ret_bool HE.out.symm, rfl⟩
      by_cases h6 : s6.length ≤ 30
      rotate_left
      · have h' : 30 < s6.length := by omega
        have eV : V = false := by rw [← HV.out]; unfold fewB; rw [HD.out, decide_eq_false h6]; simp
        have HE := Lib.hid eV
        clear eV h6
        go_wp2_with fail
        go_ret
        exact ⟨ret_bool HE.out.symm, rfl⟩
      by_cases h7 : s7.length ≤ 30
      rotate_left
      · have h' : 30 < s7.length := by omega
        have eV : V = false := by rw [← HV.out]; unfold fewB; rw [HD.out, decide_eq_false h7]; simp
        have HE := Lib.hid eV
        clear eV h7
        go_wp2_with fail
        go_ret
        exact ⟨ret_bool HE.out.symm, rfl⟩
      by_cases h8 : q ≤ 10
      rotate_left
      · have h' : 10 < q := by omega
        have eV : V = false := by rw [← HV.out]; unfold fewB; rw [HD.out, decide_eq_false h8]; simp
        have HE := Lib.hid eV
        clear eV h8
        go_wp2_with fail
        go_ret
        exact ⟨ret_bool HE.out.symm, rfl⟩
      · go_wp2_with fail
        go_loop [6] (fun jv => ∃ j : Nat, j ≤ ls.length ∧ jv = .int .i64 j ∧ ls.all (fun s => decide (s.length ≤ 30)) = (ls.drop j).all (fun s => decide (s.length ≤ 30))) (fun jv => ls.length - (intOf jv).toNat)
        case atStart => exact ⟨0, by omega, rfl, by rw [List.drop_zero]⟩
        case round =>
          obtain ⟨j, hj, rfl, hjc⟩ := hrel
          have HJ := Lib.hid hjc
          have hqq := HQ.out
          clear hjc
          by_cases hjl : j < ls.length
          · obtain ⟨bb, bo, hBB, hbb, hbc⟩ := (HML.out (by omega)).at_ (by omega)
            subst hBB
            have d0 := hbc j hjl
            have hd := HJ.out
            rw [List.drop_eq_getElem_cons hjl, List.all_cons] at hd
            obtain ⟨s, hs⟩ : ∃ s, ls[j] = s := ⟨_, rfl⟩
            rw [hs] at d0 hd
            have HD2 := Lib.hid hd
            have j0 : (0 : Int) ≤ (j : Int) := by omega
            have j1 : (j : Int) < (q : Int) := by omega
            clear hs hd hbc
            by_cases hl : s.length ≤ 30
            · have HN := Lib.hid (HD2.out.trans (by rw [decide_eq_true hl]; rfl : _ = (ls.drop (j + 1)).all (fun s => decide (s.length ≤ 30))))
              go_wp2_with fail
              exact ⟨⟨j + 1, by omega, rfl, by rw [HJ.out, ← HJ.out, HN.out]⟩, by simp only [intOf]; omega⟩
            · have hl' : 30 < s.length := by omega
              have eV : V = false := by rw [← HV.out]; unfold fewB; rw [HD.out, HD2.out, decide_eq_false hl]; simp
              have HE := Lib.hid eV
              clear eV hl
              go_wp2_with fail
              go_ret
              exact ⟨ret_bool HE.out.symm, rfl⟩
          · obtain rfl : j = ls.length := by omega
            have ej : ls.all (fun s => decide (s.length ≤ 30)) = true := by rw [HJ.out, List.drop_length]; rfl
            have HN : Hid (L.all (fun q => fewO q.x) = (L.drop (k + 1)).all (fun q => fewO q.x)) := Lib.hid (by rw [HR.out, HD.out, ej, decide_eq_true h3, decide_eq_true h4, decide_eq_true h6, decide_eq_true h7, decide_eq_true h8]; rfl)
            have j1 : ¬ ((ls.length : Int) < (q : Int)) := by omega
            clear ej
            go_wp2_with fail
            exact ⟨⟨k + 1, by omega, rfl, HN.out⟩, by simp only [intOf]; omega⟩
    · obtain rfl : k = L.length := by omega
      have hc := HCH.out
      rw [List.drop_length] at hc
      have eV : V = decide ((L.length : Int) ≤ n) := by rw [← HV.out]; unfold fewB; rw [hc]; rfl
      have HE := Lib.hid eV
      clear eV hc
      go_wp2_with fail
      go_ret
      rw [HE.out]
      exact ⟨rfl, rfl⟩
end Go.Proofs.YtbllmpcpfmlemaaGreat
