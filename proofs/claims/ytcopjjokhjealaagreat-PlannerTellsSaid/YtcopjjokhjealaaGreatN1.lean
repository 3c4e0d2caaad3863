/- The reference's planner in memory; its readers: line, running, trial, many. -/
import Derived.Test.YtcopjjokhjealaaGreatMF
namespace Go.Proofs.YtcopjjokhjealaaGreat
open Go.RowKit

/-- The reference's planner at q: its lines by ascending ids, its running items, its counts. -/
structure QAt (w : World) (G : List Nat) (q : Nat) (s : Pl) (LV : List LnV) (C : List Ct) (A1 A2 A3 : Option Addr) (c1 c2 c3 : Nat) : Prop where
  fG : G = q :: (fp (.slice A1 LV.length c1) ++ (fp (.slice A2 s.li.length c2) ++ fp (.slice A3 C.length c3)))
  b : Blk w q 65 #[.slice A1 LV.length c1, .slice A2 s.li.length c2, .slice A3 C.length c3]
  o1 : w.ownsRow 0 56 4 (.slice A1 LV.length c1) LV.length (rw lcs LV)
  o2 : w.ownsRow 0 69 4 (.slice A2 s.li.length c2) s.li.length (rw rcs s.li)
  o3 : w.ownsRow 0 84 7 (.slice A3 C.length c3) C.length (rw ccs C)
  as1 : Asc (LV.map (·.id))
  ls : ∀ v ∈ LV, ∃ n, s.ln v.id = some n ∧ LnAt w v.id v n
  lc : ∀ x, (s.ln x).isSome = true → x ∈ LV.map (·.id)
  as3 : C.Pairwise ltC
  cs : ∀ c ∈ C, s.ct (c.l, c.i) = some c
  cc : ∀ k c, s.ct k = some c → c ∈ C ∧ (c.l, c.i) = k
section
variable {w w' : World} {G H : List Nat} {q : Nat} {s : Pl} {LV : List LnV} {C : List Ct} {A1 A2 A3 : Option Addr} {c1 c2 c3 : Nat}
theorem QAt.keep (h : QAt w G q s LV C A1 A2 A3 c1 c2 c3) (hk : Keeps H w w') (hd : ∀ g ∈ G, g ∉ H) (hG : ∀ g ∈ H, ¬ IntRow w g) : QAt w' G q s LV C A1 A2 A3 c1 c2 c3 := by
  have hf := h.fG
  exact ⟨hf, h.b.keep hk (hd q (by rw [hf]; simp)), own_keep h.o1 hk (fun g hg => hd g (by rw [hf]; simp [hg])), own_keep h.o2 hk (fun g hg => hd g (by rw [hf]; simp [hg])), own_keep h.o3 hk (fun g hg => hd g (by rw [hf]; simp [hg])),
    h.as1, fun v hv => by obtain ⟨n, h1, h2⟩ := h.ls v hv; exact ⟨n, h1, h2.keep hk hG⟩, h.lc, h.as3, h.cs, h.cc⟩
theorem QAt.keep0 (h : QAt w G q s LV C A1 A2 A3 c1 c2 c3) (hk : Keeps [] w w') : QAt w' G q s LV C A1 A2 A3 c1 c2 c3 := h.keep hk (fun _ _ => by simp) (fun _ hg => by cases hg)
theorem QAt.lt (h : QAt w G q s LV C A1 A2 A3 c1 c2 c3) : ∀ g ∈ G, g < w.heap.size := by
  intro g hg
  rw [h.fG] at hg
  rcases List.mem_cons.1 hg with rfl | hg
  · exact h.b.lt
  rcases List.mem_append.1 hg with hg | hg
  · exact own_lt h.o1 hg
  rcases List.mem_append.1 hg with hg | hg
  · exact own_lt h.o2 hg
  · exact own_lt h.o3 hg
theorem QAt.noInt (h : QAt w G q s LV C A1 A2 A3 c1 c2 c3) : ∀ g ∈ G, ¬ IntRow w g := by
  intro g hg
  rw [h.fG] at hg
  rcases List.mem_cons.1 hg with rfl | hg
  · exact blk_noInt h.b (by decide)
  rcases List.mem_append.1 hg with hg | hg
  · exact row_noInt h.o1 (by decide) g hg
  rcases List.mem_append.1 hg with hg | hg
  · exact row_noInt h.o2 (by decide) g hg
  · exact row_noInt h.o3 (by decide) g hg
end
theorem lcs_len4 (v : LnV) : (lcs v).length = 4 := rfl
/-- The counts lie at A. -/
structure AtC (w : World) (A : Option Addr) (L : List Ct) : Prop where
  at_ : 0 < L.length → ∃ b off, A = some ⟨b, off, none⟩ ∧ b < w.heap.size ∧ ∀ k (hk : k < L.length),
    w.cell? ⟨b, off + k * 7, none⟩ = some (.int .i64 L[k].l) ∧ w.cell? ⟨b, off + k * 7 + 1, none⟩ = some (.int .i64 L[k].i) ∧ w.cell? ⟨b, off + k * 7 + 2, none⟩ = some (.int .i64 L[k].runs) ∧
    w.cell? ⟨b, off + k * 7 + 3, none⟩ = some (.int .i64 L[k].com) ∧ w.cell? ⟨b, off + k * 7 + 4, none⟩ = some (.int .i64 L[k].con) ∧ w.cell? ⟨b, off + k * 7 + 5, none⟩ = some (.int .i64 L[k].drp) ∧
    w.cell? ⟨b, off + k * 7 + 6, none⟩ = some (.int .i64 L[k].str)
  mx : L.length ≤ 1000000
theorem AtC.keep {w w' : World} {A : Option Addr} {L : List Ct} (h : AtC w A L) (hk : Keeps [] w w') : AtC w' A L := by
  refine ⟨fun h0 => ?_, h.mx⟩
  obtain ⟨b, off, h1, h2, h3⟩ := h.at_ h0
  have e : ∀ o, w'.cell? ⟨b, o, none⟩ = w.cell? ⟨b, o, none⟩ := fun o => hk.cell (p := ⟨b, o, none⟩) h2 (by simp)
  exact ⟨b, off, h1, Nat.lt_of_lt_of_le h2 hk.size, fun k hk => by simp only [e]; exact h3 k hk⟩
theorem ccs_len7 (v : Ct) : (ccs v).length = 7 := rfl
theorem AtC.of_own {w : World} {A : Option Addr} {c : Nat} {L : List Ct} (h : w.ownsRow 0 84 7 (.slice A L.length c) L.length (rw ccs L)) (hm : L.length ≤ 1000000) : AtC w A L := by
  refine ⟨fun h0 => ?_, hm⟩
  obtain ⟨_, _, hv, -, -, hA⟩ := own_shape h
  obtain ⟨g, hg⟩ := hA h0
  obtain ⟨rfl, -, rfl⟩ : A = _ ∧ L.length = _ ∧ c = _ := by injection hv with h1 h2 h3; exact ⟨h1, rfl, h3⟩
  subst hg
  have hc : ∀ k (hk : k < L.length) j (hj : j < 7) u, (ccs L[k])[j]? = some u → w.cell? ⟨g, k * 7 + j, none⟩ = some u := fun k hk j hj u hu => own_cell h (by rw [rw_at ccs_len7 hk hj]; exact hu)
  refine ⟨g, 0, rfl, own_lt h (by simp [fp, Value.ownBlock]), fun k hk => ?_⟩
  rw [Nat.zero_add]
  exact ⟨hc k hk 0 (by omega) _ rfl, hc k hk 1 (by omega) _ rfl, hc k hk 2 (by omega) _ rfl, hc k hk 3 (by omega) _ rfl, hc k hk 4 (by omega) _ rfl, hc k hk 5 (by omega) _ rfl, hc k hk 6 (by omega) _ rfl⟩
/-- The place of a line, or -1. -/
def lnI (L : List LnV) (id : Int) : Int := match L.findIdx? (fun v => decide (v.id = id)) with
  | some k => k
  | none => -1
theorem lnI_at {L : List LnV} {x : Int} {k : Nat} (hk : k < L.length) (h1 : L[k].id = x) (h2 : ∀ j (hj : j < L.length), j < k → ¬ L[j].id = x) : lnI L x = k := by
  have h : L.findIdx? (fun v => decide (v.id = x)) = some k := by
    rw [List.findIdx?_eq_some_iff_getElem]
    exact ⟨hk, by simpa using h1, fun j hj => by simpa using h2 j (by omega) hj⟩
  unfold lnI
  rw [h]
theorem lnI_none {L : List LnV} {x : Int} (h : ∀ j (hj : j < L.length), j < L.length → ¬ L[j].id = x) : lnI L x = -1 := by
  have h1 : L.findIdx? (fun v => decide (v.id = x)) = none := by
    rw [List.findIdx?_eq_none_iff]
    intro y hy
    obtain ⟨j, hj, rfl⟩ := List.getElem_of_mem hy
    simpa using h j hj hj
  unfold lnI
  rw [h1]
theorem lnI_cases (L : List LnV) (x : Int) : (lnI L x = -1 ∧ x ∉ L.map (·.id)) ∨ ∃ k, ∃ hk : k < L.length, lnI L x = k ∧ L[k].id = x := by
  cases h : L.findIdx? (fun v => decide (v.id = x)) with
  | none =>
    refine .inl ⟨by unfold lnI; rw [h], fun hm => ?_⟩
    rw [List.findIdx?_eq_none_iff] at h
    obtain ⟨v, hv, rfl⟩ := List.mem_map.1 hm
    simpa using h v hv
  | some k =>
    obtain ⟨hk, h1, _⟩ := List.findIdx?_eq_some_iff_getElem.1 h
    exact .inr ⟨k, hk, by unfold lnI; rw [h], by simpa using h1⟩
set_option maxRecDepth 100000 in
set_option maxHeartbeats 3200000 in
theorem lineQ_any (w : World) (q : Nat) (A : Option Addr) (L : List LnV) (c : Nat) (x : Int) (hq : w.cell? ⟨q, 0, none⟩ = some (.slice A L.length c)) (ha : AtV w A L) :
    Calls Tryz.prog 37 #[.pointer (some ⟨q, 0, none⟩), .int .i64 x] w fun e w' => e = .returned (.int .i64 (lnI L x)) ∧ w' = w := by
  have hm := ha.mx
  have HH := Lib.hid ha
  obtain ⟨V, hV⟩ : ∃ V, lnI L x = V := ⟨_, rfl⟩
  rw [hV]
  have HV := Lib.hid hV
  clear ha hV
  go_enter Tryz.func37, Tryz.ntmps37
  go_wp2_with fail
  go_loop [5] (fun iv => ∃ k : Nat, k ≤ L.length ∧ iv = .int .i64 k ∧ (∀ j (hj : j < L.length), j < k → ¬ L[j].id = x)) (fun iv => L.length - (intOf iv).toNat)
  case atStart => exact ⟨0, by omega, rfl, fun j hj h => absurd h (by omega)⟩
  case round =>
    obtain ⟨k, hk, rfl, hno⟩ := hrel
    have HNO := Lib.hid hno
    clear hno
    by_cases hlt : k < L.length
    · obtain ⟨bl, off, hAA, hbl, hc⟩ := HH.out.at_ (by omega)
      subst hAA
      obtain ⟨c0, -⟩ := hc k hlt
      have i0 : (0 : Int) ≤ (k : Int) := by omega
      have i1 : (k : Int) < (L.length : Int) := by omega
      obtain ⟨y, hy⟩ : ∃ y, L[k].id = y := ⟨_, rfl⟩
      rw [hy] at c0
      have HY := Lib.hid hy
      clear hc hy
      by_cases e : y = x
      · have eV : V = k := by rw [← HV.out]; exact lnI_at hlt (by rw [HY.out, e]) HNO.out
        have HE := Lib.hid eV
        clear eV
        go_wp2_with fail
        go_ret
        rw [HE.out]
        exact ⟨rfl, rfl⟩
      · go_wp2_with fail
        go_round
        case rel =>
          refine ⟨k + 1, by omega, by go_num, fun j hj hjk => ?_⟩
          by_cases e2 : j = k
          · subst e2; rw [HY.out]; exact e
          · exact HNO.out j hj (by omega)
        case measure => simp [intOf]; omega
    · obtain rfl : k = L.length := by omega
      have eV : V = -1 := by rw [← HV.out]; exact lnI_none HNO.out
      have HE := Lib.hid eV
      clear eV
      go_wp2_with fail
      go_ret
      rw [HE.out]
      exact ⟨rfl, rfl⟩
set_option maxRecDepth 100000 in
set_option maxHeartbeats 3200000 in
theorem runQ_any (w : World) (q : Nat) (A : Option Addr) (L : List Rn) (c : Nat) (l i : Int) (hq : w.cell? ⟨q, 1, none⟩ = some (.slice A L.length c)) (ha : AtR w A L) :
    Calls Tryz.prog 38 #[.pointer (some ⟨q, 0, none⟩), .int .i64 l, .int .i64 i] w fun e w' => e = .returned (.int .i64 (fndI L l i)) ∧ w' = w := by
  have hm := ha.mx
  have HH := Lib.hid ha
  obtain ⟨V, hV⟩ : ∃ V, fndI L l i = V := ⟨_, rfl⟩
  rw [hV]
  have HV := Lib.hid hV
  clear ha hV
  go_enter Tryz.func38, Tryz.ntmps38
  go_wp2_with fail
  go_loop [7] (fun iv => ∃ k : Nat, k ≤ L.length ∧ iv = .int .i64 k ∧ (∀ j (hj : j < L.length), j < k → (decide (L[j].l = l) && decide (L[j].i = i)) = false)) (fun iv => L.length - (intOf iv).toNat)
  case atStart => exact ⟨0, by omega, rfl, fun j hj h => absurd h (by omega)⟩
  case round =>
    obtain ⟨k, hk, rfl, hno⟩ := hrel
    have HNO := Lib.hid hno
    clear hno
    by_cases hlt : k < L.length
    · obtain ⟨bl, off, hAA, hbl, hc⟩ := HH.out.at_ (by omega)
      subst hAA
      obtain ⟨c0, c1, -⟩ := hc k hlt
      have i0 : (0 : Int) ≤ (k : Int) := by omega
      have i1 : (k : Int) < (L.length : Int) := by omega
      obtain ⟨y, hy⟩ : ∃ y, L[k].l = y := ⟨_, rfl⟩
      obtain ⟨z, hz⟩ : ∃ z, L[k].i = z := ⟨_, rfl⟩
      rw [hy] at c0
      rw [hz] at c1
      have HY := Lib.hid hy
      have HZ := Lib.hid hz
      clear hc hy hz
      by_cases e : y = l
      · by_cases e2 : z = i
        · have eV : V = k := by rw [← HV.out]; exact ixF_at hlt (by rw [HY.out, HZ.out, e, e2]; simp) HNO.out
          have HE := Lib.hid eV
          clear eV
          go_wp2_with fail
          go_ret
          rw [HE.out]
          exact ⟨rfl, rfl⟩
        · go_wp2_with fail
          go_round
          case rel =>
            refine ⟨k + 1, by omega, by go_num, fun j hj hjk => ?_⟩
            by_cases e3 : j = k
            · subst e3; rw [HY.out, HZ.out]; simp [e2]
            · exact HNO.out j hj (by omega)
          case measure => simp [intOf]; omega
      · go_wp2_with fail
        go_round
        case rel =>
          refine ⟨k + 1, by omega, by go_num, fun j hj hjk => ?_⟩
          by_cases e3 : j = k
          · subst e3; rw [HY.out, HZ.out]; simp [e]
          · exact HNO.out j hj (by omega)
        case measure => simp [intOf]; omega
    · obtain rfl : k = L.length := by omega
      have eV : V = -1 := by rw [← HV.out]; exact ixF_none HNO.out
      have HE := Lib.hid eV
      clear eV
      go_wp2_with fail
      go_ret
      rw [HE.out]
      exact ⟨rfl, rfl⟩
set_option maxRecDepth 100000 in
set_option maxHeartbeats 3200000 in
theorem triQ_any (w : World) (q : Nat) (A : Option Addr) (L : List Rn) (c : Nat) (t : Int) (hq : w.cell? ⟨q, 1, none⟩ = some (.slice A L.length c)) (ha : AtR w A L) :
    Calls Tryz.prog 60 #[.pointer (some ⟨q, 0, none⟩), .int .i64 t] w fun e w' => e = .returned (.int .i64 (triI L t)) ∧ w' = w := by
  have hm := ha.mx
  have HH := Lib.hid ha
  obtain ⟨V, hV⟩ : ∃ V, triI L t = V := ⟨_, rfl⟩
  rw [hV]
  have HV := Lib.hid hV
  clear ha hV
  go_enter Tryz.func60, Tryz.ntmps60
  go_wp2_with fail
  go_loop [5] (fun iv => ∃ k : Nat, k ≤ L.length ∧ iv = .int .i64 k ∧ (∀ j (hj : j < L.length), j < k → decide (L[j].t = t) = false)) (fun iv => L.length - (intOf iv).toNat)
  case atStart => exact ⟨0, by omega, rfl, fun j hj h => absurd h (by omega)⟩
  case round =>
    obtain ⟨k, hk, rfl, hno⟩ := hrel
    have HNO := Lib.hid hno
    clear hno
    by_cases hlt : k < L.length
    · obtain ⟨bl, off, hAA, hbl, hc⟩ := HH.out.at_ (by omega)
      subst hAA
      obtain ⟨-, -, c2, -⟩ := hc k hlt
      have i0 : (0 : Int) ≤ (k : Int) := by omega
      have i1 : (k : Int) < (L.length : Int) := by omega
      obtain ⟨y, hy⟩ : ∃ y, L[k].t = y := ⟨_, rfl⟩
      rw [hy] at c2
      have HY := Lib.hid hy
      clear hc hy
      by_cases e : y = t
      · have eV : V = k := by rw [← HV.out]; exact ixF_at hlt (by rw [HY.out, e]; simp) HNO.out
        have HE := Lib.hid eV
        clear eV
        go_wp2_with fail
        go_ret
        rw [HE.out]
        exact ⟨rfl, rfl⟩
      · go_wp2_with fail
        go_round
        case rel =>
          refine ⟨k + 1, by omega, by go_num, fun j hj hjk => ?_⟩
          by_cases e2 : j = k
          · subst e2; rw [HY.out]; simp [e]
          · exact HNO.out j hj (by omega)
        case measure => simp [intOf]; omega
    · obtain rfl : k = L.length := by omega
      have eV : V = -1 := by rw [← HV.out]; exact ixF_none HNO.out
      have HE := Lib.hid eV
      clear eV
      go_wp2_with fail
      go_ret
      rw [HE.out]
      exact ⟨rfl, rfl⟩
set_option maxRecDepth 100000 in
set_option maxHeartbeats 3200000 in
theorem manyQ_any (w : World) (q : Nat) (A : Option Addr) (L : List Rn) (c : Nat) (l : Int) (hq : w.cell? ⟨q, 1, none⟩ = some (.slice A L.length c)) (ha : AtR w A L) :
    Calls Tryz.prog 61 #[.pointer (some ⟨q, 0, none⟩), .int .i64 l] w fun e w' => e = .returned (.int .i64 (manyI L l : Nat)) ∧ w' = w := by
  have hm := ha.mx
  have HA := Lib.hid ha
  clear ha
  go_enter Tryz.func61, Tryz.ntmps61
  go_wp2_with fail
  go_loop [5, 6] (fun n iv => ∃ k : Nat, k ≤ L.length ∧ iv = .int .i64 k ∧ n = .int .i64 (manyI (L.take k) l : Nat)) (fun _ iv => L.length - (intOf iv).toNat)
  case atStart => exact ⟨0, by omega, rfl, rfl⟩
  case round =>
    obtain ⟨k, hk, rfl, rfl⟩ := hrel
    by_cases hlt : k < L.length
    · obtain ⟨bl, off, hAA, hbl, hc⟩ := HA.out.at_ (by omega)
      subst hAA
      obtain ⟨c0, -⟩ := hc k hlt
      have i0 : (0 : Int) ≤ (k : Int) := by omega
      have i1 : (k : Int) < (L.length : Int) := by omega
      have hmt := many_take (l := l) hlt
      have hle : manyI (L.take k) l ≤ k := by unfold manyI; exact Nat.le_trans (List.length_filter_le _ _) (by rw [List.length_take]; omega)
      obtain ⟨M, hM⟩ : ∃ M, manyI (L.take k) l = M := ⟨_, rfl⟩
      rw [hM] at hmt hle
      rw [hM]
      obtain ⟨y, hy⟩ : ∃ y, L[k].l = y := ⟨_, rfl⟩
      rw [hy] at c0 hmt
      have HMT := Lib.hid hmt
      clear hmt hc hM hy
      by_cases e : y = l
      · go_wp2_with fail
        go_round
        case rel => exact ⟨k + 1, by omega, by go_num, by rw [HMT.out, if_pos e]; go_num⟩
        case measure => simp [intOf]; omega
      · go_wp2_with fail
        go_round
        case rel => exact ⟨k + 1, by omega, by go_num, by rw [HMT.out, if_neg e]; rfl⟩
        case measure => simp [intOf]; omega
    · obtain rfl : k = L.length := by omega
      rw [List.take_length]
      go_wp2_with fail
      go_ret
      exact ⟨rfl, rfl⟩
end Go.Proofs.YtcopjjokhjealaaGreat
