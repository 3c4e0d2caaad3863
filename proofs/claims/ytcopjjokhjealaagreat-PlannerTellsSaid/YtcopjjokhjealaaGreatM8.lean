/- Texts of the elder seat, turned to this one: W31 W32. -/
import Derived.Test.YtcopjjokhjealaaGreatM7
namespace Go.Proofs.YtcopjjokhjealaaGreat
open Go.RowKit

def comC : Ct := ⟨0, 0, 0, 1, 0, 0, 0⟩
theorem comC_ok : OkM 1 comC := ⟨by simp [comC], by simp [comC], by simp [comC], by simp [comC], by simp [comC]⟩
/-- What comes of an item that may commit. -/
def ComY (l i : Int) (its : List Int) (k : Nat) (r : Rn) (n : Ln) (y : Int) (s s' : Pl) (o : List Int) (e : Int) : Prop :=
  (y ≠ i ∧ s' = s ∧ o = [] ∧ e = 25) ∨ (y = i ∧ r.d = false ∧ s' = s ∧ o = [] ∧ e = 7) ∨ (y = i ∧ r.d = true ∧ ¬ IsW s r.t [] ∧ s' = s ∧ o = [] ∧ e = 8) ∨
  (y = i ∧ r.d = true ∧ IsW s r.t [] ∧ rightL its = false ∧ s' = s ∧ o = [] ∧ e = 1) ∨
  (y = i ∧ r.d = true ∧ IsW s r.t [] ∧ rightL its = true ∧ St l its (setIt (cntS (takeOut s k) l i comC) l n its) s' o ∧ e = 0)
/-- What Committed does. -/
def ComR (l i : Int) (its : List Int) (s s' : Pl) (o : List Int) (e : Int) : Prop :=
  (fndI s.li l i < 0 ∧ s' = s ∧ o = [] ∧ e = 4) ∨
  ∃ (k : Nat) (r : Rn) (n : Ln) (y : Int), fndI s.li l i = k ∧ s.li[k]? = some r ∧ s.ln l = some n ∧ n.it.head? = some y ∧ ComY l i its k r n y s s' o e
theorem IsW.nil_iff {s : Pl} {t : Int} {ids : List Int} (h : IsW s t ids) : IsW s t [] ↔ ids = [] := by
  constructor
  · intro h2
    exact asc_ext h.1 h2.1 (fun x => by rw [h.2, h2.2])
  · rintro rfl; exact h
set_option maxRecDepth 100000 in
set_option maxHeartbeats 12800000 in
theorem committed_any (w : World) (F : List Nat) (p : Nat) (s : Pl) (Φ : Nat) (h : PR w F p s Φ) (hΦ : Φ ≤ 900) (hs : ∀ x n, s.ln x = some n → kI.ok x) (hkr : ∀ r ∈ s.li, kP.ok (r.l, r.i)) (hln : ∀ r ∈ s.li, ∃ n, s.ln r.l = some n ∧ n.it ≠ [])
    (hi : ∀ x n, s.ln x = some n → n.it.length ≤ 1000) (M : Nat) (hM : M + s.li.length ≤ 900000) (hc : CapM M s.ct) (l i : Int) (h1 : -9223372036854775808 ≤ l) (h2 : l ≤ 9223372036854775807)
    (Ai : Option Addr) (its : List Int) (ci : Nat) (hz : ∀ W, Keeps F w W → AtZ W Ai its) (hil : its.length ≤ 1000) (hir : ∀ x ∈ its, -9223372036854775808 ≤ x ∧ x ≤ 9223372036854775807) :
    Calls Tryz.prog 19 #[.pointer (some ⟨p, 0, none⟩), .int .i64 l, .int .i64 i, .slice Ai its.length ci] w fun e w' =>
      ∃ v s' o en, e = .returned (.tuple #[v, .int .i64 en]) ∧ ComR l i its s s' o en ∧ w'.ownsRow 0 3 1 v o.length (zs o) ∧ PR w' F p s' (Φ + 1) ∧ Keeps F w w' ∧ ∀ g ∈ fp v, w.heap.size ≤ g := by
  have hPR := h
  obtain ⟨lm, cm, nl, nc, A, c, f, h, hnl, hnc⟩ := h
  have hf1 : w.cell? ⟨p, 1, none⟩ = some (.slice A s.li.length c) := h.b.cell 1
  have hf0 : w.cell? ⟨p, 0, none⟩ = some (.map (some lm)) := h.b.cell 0
  have hpl := h.b.lt
  have HPW := Lib.hid hPR
  have HH := Lib.hid h
  have HC := Lib.hid (find_any w p A s.li c l i hf1 (AtR.of_own h.o (by omega)))
  have HS := Lib.hid hs
  have HKR := Lib.hid hkr
  have HCM := Lib.hid hc
  have HZ := Lib.hid hz
  have HIR := Lib.hid hir
  by_cases hneg : fndI s.li l i < 0
  · have HR : Hid (ComR l i its s s [] 4) := Lib.hid (.inl ⟨hneg, rfl, rfl, rfl⟩)
    obtain ⟨I, hI⟩ : ∃ I, fndI s.li l i = I := ⟨_, rfl⟩
    rw [hI] at hneg HC
    clear hI h hPR hs hkr hln hi hc hz hir
    go_enter Tryz.func19, Tryz.ntmps19
    go_wp2_with fail
    refine HC.out.mono ?_
    rintro e w1 ⟨rfl, k1⟩
    have K1 := Lib.hid k1
    clear k1
    go_wp2_with fail
    go_ret2
    exact ⟨_, s, [], 4, rfl, HR.out, World.ownsRow_nil _ _ _ _, (HPW.out.keep0 K1.out).mono (by omega), K1.out.mono (by simp), by simp⟩
  obtain ⟨k, hk, hkI⟩ := ixF_lt hneg
  have hkI : fndI s.li l i = k := hkI
  obtain ⟨_, hkk, -⟩ := ixF_spec hkI
  simp only [Bool.and_eq_true, decide_eq_true_eq] at hkk
  have hrk : s.li[k]? = some s.li[k] := List.getElem?_eq_getElem hk
  obtain ⟨_, _, hv, -, -, hA⟩ := own_shape h.o
  obtain ⟨g, hg⟩ := hA (by omega)
  obtain ⟨rfl, -, rfl⟩ : A = _ ∧ s.li.length = _ ∧ c = _ := by injection hv with h1 h2 h3; exact ⟨h1, rfl, h3⟩
  clear hv hA
  subst hg
  have hcx : ∀ j (hj : j < 4) u, (rcs s.li[k])[j]? = some u → ∀ W, Keeps [] w W → W.cell? ⟨g, k * 4 + j, none⟩ = some u := fun j hj u hu W kW => own_cell (own_keep h.o kW (by simp)) (by rw [rw_at rcs_len hk hj]; exact hu)
  obtain ⟨n, hn, hne⟩ := hln _ (List.getElem_mem hk)
  rw [hkk.1] at hn
  obtain ⟨r, hr⟩ : ∃ r, s.li[k] = r := ⟨_, rfl⟩
  have HT2 : Hid (∀ W, Keeps [] w W → W.cell? ⟨g, k * 4 + 2, none⟩ = some (.int .i64 r.t)) := Lib.hid (hcx 2 (by omega) _ (by rw [hr]; rfl))
  have HT3 : Hid (∀ W, Keeps [] w W → W.cell? ⟨g, k * 4 + 3, none⟩ = some (.bool r.d)) := Lib.hid (hcx 3 (by omega) _ (by rw [hr]; rfl))
  have HRK : Hid (s.li[k]? = some r) := Lib.hid (by rw [← hr]; exact hrk)
  have HKI := Lib.hid hkI
  have HKK := Lib.hid hk
  have HN := Lib.hid hn
  have hlk := fun (W : World) (kW : Keeps [] w W) => (h.keep0 kW).ml.look1 (kI_ok h1 h2) Tryz.underlying57 (zero66 W)
  rcases h.ls l with ⟨_, e2⟩ | ⟨v, n', e1, e2, e3, e4, e5, e6, e7⟩
  · rw [e2] at hn; cases hn
  obtain rfl : n = n' := by rw [hn] at e2; injection e2
  rw [e1] at hlk
  obtain ⟨vid, vpar, vpid, vb, vn0, vc⟩ := v
  dsimp only at e3 e4 e5 e6 e7
  replace e3 := e3.symm
  subst e3 e4 e5
  obtain ⟨y, rest, hit⟩ : ∃ y rest, n.it = y :: rest := by
    cases hx : n.it with
    | nil => exact absurd hx hne
    | cons y rest => exact ⟨y, rest, rfl⟩
  have HHD : Hid (n.it.head? = some y) := Lib.hid (by rw [hit]; rfl)
  have hnl' := hi l n hn
  have hl' : ∀ W, Keeps [] w W → (Instr.lookup 57 (.map (some lm)) (.int .i64 l) false).run Tryz.prog W = .ok (.agg #[.int .i64 l, .int .i64 n.par, .int .i64 n.pid, .slice (vb.map fun g => ⟨g, 0, none⟩) vn0 vc]) W := hlk
  have hzi : AtZ w (vb.map fun g => ⟨g, 0, none⟩) n.it := AtZ.of_own e7 (by omega)
  obtain ⟨bi, oi, hAA, hbi, hci⟩ := hzi.at_ (by rw [hit]; simp)
  have c0 : w.cell? ⟨bi, oi, none⟩ = some (.int .i64 y) := by have := hci 0 (by rw [hit]; simp); simp [hit] at this; exact this
  have hvn : 0 < vn0 := by rw [e6, hit]; simp
  have hvm : vn0 ≤ 1000 := by omega
  rw [hAA] at hl'
  rw [hkI] at HC
  obtain ⟨vn, hvn'⟩ : ∃ vn, vn0 = vn := ⟨_, rfl⟩
  rw [hvn'] at hl' hvn hvm
  have HL := Lib.hid hl'
  have HC0 : Hid (∀ W, Keeps [] w W → W.cell? ⟨bi, oi, none⟩ = some (.int .i64 y)) := Lib.hid (fun W kW => (kW.cell (p := ⟨bi, oi, none⟩) hbi (by simp)).trans c0)
  have i0 : (0 : Int) ≤ (k : Int) := by omega
  have i1 : (k : Int) < (s.li.length : Int) := by omega
  clear hlk hneg hkI hkk hrk hcx hr hn hne e1 e2 e6 e7 hit hnl' hzi hAA hci h hPR hs hkr hln hi hc hz hir hvn' hl' c0 hk
  go_enter Tryz.func19, Tryz.ntmps19
  go_wp2_with fail
  refine HC.out.mono ?_
  rintro e w1 ⟨rfl, k1⟩
  have hl1 := HL.out w1 k1
  have f0 : w1.cell? ⟨p, 0, none⟩ = some (.map (some lm)) := (HH.out.keep0 k1).b.cell 0
  have f1 : w1.cell? ⟨p, 1, none⟩ = some (.slice (some ⟨g, 0, none⟩) s.li.length c) := (HH.out.keep0 k1).b.cell 1
  have hpl1 : p < w1.heap.size := (HH.out.keep0 k1).b.lt
  have c0 := HC0.out w1 k1
  have hbi1 := Nat.lt_of_lt_of_le hbi k1.size
  have K1 := Lib.hid k1
  have BQ : Hid (Blk (w1.alloc (.cells #[.int .i64 l, .int .i64 n.par, .int .i64 n.pid, .slice (some ⟨bi, oi, none⟩) vn vc] 56)) w1.heap.size 56 #[.int .i64 l, .int .i64 n.par, .int .i64 n.pid, .slice (some ⟨bi, oi, none⟩) vn vc]) := Lib.hid (Blk.new _ _ _)
  have KA : Hid (Keeps [] w (w1.alloc (.cells #[.int .i64 l, .int .i64 n.par, .int .i64 n.pid, .slice (some ⟨bi, oi, none⟩) vn vc] 56))) := Lib.hid (k1.alloc _)
  have t2 := HT2.out w1 k1
  have t3 := HT3.out w1 k1
  have hg1 := lt_of_cell t2
  clear k1 HC HL HC0 hf1 hf0
  by_cases hyi : y = i
  rotate_left
  · have HR : Hid (ComR l i its s s [] 25) := Lib.hid (.inr ⟨k, r, n, y, HKI.out, HRK.out, HN.out, HHD.out, .inl ⟨hyi, rfl, rfl, rfl⟩⟩)
    go_wp2_with fail
    go_ret2
    exact ⟨_, s, [], 25, rfl, HR.out, World.ownsRow_nil _ _ _ _, (HPW.out.keep0 KA.out).mono (by omega), KA.out.mono (by simp), by simp⟩
  subst hyi
  cases hd : r.d with
  | false =>
    have HR : Hid (ComR l y its s s [] 7) := Lib.hid (.inr ⟨k, r, n, y, HKI.out, HRK.out, HN.out, HHD.out, .inr (.inl ⟨rfl, hd, rfl, rfl, rfl⟩)⟩)
    rw [hd] at t3
    clear hd
    go_wp2_with fail
    go_ret2
    exact ⟨_, s, [], 7, rfl, HR.out, World.ownsRow_nil _ _ _ _, (HPW.out.keep0 KA.out).mono (by omega), KA.out.mono (by simp), by simp⟩
  | true =>
    rw [hd] at t3
    have HD := Lib.hid hd
    clear hd
    obtain ⟨rt, hrt⟩ : ∃ rt, r.t = rt := ⟨_, rfl⟩
    rw [hrt] at t2
    have HRT := Lib.hid hrt
    clear hrt
    have WI := Lib.hid (within_any _ F p s lm cm nl nc _ c f (HH.out.keep0 KA.out) (by omega) HS.out rt)
    go_wp2_with fail
    refine WI.out.mono ?_
    rintro e w2 ⟨vi, ids, rfl, hw, oi2, k2, fi, hil2⟩
    obtain ⟨Aw, cw, rfl, -, -, -⟩ := own_shape oi2
    have K2 := Lib.hid (KA.out.trans k2 (by simp))
    have BQ2 := Lib.hid (BQ.out.keep k2 (by simp))
    have HW := Lib.hid hw
    clear hw oi2 k2 fi KA BQ WI t2 t3 hl1 f0 f1
    by_cases hids : 0 < ids.length
    · have HR : Hid (ComR l y its s s [] 8) := Lib.hid (.inr ⟨k, r, n, y, HKI.out, HRK.out, HN.out, HHD.out, .inr (.inr (.inl ⟨rfl, HD.out, fun h => by
        rw [HRT.out] at h
        rw [HW.out.nil_iff.1 h] at hids
        exact absurd hids (by simp), rfl, rfl, rfl⟩))⟩)
      go_wp2_with fail
      go_ret2
      exact ⟨_, s, [], 8, rfl, HR.out, World.ownsRow_nil _ _ _ _, (HPW.out.keep0 K2.out).mono (by omega), K2.out.mono (by simp), by simp⟩
    have HW0 : Hid (IsW s r.t []) := Lib.hid (by
      have e : ids = [] := List.eq_nil_of_length_eq_zero (by omega)
      have := HW.out
      rw [e] at this
      rw [HRT.out]
      exact this)
    have hids0 : ids.length = 0 := by omega
    obtain ⟨V, hV⟩ : ∃ V, rightL its = V := ⟨_, rfl⟩
    have HV := Lib.hid hV
    have RI := Lib.hid (right_any w2 Ai its ci (HZ.out w2 (K2.out.mono (by simp))) HIR.out)
    rw [hV] at RI
    clear hV
    go_wp2_with fail
    refine RI.out.mono ?_
    rintro e w3 ⟨rfl, k3⟩
    have K3 := Lib.hid (K2.out.trans k3 (by simp))
    have BQ3 := Lib.hid (BQ2.out.keep k3 (by simp))
    clear k3 K2 BQ2 RI
    cases V with
    | false =>
      have HR : Hid (ComR l y its s s [] 1) := Lib.hid (.inr ⟨k, r, n, y, HKI.out, HRK.out, HN.out, HHD.out, .inr (.inr (.inr (.inl ⟨rfl, HD.out, HW0.out, HV.out, rfl, rfl, rfl⟩)))⟩)
      go_wp2_with fail
      go_ret2
      exact ⟨_, s, [], 1, rfl, HR.out, World.ownsRow_nil _ _ _ _, (HPW.out.keep0 K3.out).mono (by omega), K3.out.mono (by simp), by simp⟩
    | true =>
      have hp3 := HH.out.keep0 K3.out
      have DE := Lib.hid (delete_any w3 g s.li.length c k _ hp3.o (rw_one rcs_one _) HKK.out (by omega))
      have f13 : w3.cell? ⟨p, 1, none⟩ = some (.slice (some ⟨g, 0, none⟩) s.li.length c) := hp3.b.cell 1
      clear hp3
      go_wp2_with fail
      refine DE.out.mono ?_
      rintro e w4 ⟨rfl, o4, k4⟩
      have hrep := take_rep (HH.out.keep0 K3.out) HKK.out o4 k4
      have b4 : Blk w4 p 61 #[.map (some lm), .slice (some ⟨g, 0, none⟩) s.li.length c, .map (some cm)] := (HH.out.keep0 K3.out).b.keep k4 (by
        have : p ≠ g := fun e => own_blk_off HH.out.o HH.out.b (by decide) (by rw [e]; simp)
        simpa using this)
      have hfr : w4.frozen? ⟨p, 1, none⟩ = false := b4.frozen 1
      have hp14 : w4.cell? ⟨p, 1, none⟩ = some (.slice (some ⟨g, 0, none⟩) s.li.length c) := b4.cell 1
      have hFL := HH.out.lt
      have hw1 := K1.out.size
      have BQ5 : Hid (Blk (w4.setCell ⟨p, 1, none⟩ (.slice (some ⟨g, 0, none⟩) (s.li.length - 1) c)) w1.heap.size 56 #[.int .i64 l, .int .i64 n.par, .int .i64 n.pid, .slice (some ⟨bi, oi, none⟩) vn vc]) := Lib.hid ((BQ3.out.keep k4 (by simp; omega)).far (by simp; omega) _)
      have HR5 := Lib.hid hrep
      clear o4 k4 b4 hrep DE BQ3 f13
      go_wp2_with fail
      obtain ⟨w5, hw5⟩ : ∃ w5, w4.setCell ⟨p, 1, none⟩ (.slice (some ⟨g, 0, none⟩) (s.li.length - 1) c) = w5 := ⟨_, rfl⟩
      rw [hw5] at HR5 BQ5 ⊢
      clear hw5 hfr hp14
      have HOKC : Hid (kP.ok (l, y)) := Lib.hid (by
        have hm := List.getElem?_eq_some_iff.1 HRK.out
        obtain ⟨_, hkk, -⟩ := ixF_spec hkI
        simp only [Bool.and_eq_true, decide_eq_true_eq] at hkk
        have := HKR.out _ (List.getElem_mem HKK.out)
        rw [hkk.1, hkk.2] at this
        exact this)
      refine (count_pl w5 F p (takeOut s k) lm cm nl nc _ c f HR5.out.1 l y comC M (by omega) HCM.out comC_ok HOKC.out (by omega)).mono ?_
      rintro e w6 ⟨rfl, hp6, k6⟩
      have K5 : Hid (Keeps F w w5) := Lib.hid ((K3.out.mono (by simp)).trans HR5.out.2 (fun y hy => .inl hy))
      have K6 : Hid (Keeps F w w6) := Lib.hid (K5.out.trans k6 (fun y hy => .inl hy))
      have HP6 := Lib.hid hp6
      have BQ6 := Lib.hid (BQ5.out.keep k6 (fun hq => by have := hFL _ hq; omega))
      have CI := Lib.hid (cloneI_any w6 Ai its ci (HZ.out w6 K6.out))
      clear hp6 k6 HR5 BQ5 K5
      go_wp2_with fail
      refine CI.out.mono ?_
      rintro e w7 ⟨v7, rfl, o7, k7, f7⟩
      obtain ⟨g7, c7, hv7, -⟩ := own_opt o7
      subst hv7
      have K7 := Lib.hid (K6.out.trans k7 (by simp))
      have HP7 := Lib.hid (HP6.out.keep0 k7)
      have bq7 := BQ6.out.keep k7 (by simp)
      have q3 : w7.cell? ⟨w1.heap.size, 3, none⟩ = some (.slice (some ⟨bi, oi, none⟩) vn vc) := bq7.cell 3
      have qf : w7.frozen? ⟨w1.heap.size, 3, none⟩ = false := bq7.frozen 3
      have hz67 := K6.out.size
      have hqi : ¬ IntRow w7 w1.heap.size := fun ⟨cs, fr, hh⟩ => by
        unfold Blk at bq7
        rw [hh] at bq7
        cases bq7
      have kq : Keeps [w1.heap.size] w7 (w7.setCell ⟨w1.heap.size, 3, none⟩ (.slice (g7.map fun g => ⟨g, 0, none⟩) its.length c7)) := (Keeps.refl _ _).setCell (.inl (by simp)) _
      have HP8 := Lib.hid (HP7.out.keep kq (fun y hy hyq => by have h1 := hFL y hy; rw [List.mem_singleton.1 hyq] at h1; omega) (fun y hy => by rw [List.mem_singleton.1 hy]; exact hqi))
      have O8 := Lib.hid (own_keep o7 kq (fun y hy hyq => by rw [List.mem_singleton.1 hyq] at hy; exact hqi (own_int o7 _ hy)))
      have K8 : Hid (Keeps F w (w7.setCell ⟨w1.heap.size, 3, none⟩ (.slice (g7.map fun g => ⟨g, 0, none⟩) its.length c7))) := Lib.hid (K7.out.trans kq (fun y hy => .inr (by rw [List.mem_singleton.1 hy]; exact hw1)))
      have BQ8 : Hid (Blk (w7.setCell ⟨w1.heap.size, 3, none⟩ (.slice (g7.map fun g => ⟨g, 0, none⟩) its.length c7)) w1.heap.size 56 #[.int .i64 l, .int .i64 n.par, .int .i64 n.pid, .slice (g7.map fun g => ⟨g, 0, none⟩) its.length c7]) := Lib.hid (bq7.set_ 3 _)
      obtain ⟨V7, hV7⟩ : ∃ V7, (g7.map fun g => (⟨g, 0, none⟩ : Addr)) = V7 := ⟨_, rfl⟩
      have HV7 := Lib.hid hV7
      rw [hV7] at HP8 O8 K8 BQ8 ⊢
      clear o7 k7 f7 K6 HP6 BQ6 bq7 kq hqi HP7 K7 hz67 CI hV7
      go_wp2_with fail
      obtain ⟨w8, hw8⟩ : ∃ w8, w7.setCell ⟨w1.heap.size, 3, none⟩ (.slice V7 its.length c7) = w8 := ⟨_, rfl⟩
      rw [hw8] at HP8 O8 K8 BQ8 ⊢
      clear hw8 q3 qf
      rw [← HV7.out] at O8 BQ8
      go_upto_region 16 with fail
      refine com16_any w8 p w1.heap.size lm nl l ⟨l, n.par, n.pid, g7, its.length, c7⟩ f _ (fun W kW => ⟨(HP8.out.keep0 kW).b.cell 0, BQ8.out.keep kW (by simp), (HP8.out.keep0 kW).ml⟩) (kI_ok h1 h2) (by unfold maxLen; omega) _ _ _ _ _ _ _ _ _ _ _ _ _ _ _ _ _ _ _ _ _ _ _ _ _ _ _ _ _ _ _ _ _ _ _ _ _ _ _ _ _ _ _ _ _ _ _ _ _ _ _ _ _ _ _ _ _ _ _ _ _ _ _ _ _ _ _ _ _ _ _ _ _ _ _ _ _ _ _ _ _ _ _ ?_
      intro v77 v78 v79 v80 v81 v82 w9 hm9 k9
      have hrep9 := line_rep (n := ⟨n.par, n.pid, its⟩) HP8.out hm9 k9 ⟨rfl, rfl, rfl, rfl, O8.out⟩
      have hlF : lm ∈ F := by rw [HP8.out.fF]; simp
      have hll := HH.out.lt lm hlF
      have hw1 := K1.out.size
      have O9 := Lib.hid (own_keep O8.out k9 (fun x hx hxl => by
        rw [List.mem_singleton.1 hxl] at hx
        exact HP8.out.noInt lm hlF (own_int O8.out lm hx)))
      have bq9 := BQ8.out.keep k9 (fun hq => by have := List.mem_singleton.1 hq; omega)
      rw [HV7.out] at bq9 O9
      have q0 : w9.cell? ⟨w1.heap.size, 0, none⟩ = some (.int .i64 l) := bq9.cell 0
      have q1 : w9.cell? ⟨w1.heap.size, 1, none⟩ = some (.int .i64 n.par) := bq9.cell 1
      have q2 : w9.cell? ⟨w1.heap.size, 2, none⟩ = some (.int .i64 n.pid) := bq9.cell 2
      have q3 : w9.cell? ⟨w1.heap.size, 3, none⟩ = some (.slice V7 its.length c7) := bq9.cell 3
      have HP9 := Lib.hid hrep9.1
      have K9 : Hid (Keeps F w w9) := Lib.hid (K8.out.trans hrep9.2 (fun x hx => .inl hx))
      have hel := eraseIdx_len HKK.out
      obtain ⟨S3, hS3⟩ : ∃ S3, setIt (cntS (takeOut s k) l y comC) l n its = S3 := ⟨_, rfl⟩
      have e9 : (⟨updG (cntS (takeOut s k) l y comC).ln l (some ⟨n.par, n.pid, its⟩), (cntS (takeOut s k) l y comC).li, (cntS (takeOut s k) l y comC).ct⟩ : Pl) = S3 := hS3
      have HLI : Hid (S3.li = s.li.eraseIdx k ∧ S3.ct = (cntS (takeOut s k) l y comC).ct ∧ S3.ln = updG s.ln l (some ⟨n.par, n.pid, its⟩)) := Lib.hid ⟨by rw [← hS3]; rfl, by rw [← hS3]; rfl, by rw [← hS3]; rfl⟩
      rw [e9] at HP9
      have hl3 : S3.li.length + 1 = s.li.length := by rw [HLI.out.1]; exact hel
      have HS3 := Lib.hid hS3
      have HCM3 : Hid (CapM (M + 1) S3.ct) := Lib.hid (by rw [HLI.out.2.1]; exact HCM.out.add l y comC_ok)
      have HSS : Hid (∀ x n', S3.ln x = some n' → kI.ok x) := Lib.hid (fun x n' hx => by
        rw [HLI.out.2.2] at hx
        by_cases e : x = l
        · subst e; exact kI_ok h1 h2
        · rw [updG_ne _ _ e] at hx; exact HS.out x n' hx)
      have HKR3 : Hid (∀ r ∈ S3.li, kP.ok (r.l, r.i)) := Lib.hid (fun r hr => HKR.out r (by rw [HLI.out.1] at hr; exact (List.eraseIdx_sublist _ _).subset hr))
      clear hm9 k9 hrep9 e9 hS3 HP8 K8 BQ8 O8 bq9 hel
      have STR := Lib.hid (strays_any w9 F p S3 lm cm (nl + 1) (nc + 1) _ c _ HP9.out (by omega) (by omega) HSS.out HKR3.out (M + 1) (by omega) HCM3.out l n.par n.pid its V7 c7 hil O9.out)
      go_wp2_with fail
      refine STR.out.mono ?_
      rintro e w10 ⟨v10, o10, s10, f10, nc10, rfl, hst, o10w, hp10, hn10, k10, ff10⟩
      obtain ⟨A10, c10, rfl, -, -, -⟩ := own_shape o10w
      have HR : Hid (ComR l y its s s10 o10 0) := Lib.hid (.inr ⟨k, r, n, y, HKI.out, HRK.out, HN.out, HHD.out, .inr (.inr (.inr (.inr ⟨rfl, HD.out, HW0.out, HV.out, by rw [HS3.out]; exact hst, rfl⟩)))⟩)
      have O10 := Lib.hid o10w
      have HP10 := Lib.hid hp10
      have hz9 := K9.out.size
      have K10 : Hid (Keeps F w w10) := Lib.hid (K9.out.trans k10 (fun x hx => .inl hx))
      have FF10 := Lib.hid (fun x hx => Nat.le_trans hz9 (ff10 x hx))
      clear hst o10w hp10 k10 ff10 STR HP9 K9 O9 hz9
      go_wp2_with fail
      go_ret2
      exact ⟨_, s10, o10, 0, rfl, HR.out, O10.out, ⟨lm, cm, nl + 1, nc10, _, c, f10, HP10.out, by omega, by omega⟩, K10.out, FF10.out⟩
end Go.Proofs.YtcopjjokhjealaaGreat
namespace Go.Proofs.YtcopjjokhjealaaGreat
open Go.RowKit

def runC : Ct := ⟨0, 0, 1, 0, 0, 0, 0⟩
theorem runC_ok : OkM 1 runC := ⟨by simp [runC], by simp [runC], by simp [runC], by simp [runC], by simp [runC]⟩
def begN (s : Pl) (l i t : Int) (n : Ln) : Int :=
  if t < 1 then 1 else if i ∉ n.it then 3 else if 0 ≤ fndI s.li l i ∨ 0 ≤ triI s.li t then 5 else if 4 ≤ manyI s.li l then 6 else 0
def begE (s : Pl) (l i t : Int) : Int := match s.ln l with
  | none => 4
  | some n => begN s l i t n
noncomputable def begS (s : Pl) (l i t : Int) : Pl := if begE s l i t = 0 then cntS ⟨s.ln, s.li ++ [⟨l, i, t, false⟩], s.ct⟩ l i runC else s
/-- The list with one more item, stored into the planner. -/
theorem app_rep {w w1 : World} {F : List Nat} {p : Nat} {s : Pl} {lm cm nl nc c c2 : Nat} {A A2 : Option Addr} {f : Int → Option LnV} {x : Rn} (h : PlAt w F p s lm cm nl nc A c f)
    (ho : w1.ownsRow 0 69 4 (.slice A2 (s.li.length + 1) c2) (s.li.length + 1) (rw rcs s.li ++ rcs x)) (k1 : Keeps (fp (.slice A s.li.length c)) w w1) (hf : ∀ g ∈ fp (.slice A2 (s.li.length + 1) c2), g ∈ fp (.slice A s.li.length c) ∨ w.heap.size ≤ g) :
    let w2 := w1.setCell ⟨p, 1, none⟩ (.slice A2 (s.li.length + 1) c2)
    let F2 := p :: lm :: cm :: fp (.slice A2 (s.li.length + 1) c2)
    PlAt w2 F2 p ⟨s.ln, s.li ++ [x], s.ct⟩ lm cm nl nc A2 c2 f ∧ Keeps F w w2 ∧ ∀ g ∈ F2, g ∈ F ∨ w.heap.size ≤ g := by
  intro w2 F2
  have hF := h.fF
  have hpA : p ∉ fp (.slice A s.li.length c) := own_blk_off h.o h.b (by decide)
  have hlA : lm ∉ fp (.slice A s.li.length c) := h.ml.off h.o
  have hcA : cm ∉ fp (.slice A s.li.length c) := h.mc.off h.o
  have hlp : lm ≠ p := fun e => h.ml.ne_blk h.b e
  have hcp : cm ≠ p := fun e => h.mc.ne_blk h.b e
  have hp2 : p ∉ fp (.slice A2 (s.li.length + 1) c2) := fun hg => (hf p hg).elim hpA (fun h1 => by have := h.b.lt; omega)
  have kk : Keeps (p :: fp (.slice A s.li.length c)) w w2 := (k1.mono (fun g hg => List.mem_cons_of_mem _ hg)).setCell (.inl (by simp)) _
  have hsub : ∀ g ∈ p :: fp (.slice A s.li.length c), g ∈ F := fun g hg => by
    rw [hF]
    rcases List.mem_cons.1 hg with rfl | hg
    · simp
    · simp [hg]
  have hn : (s.li ++ [x]).length = s.li.length + 1 := by simp
  refine ⟨⟨by rw [hn], ?_, h.ml.keep kk (by simp [hlp, hlA]), h.mc.keep kk (by simp [hcp, hcA]), h.lc, ?_, h.ls.keep kk (fun g hg => h.noInt g (hsub g hg))⟩, kk.mono hsub, fun g hg => ?_⟩
  · rw [hn]
    exact (h.b.keep k1 hpA).set_ 1 _
  · rw [hn, rw_append, show rw rcs [x] = rcs x by simp [rw]]
    exact own_far ho hp2 _
  · rw [hF]
    rcases List.mem_cons.1 hg with rfl | hg
    · simp
    rcases List.mem_cons.1 hg with rfl | hg
    · simp
    rcases List.mem_cons.1 hg with rfl | hg
    · simp
    rcases hf g hg with h1 | h1
    · exact .inl (by simp [h1])
    · exact .inr h1
set_option maxRecDepth 100000 in
set_option maxHeartbeats 12800000 in
theorem began_any (w : World) (F : List Nat) (p : Nat) (s : Pl) (Φ : Nat) (h : PR w F p s Φ) (hΦ : Φ ≤ 900)
    (hi : ∀ x n, s.ln x = some n → n.it.length ≤ 1000) (M : Nat) (hM : M ≤ 900000) (hc : CapM M s.ct) (l i t : Int) (h1 : -9223372036854775808 ≤ l) (h2 : l ≤ 9223372036854775807) (h3 : -9223372036854775808 ≤ i) (h4 : i ≤ 9223372036854775807) :
    Calls Tryz.prog 16 #[.pointer (some ⟨p, 0, none⟩), .int .i64 l, .int .i64 i, .int .i64 t] w fun e w' =>
      e = .returned (.int .i64 (begE s l i t)) ∧ ∃ F', PR w' F' p (begS s l i t) (Φ + 2) ∧ Keeps F w w' ∧ ∀ g ∈ F', g ∈ F ∨ w.heap.size ≤ g := by
  have hPR := h
  obtain ⟨lm, cm, nl, nc, A, c, f, h, hnl, hnc⟩ := h
  have hf0 : w.cell? ⟨p, 0, none⟩ = some (.map (some lm)) := h.b.cell 0
  have hpl := h.b.lt
  have HPW := Lib.hid hPR
  have HH := Lib.hid h
  have HCM := Lib.hid hc
  have hlk := h.ml.look (kI_ok h1 h2) Tryz.underlying57 (zero66 w)
  obtain ⟨E, hE⟩ : ∃ E, begE s l i t = E := ⟨_, rfl⟩
  obtain ⟨S, hS⟩ : ∃ S, begS s l i t = S := ⟨_, rfl⟩
  have HSE : Hid (E ≠ 0 → S = s) := Lib.hid (fun h0 => by rw [← hS]; unfold begS; rw [if_neg (by rw [hE]; exact h0)])
  have HS0 : Hid (E = 0 → S = cntS ⟨s.ln, s.li ++ [⟨l, i, t, false⟩], s.ct⟩ l i runC) := Lib.hid (fun h0 => by rw [← hS]; unfold begS; rw [if_pos (by rw [hE]; exact h0)])
  rw [hE, hS]
  rcases h.ls l with ⟨e1, e2⟩ | ⟨v, n, e1, e2, e3, e4, e5, e6, e7⟩
  · rw [e1] at hlk
    have hl' : (Instr.lookup 57 (.map (some lm)) (.int .i64 l) true).run Tryz.prog w = .ok (.tuple #[.agg #[.int .i64 0, .int .i64 0, .int .i64 0, .slice none 0 0], .bool false]) w := hlk
    have eE : E = 4 := by rw [← hE]; unfold begE; rw [e2]
    subst eE
    have eS := HSE.out (by decide)
    subst eS
    clear hlk h hPR hc hi hE hS e1 e2
    go_enter Tryz.func16, Tryz.ntmps16
    go_wp2_with fail
    go_ret
    exact ⟨rfl, F, (HPW.out.keep0 ((Keeps.refl [] w).alloc _)).mono (by omega), ((Keeps.refl [] w).alloc _).mono (by simp), fun g hg => .inl hg⟩
  rw [e1] at hlk
  have hnl' := hi l n e2
  have hl' : (Instr.lookup 57 (.map (some lm)) (.int .i64 l) true).run Tryz.prog w = .ok (.tuple #[.agg #[.int .i64 v.id, .int .i64 v.par, .int .i64 v.pid, .slice (v.b.map fun g => ⟨g, 0, none⟩) v.n v.c], .bool true]) w := hlk
  rw [e6] at hl'
  obtain ⟨Ai, hAi⟩ : ∃ Ai, (v.b.map fun g => (⟨g, 0, none⟩ : Addr)) = Ai := ⟨_, rfl⟩
  rw [hAi] at hl' e7
  have HZ := Lib.hid (fun W (k : Keeps [] w W) => (AtZ.of_own e7 (by omega)).keep k)
  have HE : Hid (E = begN s l i t n) := Lib.hid (by rw [← hE]; unfold begE; rw [e2])
  obtain ⟨it, hit⟩ : ∃ it, n.it = it := ⟨_, rfl⟩
  rw [hit] at hl' HZ
  have HIT := Lib.hid hit
  have KA : Hid (Keeps [] w (w.alloc (.cells #[.int .i64 v.id, .int .i64 v.par, .int .i64 v.pid, .slice Ai it.length v.c] 56))) := Lib.hid ((Keeps.refl [] w).alloc _)
  have FIN : Hid (∀ W, Keeps [] w W → E ≠ 0 → ∃ F', PR W F' p S (Φ + 2) ∧ Keeps F w W ∧ ∀ g ∈ F', g ∈ F ∨ w.heap.size ≤ g) := Lib.hid (fun W kW h0 => by
    rw [HSE.out h0]
    exact ⟨F, (HPW.out.keep0 kW).mono (by omega), kW.mono (by simp), fun g hg => .inl hg⟩)
  clear hlk h hPR hc hi hE hS e1 e2 e3 e4 e5 e6 e7 hnl' hit hAi
  by_cases ht : t < 1
  · have eE : E = 1 := by rw [HE.out]; unfold begN; rw [if_pos ht]
    subst eE
    go_enter Tryz.func16, Tryz.ntmps16
    go_wp2_with fail
    go_ret
    obtain ⟨F', a1, a2, a3⟩ := FIN.out _ KA.out (by decide)
    exact ⟨rfl, F', a1, a2, a3⟩
  have HE1 : Hid (E = if i ∉ it then 3 else if 0 ≤ fndI s.li l i ∨ 0 ≤ triI s.li t then 5 else if 4 ≤ manyI s.li l then 6 else 0) := Lib.hid (by rw [HE.out]; unfold begN; rw [if_neg ht, HIT.out])
  clear HE HIT
  have CO := Lib.hid (contains_any _ Ai it v.c i (HZ.out _ KA.out))
  by_cases hin : i ∈ it
  rotate_left
  · have eE : E = 3 := by rw [HE1.out, if_pos hin]
    subst eE
    rw [decide_eq_false hin] at CO
    go_enter Tryz.func16, Tryz.ntmps16
    go_wp2_with fail
    refine CO.out.mono ?_
    rintro e w1 ⟨rfl, rfl⟩
    go_wp2_with fail
    go_ret
    obtain ⟨F', a1, a2, a3⟩ := FIN.out _ KA.out (by decide)
    exact ⟨rfl, F', a1, a2, a3⟩
  rw [decide_eq_true hin] at CO
  have HE2 : Hid (E = if 0 ≤ fndI s.li l i ∨ 0 ≤ triI s.li t then 5 else if 4 ≤ manyI s.li l then 6 else 0) := Lib.hid (by rw [HE1.out, if_neg (fun h => h hin)])
  clear HE1 hin HZ
  have FI := Lib.hid (find_any _ p A s.li c l i ((HH.out.keep0 KA.out).b.cell 1) (AtR.of_own (HH.out.keep0 KA.out).o (by omega)))
  obtain ⟨I, hI⟩ : ∃ I, fndI s.li l i = I := ⟨_, rfl⟩
  rw [hI] at FI HE2
  clear hI
  by_cases hI0 : 0 ≤ I
  · have eE : E = 5 := by rw [HE2.out, if_pos (.inl hI0)]
    subst eE
    go_enter Tryz.func16, Tryz.ntmps16
    go_wp2_with fail
    refine CO.out.mono ?_
    rintro e w1 ⟨rfl, rfl⟩
    go_wp2_with fail
    refine FI.out.mono ?_
    rintro e w2 ⟨rfl, k2⟩
    have K2 := Lib.hid (KA.out.trans k2 (by simp))
    clear k2 FI CO KA
    go_wp2_with fail
    go_ret
    obtain ⟨F', a1, a2, a3⟩ := FIN.out _ K2.out (by decide)
    exact ⟨rfl, F', a1, a2, a3⟩
  have HE3 : Hid (E = if 0 ≤ triI s.li t then 5 else if 4 ≤ manyI s.li l then 6 else 0) := Lib.hid (by
    rw [HE2.out]
    by_cases h : 0 ≤ triI s.li t
    · rw [if_pos (.inr h), if_pos h]
    · rw [if_neg (fun hh => hh.elim hI0 h), if_neg h])
  clear HE2
  have TI : Hid (∀ W, Keeps [] w W → Calls Tryz.prog 47 #[.pointer (some ⟨p, 0, none⟩), .int .i64 t] W fun e w' => e = .returned (.int .i64 (triI s.li t)) ∧ Keeps [] W w') := Lib.hid (fun W kW => trial_any W p A s.li c t ((HH.out.keep0 kW).b.cell 1) (AtR.of_own (HH.out.keep0 kW).o (by omega)))
  obtain ⟨T, hT⟩ : ∃ T, triI s.li t = T := ⟨_, rfl⟩
  rw [hT] at TI HE3
  clear hT
  by_cases hT0 : 0 ≤ T
  · have eE : E = 5 := by rw [HE3.out, if_pos hT0]
    subst eE
    go_enter Tryz.func16, Tryz.ntmps16
    go_wp2_with fail
    refine CO.out.mono ?_
    rintro e w1 ⟨rfl, rfl⟩
    go_wp2_with fail
    refine FI.out.mono ?_
    rintro e w2 ⟨rfl, k2⟩
    have K2 := Lib.hid (KA.out.trans k2 (by simp))
    clear k2 FI CO KA
    go_wp2_with fail
    refine (TI.out w2 K2.out).mono ?_
    rintro e w3 ⟨rfl, k3⟩
    have K3 := Lib.hid (K2.out.trans k3 (by simp))
    clear k3 K2 TI
    go_wp2_with fail
    go_ret
    obtain ⟨F', a1, a2, a3⟩ := FIN.out _ K3.out (by decide)
    exact ⟨rfl, F', a1, a2, a3⟩
  have HE4 : Hid (E = if 4 ≤ manyI s.li l then 6 else 0) := Lib.hid (by rw [HE3.out, if_neg hT0])
  clear HE3
  have MA : Hid (∀ W, Keeps [] w W → Calls Tryz.prog 48 #[.pointer (some ⟨p, 0, none⟩), .int .i64 l] W fun e w' => e = .returned (.int .i64 (manyI s.li l : Nat)) ∧ Keeps [] W w') := Lib.hid (fun W kW => many_any W p A s.li c l ((HH.out.keep0 kW).b.cell 1) (AtR.of_own (HH.out.keep0 kW).o (by omega)))
  obtain ⟨m, hm⟩ : ∃ m, manyI s.li l = m := ⟨_, rfl⟩
  rw [hm] at MA HE4
  clear hm
  have HI := Lib.hid info69
  go_enter Tryz.func16, Tryz.ntmps16
  go_wp2_with fail
  refine CO.out.mono ?_
  rintro e w1 ⟨rfl, rfl⟩
  go_wp2_with fail
  refine FI.out.mono ?_
  rintro e w2 ⟨rfl, k2⟩
  have K2 := Lib.hid (KA.out.trans k2 (by simp))
  clear k2 FI CO KA
  go_wp2_with fail
  refine (TI.out w2 K2.out).mono ?_
  rintro e w3 ⟨rfl, k3⟩
  have K3 := Lib.hid (K2.out.trans k3 (by simp))
  clear k3 K2 TI
  go_wp2_with fail
  refine (MA.out w3 K3.out).mono ?_
  rintro e w4 ⟨rfl, k4⟩
  have K4 := Lib.hid (K3.out.trans k4 (by simp))
  clear k4 K3 MA
  by_cases hm4 : 4 ≤ m
  · have eE : E = 6 := by rw [HE4.out, if_pos hm4]
    subst eE
    go_wp2_with fail
    go_ret
    obtain ⟨F', a1, a2, a3⟩ := FIN.out _ K4.out (by decide)
    exact ⟨rfl, F', a1, a2, a3⟩
  have eE : E = 0 := by rw [HE4.out, if_neg hm4]
  subst eE
  have eS := HS0.out rfl
  subst eS
  have HP4 := Lib.hid (HH.out.keep0 K4.out)
  have f14 : w4.cell? ⟨p, 1, none⟩ = some (.slice A s.li.length c) := HP4.out.b.cell 1
  have hpl4 := HP4.out.b.lt
  have ka : Keeps [] w4 (w4.alloc (.cells #[.int .i64 l, .int .i64 i, .int .i64 t, .bool false] 69)) := (Keeps.refl _ _).alloc _
  have HO := Lib.hid (own_keep HP4.out.o ka (by simp))
  have HRD := Lib.hid (reads_cells w4 #[.int .i64 l, .int .i64 i, .int .i64 t, .bool false] 1 4 69 rfl)
  have KA := Lib.hid ka
  clear ka HE4 FIN
  go_wp2_with (at_builtin; refine wpList_app _ rfl (.tmp 53) (.tmp 58) _ rfl 69 (.agg #[.int .i64 0, .int .i64 0, .int .i64 0, .bool false]) 4 32 Tryz.underlying58 HI.out rfl (by omega) (.slice A s.li.length c) _ _ rfl HO.out _ _ _ _ [.int .i64 l, .int .i64 i, .int .i64 t, .bool false] rfl HRD.out (by simp [Value.oneCell']) (by unfold maxLen; omega) (by omega) ?_)
  intro v5 w5 o5 k5 f5
  obtain ⟨A2, c2, rfl, -, -, -⟩ := own_shape o5
  have hpA : p ∉ fp (.slice A s.li.length c) := own_blk_off HP4.out.o HP4.out.b (by decide)
  have k45 : Keeps (fp (.slice A s.li.length c)) w4 w5 := (KA.out.mono (by simp)).trans k5 (fun g hg => .inl hg)
  have hrep := app_rep (x := ⟨l, i, t, false⟩) HP4.out o5 k45 (fun g hg => (f5 g hg).imp id (fun h => by omega))
  have b5 := HP4.out.b.keep k45 hpA
  have f15 : w5.cell? ⟨p, 1, none⟩ = some (.slice A s.li.length c) := b5.cell 1
  have hfr : w5.frozen? ⟨p, 1, none⟩ = false := b5.frozen 1
  have HREP := Lib.hid hrep
  clear o5 k5 f5 b5 k45 hrep hpA HO HRD KA f14
  go_wp2_with fail
  obtain ⟨w6, hw6⟩ : ∃ w6, w5.setCell ⟨p, 1, none⟩ (.slice A2 (s.li.length + 1) c2) = w6 := ⟨_, rfl⟩
  rw [hw6] at HREP ⊢
  clear hw6 f15 hfr
  obtain ⟨hp6, k6, hf6⟩ := HREP.out
  refine (count_pl w6 _ p ⟨s.ln, s.li ++ [⟨l, i, t, false⟩], s.ct⟩ lm cm nl nc A2 c2 f hp6 l i runC M (by omega) HCM.out runC_ok (kP_ok h1 h2 h3 h4) (by omega)).mono ?_
  rintro e w7 ⟨rfl, hp7, k7⟩
  have HP7 := Lib.hid hp7
  have hz4 := K4.out.size
  have K7 : Hid (Keeps F w w7) := Lib.hid (((K4.out.mono (by simp)).trans k6 (fun g hg => .inl hg)).trans k7 (fun g hg => (hf6 g hg).imp id (fun h => by omega)))
  have HF7 := Lib.hid (fun g hg => (hf6 g hg).imp id (fun h => Nat.le_trans hz4 h))
  clear hp6 k6 hf6 hp7 k7 HREP K4 HP4
  go_wp2_with fail
  go_ret
  exact ⟨rfl, _, ⟨lm, cm, nl, nc + 1, A2, c2, f, HP7.out, by omega, by simp only [cntS, List.length_append, List.length_cons, List.length_nil]; omega⟩, K7.out, HF7.out⟩
end Go.Proofs.YtcopjjokhjealaaGreat
