/- Texts of the elder seat, turned to this one: W11 W12 W13 W14 W15 W16. -/
import Derived.Test.YtcopjjokhjealaaGreatM2
import Derived.Deep.QuietTactic
import Derived.BigQuiet
namespace Go.Proofs.YtcopjjokhjealaaGreat
open Go.RowKit

theorem AtR.of_own {w : World} {A : Option Addr} {c : Nat} {L : List Rn} (h : w.ownsRow 0 69 4 (.slice A L.length c) L.length (rw rcs L)) (hm : L.length ≤ 1000000) : AtR w A L := by
  refine ⟨fun h0 => ?_, hm⟩
  obtain ⟨_, _, hv, -, -, hA⟩ := own_shape h
  obtain ⟨g, hg⟩ := hA h0
  obtain ⟨rfl, -, rfl⟩ : A = _ ∧ L.length = _ ∧ c = _ := by injection hv with h1 h2 h3; exact ⟨h1, rfl, h3⟩
  subst hg
  have hc : ∀ k (hk : k < L.length) j (hj : j < 4) u, (rcs L[k])[j]? = some u → w.cell? ⟨g, k * 4 + j, none⟩ = some u := fun k hk j hj u hu => own_cell h (by rw [rw_at rcs_len hk hj]; exact hu)
  refine ⟨g, 0, rfl, own_lt h (by simp [fp, Value.ownBlock]), fun k hk => ?_⟩
  rw [Nat.zero_add]
  exact ⟨hc k hk 0 (by omega) _ rfl, hc k hk 1 (by omega) _ rfl, hc k hk 2 (by omega) _ rfl, hc k hk 3 (by omega) _ rfl⟩
theorem AtZ.of_own {w : World} {A : Option Addr} {c : Nat} {L : List Int} (h : w.ownsRow 0 3 1 (.slice A L.length c) L.length (zs L)) (hm : L.length ≤ 1000000) : AtZ w A L := by
  refine ⟨fun h0 => ?_, hm⟩
  obtain ⟨_, _, hv, -, -, hA⟩ := own_shape h
  obtain ⟨g, hg⟩ := hA h0
  obtain ⟨rfl, -, rfl⟩ : A = _ ∧ L.length = _ ∧ c = _ := by injection hv with h1 h2 h3; exact ⟨h1, rfl, h3⟩
  subst hg
  refine ⟨g, 0, rfl, own_lt h (by simp [fp, Value.ownBlock]), fun k hk => ?_⟩
  rw [Nat.zero_add]
  exact own_cell h (by unfold zs; simp [hk])
/-- The item that may begin next. -/
def aheadV (s : Pl) (x : Int) : Option Int := match s.ln x with
  | none => none
  | some n => if 4 ≤ manyI s.li x then none else n.it.find? (fun i => decide (fndI s.li x i < 0))
set_option maxRecDepth 100000 in
set_option maxHeartbeats 6400000 in
theorem ahead_any (w : World) (F : List Nat) (p : Nat) (s : Pl) (lm cm nl nc : Nat) (A : Option Addr) (c : Nat) (f : Int → Option LnV) (h : PlAt w F p s lm cm nl nc A c f) (hl : s.li.length ≤ 1000) (hi : ∀ x n, s.ln x = some n → n.it.length ≤ 1000)
    (x : Int) (h1 : -9223372036854775808 ≤ x) (h2 : x ≤ 9223372036854775807) :
    Calls Tryz.prog 17 #[.pointer (some ⟨p, 0, none⟩), .int .i64 x] w fun e w' => e = .returned (.tuple #[.int .i64 ((aheadV s x).getD 0), .bool (aheadV s x).isSome]) ∧ Keeps [] w w' := by
  have f0 : w.cell? ⟨p, 0, none⟩ = some (.map (some lm)) := h.b.cell 0
  have HR := Lib.hid (fun W (k : Keeps [] w W) => (AtR.of_own h.o (by omega)).keep k)
  have HF1 := Lib.hid (fun W (k : Keeps [] w W) => (k.cell (p := ⟨p, 1, none⟩) h.b.lt (by simp)).trans (h.b.cell 1))
  have hlk := h.ml.look (kI_ok h1 h2) Tryz.underlying57 (zero66 w)
  obtain ⟨V, hV⟩ : ∃ V, aheadV s x = V := ⟨_, rfl⟩
  rw [hV]
  rcases h.ls x with ⟨e1, e2⟩ | ⟨v, n, e1, e2, e3, e4, e5, e6, e7⟩
  · rw [e1] at hlk
    have hl' : (Instr.lookup 57 (.map (some lm)) (.int .i64 x) true).run Tryz.prog w = .ok (.tuple #[.agg #[.int .i64 0, .int .i64 0, .int .i64 0, .slice none 0 0], .bool false]) w := hlk
    have eV : V = none := by rw [← hV]; unfold aheadV; rw [e2]
    subst eV
    clear hlk hV h hi
    go_enter Tryz.func17, Tryz.ntmps17
    go_wp2_with fail
    go_ret2
    exact ⟨rfl, (Keeps.refl [] w).alloc _⟩
  · rw [e1] at hlk
    have hnl := hi x n e2
    have hl' : (Instr.lookup 57 (.map (some lm)) (.int .i64 x) true).run Tryz.prog w = .ok (.tuple #[.agg #[.int .i64 v.id, .int .i64 v.par, .int .i64 v.pid, .slice (v.b.map fun g => ⟨g, 0, none⟩) v.n v.c], .bool true]) w := hlk
    rw [e6] at hl'
    have HZ := Lib.hid (fun W (k : Keeps [] w W) => (AtZ.of_own e7 (by omega)).keep k)
    have hV2 : V = if 4 ≤ manyI s.li x then none else n.it.find? (fun i => decide (fndI s.li x i < 0)) := by rw [← hV]; unfold aheadV; rw [e2]
    have HV := Lib.hid hV2
    obtain ⟨Ai, hAi⟩ : ∃ Ai, (v.b.map fun g => (⟨g, 0, none⟩ : Addr)) = Ai := ⟨_, rfl⟩
    rw [hAi] at hl' HZ
    clear hlk hV hV2 h hi e1 e2 e3 e4 e5 e6 e7 hAi
    go_enter Tryz.func17, Tryz.ntmps17
    go_wp2_with fail
    have K1 : Hid (Keeps [] w (w.alloc (.cells #[.int .i64 v.id, .int .i64 v.par, .int .i64 v.pid, .slice Ai n.it.length v.c] 56))) := Lib.hid ((Keeps.refl [] w).alloc _)
    have BL := Lib.hid (Blk.new w 56 #[.int .i64 v.id, .int .i64 v.par, .int .i64 v.pid, .slice Ai n.it.length v.c])
    refine (many_any _ p A s.li c x (HF1.out _ K1.out) (HR.out _ K1.out)).mono ?_
    rintro e w1 ⟨rfl, k1⟩
    have K2 : Hid (Keeps [] w w1) := Lib.hid (K1.out.trans k1 (by simp))
    have c3 : w1.cell? ⟨w.heap.size, 3, none⟩ = some (.slice Ai n.it.length v.c) := (BL.out.keep k1 (by simp)).cell 3
    obtain ⟨M, hM⟩ : ∃ M, manyI s.li x = M := ⟨_, rfl⟩
    rw [hM] at HV ⊢
    clear k1 BL K1 hM
    by_cases hM4 : 4 ≤ M
    · have eV : V = none := by rw [HV.out, if_pos hM4]
      subst eV
      clear HV
      go_wp2_with fail
      go_ret2
      exact ⟨rfl, K2.out⟩
    have HV2 : Hid (V = n.it.find? (fun i => decide (fndI s.li x i < 0))) := Lib.hid (by rw [HV.out, if_neg hM4])
    clear HV
    go_wp2_with fail
    go_loopw [30] (fun iv wr => ∃ k : Nat, k ≤ n.it.length ∧ iv = .int .i64 k ∧ (∀ j (hj : j < n.it.length), j < k → ¬ fndI s.li x n.it[j] < 0) ∧ Keeps [] w wr) (fun iv _ => n.it.length - (intOf iv).toNat)
    case atStart => exact ⟨0, by omega, rfl, fun j hj h => absurd h (by omega), K2.out⟩
    case round =>
      obtain ⟨k, hk, rfl, hno, kp⟩ := hrel
      have HNO := Lib.hid hno
      have KP := Lib.hid kp
      have HA := Lib.hid (HZ.out wr kp)
      clear hno kp K2 c3
      by_cases hlt : k < n.it.length
      · obtain ⟨bl, off, hAA, hbl, hc⟩ := HA.out.at_ (by omega)
        subst hAA
        have c0 := hc k hlt
        have i0 : (0 : Int) ≤ (k : Int) := by omega
        have i1 : (k : Int) < (n.it.length : Int) := by omega
        obtain ⟨y, hy⟩ : ∃ y, n.it[k] = y := ⟨_, rfl⟩
        rw [hy] at c0
        have HY := Lib.hid hy
        clear hc hy
        go_wp2_with fail
        refine (find_any _ p A s.li c x y (HF1.out _ KP.out) (HR.out _ KP.out)).mono ?_
        rintro e w2 ⟨rfl, k2⟩
        have K3 := Lib.hid (KP.out.trans k2 (by simp))
        clear k2 c0
        obtain ⟨I, hI⟩ : ∃ I, fndI s.li x y = I := ⟨_, rfl⟩
        rw [hI]
        have HII := Lib.hid hI
        clear hI
        by_cases hneg : I < 0
        · have eV : V = some y := by
            rw [HV2.out]
            rw [List.find?_eq_some_iff_getElem]
            refine ⟨by rw [HII.out]; simpa using hneg, k, hlt, HY.out, fun j hj => ?_⟩
            simpa using HNO.out j (by omega) hj
          have HE := Lib.hid eV
          clear eV
          go_wp2_with fail
          go_ret2
          rw [HE.out]
          exact ⟨rfl, K3.out⟩
        · go_wp2_with fail
          go_roundw
          case rel =>
            refine ⟨k + 1, by omega, by go_num, fun j hj hjk => ?_, K3.out⟩
            by_cases e2 : j = k
            · subst e2; rw [HY.out, HII.out]; omega
            · have := HNO.out j hj (by omega); omega
          case measure => simp [intOf]; omega
      · obtain rfl : k = n.it.length := by omega
        have eV : V = none := by
          rw [HV2.out, List.find?_eq_none]
          intro y hy
          obtain ⟨j, hj, rfl⟩ := List.getElem_of_mem hy
          simpa using HNO.out j hj hj
        have HE := Lib.hid eV
        clear eV
        go_wp2_with fail
        go_ret2
        rw [HE.out]
        exact ⟨rfl, KP.out⟩
end Go.Proofs.YtcopjjokhjealaaGreat
namespace Go.Proofs.YtcopjjokhjealaaGreat
open Go.RowKit

def doneR (L : List Rn) (k : Nat) : List Rn := match L[k]? with
  | some x => L.set k ⟨x.l, x.i, x.t, true⟩
  | none => L
theorem doneR_len (L : List Rn) (k : Nat) : (doneR L k).length = L.length := by unfold doneR; split <;> simp
theorem rw_done {L : List Rn} {k : Nat} (hk : k < L.length) : (rw rcs L).set (k * 4 + 3) (.bool true) = rw rcs (doneR L k) := by
  have h1 : L[k]? = some L[k] := List.getElem?_eq_getElem hk
  unfold doneR
  rw [h1]
  dsimp only
  have er : L.set k ⟨L[k].l, L[k].i, L[k].t, true⟩ = L.take k ++ ⟨L[k].l, L[k].i, L[k].t, true⟩ :: L.drop (k + 1) := by rw [List.set_eq_take_append_cons_drop, if_pos hk]
  rw [er]
  have e : rw rcs L = rw rcs (L.take k) ++ (rcs L[k] ++ rw rcs (L.drop (k + 1))) := by
    rw [← rw_cons, ← rw_append, ← List.drop_eq_getElem_cons hk, List.take_append_drop]
  have hlen : (rw rcs (L.take k)).length = k * 4 := by rw [rw_len rcs_len, List.length_take, Nat.min_eq_left (by omega)]
  rw [e, rw_append, rw_cons, List.set_append_right _ _ (by omega), hlen]
  rw [show k * 4 + 3 - k * 4 = 3 by omega]
  rfl
/-- What Finished does. -/
def finS (s : Pl) (l i : Int) : Pl := if fndI s.li l i < 0 then s else ⟨s.ln, doneR s.li (fndI s.li l i).toNat, s.ct⟩
def finE (s : Pl) (l i : Int) : Int := if fndI s.li l i < 0 then 4 else 0
theorem ixF_lt {p : Rn → Bool} {L : List Rn} (h : ¬ ixF p L < 0) : ∃ k : Nat, k < L.length ∧ ixF p L = k := by
  unfold ixF at h ⊢
  cases hf : L.findIdx? p with
  | none => rw [hf] at h; exact absurd (by decide) h
  | some k =>
    rw [List.findIdx?_eq_some_iff_getElem] at hf
    exact ⟨k, hf.1, rfl⟩
set_option maxRecDepth 100000 in
set_option maxHeartbeats 6400000 in
theorem finished_any (w : World) (F : List Nat) (p : Nat) (s : Pl) (lm cm nl nc : Nat) (A : Option Addr) (c : Nat) (f : Int → Option LnV) (h : PlAt w F p s lm cm nl nc A c f) (hl : s.li.length ≤ 1000) (l i : Int) :
    Calls Tryz.prog 18 #[.pointer (some ⟨p, 0, none⟩), .int .i64 l, .int .i64 i] w fun e w' => e = .returned (.int .i64 (finE s l i)) ∧ PlAt w' F p (finS s l i) lm cm nl nc A c f ∧ Keeps F w w' := by
  have hf1 : w.cell? ⟨p, 1, none⟩ = some (.slice A s.li.length c) := h.b.cell 1
  have HH := Lib.hid h
  have cf := find_any w p A s.li c l i hf1 (AtR.of_own h.o (by omega))
  have HC := Lib.hid cf
  clear cf h
  by_cases hneg : fndI s.li l i < 0
  · have e1 : Hid (finE s l i = 4 ∧ finS s l i = s) := Lib.hid ⟨by unfold finE; rw [if_pos hneg], by unfold finS; rw [if_pos hneg]⟩
    obtain ⟨I, hI⟩ : ∃ I, fndI s.li l i = I := ⟨_, rfl⟩
    rw [hI] at hneg HC
    clear hI
    go_enter Tryz.func18, Tryz.ntmps18
    go_wp2_with fail
    refine HC.out.mono ?_
    rintro e w1 ⟨rfl, k1⟩
    have K1 := Lib.hid k1
    clear k1
    go_wp2_with fail
    go_ret
    rw [e1.out.1, e1.out.2]
    exact ⟨rfl, HH.out.keep0 K1.out, K1.out.mono (by simp)⟩
  · obtain ⟨k, hk, hkI⟩ := ixF_lt hneg
    have hkI : fndI s.li l i = k := hkI
    have e1 : Hid (finE s l i = 0 ∧ finS s l i = ⟨s.ln, doneR s.li k, s.ct⟩) := Lib.hid ⟨by unfold finE; rw [if_neg hneg], by unfold finS; rw [if_neg hneg, hkI]; rfl⟩
    rw [hkI] at HC
    clear hneg hkI
    go_enter Tryz.func18, Tryz.ntmps18
    go_wp2_with fail
    refine HC.out.mono ?_
    rintro e w1 ⟨rfl, k1⟩
    have h1 := HH.out.keep0 k1
    obtain ⟨_, _, hv, -, -, hA⟩ := own_shape h1.o
    obtain ⟨g, hg⟩ := hA (by omega)
    obtain ⟨rfl, -, rfl⟩ : A = _ ∧ s.li.length = _ ∧ c = _ := by injection hv with h1 h2 h3; exact ⟨h1, rfl, h3⟩
    clear hv
    subst hg
    have hfr : w1.frozen? ⟨g, k * 4 + 3, none⟩ = false := own_free h1.o _
    have hc3 : w1.cell? ⟨g, k * 4 + 3, none⟩ = some (.bool s.li[k].d) := own_cell h1.o (by rw [rw_at rcs_len hk (by omega)]; rfl)
    have hp1 : w1.cell? ⟨p, 1, none⟩ = some (.slice (some ⟨g, 0, none⟩) s.li.length c) := h1.b.cell 1
    have o2 := own_set h1.o (k * 4 + 3) (.bool true)
    rw [rw_done hk] at o2
    have hgF : g ∈ F := by rw [h1.fF]; simp
    have kk : Keeps [g] w1 (w1.setCell ⟨g, k * 4 + 3, none⟩ (.bool true)) := (Keeps.refl [g] w1).setCell (.inl (by simp)) _
    have hpg : p ≠ g := fun e => own_blk_off h1.o h1.b (by decide) (by rw [e]; simp)
    have hlg : lm ≠ g := fun e => h1.ml.off h1.o (by rw [e]; simp)
    have hcg : cm ≠ g := fun e => h1.mc.off h1.o (by rw [e]; simp)
    have fin : PlAt (w1.setCell ⟨g, k * 4 + 3, none⟩ (.bool true)) F p ⟨s.ln, doneR s.li k, s.ct⟩ lm cm nl nc (some ⟨g, 0, none⟩) c f := by
      refine ⟨by rw [doneR_len]; exact h1.fF, ?_, h1.ml.keep kk (by simpa using hlg), h1.mc.keep kk (by simpa using hcg), h1.lc, by rw [doneR_len]; exact o2, h1.ls.keep kk (fun y hy => ?_)⟩
      · rw [doneR_len]; exact h1.b.keep kk (by simpa using hpg)
      · have : y = g := by simpa using hy
        rw [this]; exact h1.noInt g hgF
    have FIN := Lib.hid fin
    have KF : Hid (Keeps F w (w1.setCell ⟨g, k * 4 + 3, none⟩ (.bool true))) := Lib.hid ((k1.mono (by simp)).trans kk (fun y hy => .inl ((List.mem_singleton.1 hy).symm ▸ hgF)))
    have i0 : (0 : Int) ≤ (k : Int) := by omega
    have i1 : (k : Int) < (s.li.length : Int) := by omega
    clear h1 k1 o2 kk fin hA HH hf1 hkI hpg hlg hcg
    go_wp2_with fail
    go_ret
    rw [e1.out.1, e1.out.2]
    exact ⟨rfl, FIN.out, KF.out⟩
end Go.Proofs.YtcopjjokhjealaaGreat
namespace Go.Proofs.YtcopjjokhjealaaGreat
open Go.RowKit

set_option maxRecDepth 100000 in
set_option maxHeartbeats 3200000 in
theorem list_any (w : World) (F : List Nat) (p : Nat) (s : Pl) (lm cm nl nc : Nat) (A : Option Addr) (c : Nat) (f : Int → Option LnV) (h : PlAt w F p s lm cm nl nc A c f) (hl : s.li.length ≤ 1000) :
    Calls Tryz.prog 43 #[.pointer (some ⟨p, 0, none⟩)] w fun e w' => ∃ v, e = .returned v ∧ w'.ownsRow 0 69 4 v s.li.length (rw rcs s.li) ∧ Keeps [] w w' ∧ ∀ g ∈ fp v, w.heap.size ≤ g := by
  have f1 : w.cell? ⟨p, 1, none⟩ = some (.slice A s.li.length c) := h.b.cell 1
  have hc := cloneR_any w A s.li.length c _ h.o (rw_one rcs_one _) (by omega)
  have HC := Lib.hid hc
  clear h hc
  go_enter Tryz.func43, Tryz.ntmps43
  go_wp2_with fail
  refine HC.out.mono ?_
  rintro e w1 ⟨v, rfl, ho, hk, hf⟩
  go_wp2_with fail
  go_ret
  exact ⟨v, rfl, ho, hk, hf⟩
end Go.Proofs.YtcopjjokhjealaaGreat
namespace Go.Proofs.YtcopjjokhjealaaGreat
open Go.RowKit

/-- The item that can commit, and its trial. -/
def oldY (s : Pl) (x y : Int) : Option (Int × Int) := if fndI s.li x y < 0 then none else match s.li[(fndI s.li x y).toNat]? with
  | none => none
  | some r => if r.d then some (y, r.t) else none
def oldI (s : Pl) (x : Int) : List Int → Option (Int × Int)
  | [] => none
  | y :: _ => oldY s x y
def oldV (s : Pl) (x : Int) : Option (Int × Int) := match s.ln x with
  | none => none
  | some n => oldI s x n.it
set_option maxRecDepth 100000 in
set_option maxHeartbeats 6400000 in
theorem oldest_any (w : World) (F : List Nat) (p : Nat) (s : Pl) (lm cm nl nc : Nat) (A : Option Addr) (c : Nat) (f : Int → Option LnV) (h : PlAt w F p s lm cm nl nc A c f) (hl : s.li.length ≤ 1000) (hi : ∀ x n, s.ln x = some n → n.it.length ≤ 1000)
    (x : Int) (h1 : -9223372036854775808 ≤ x) (h2 : x ≤ 9223372036854775807) :
    Calls Tryz.prog 11 #[.pointer (some ⟨p, 0, none⟩), .int .i64 x] w fun e w' => e = .returned (.tuple #[.int .i64 ((oldV s x).getD (0, 0)).1, .int .i64 ((oldV s x).getD (0, 0)).2, .bool (oldV s x).isSome]) ∧ Keeps [] w w' := by
  have f0 : w.cell? ⟨p, 0, none⟩ = some (.map (some lm)) := h.b.cell 0
  have HR := Lib.hid (fun W (k : Keeps [] w W) => (AtR.of_own h.o (by omega)).keep k)
  have HF1 : Hid (∀ W, Keeps [] w W → W.cell? ⟨p, 1, none⟩ = some (.slice A s.li.length c)) := Lib.hid (fun W k => (k.cell (p := ⟨p, 1, none⟩) h.b.lt (by simp)).trans (h.b.cell 1))
  have hlk := h.ml.look1 (kI_ok h1 h2) Tryz.underlying57 (zero66 w)
  obtain ⟨V, hV⟩ : ∃ V, oldV s x = V := ⟨_, rfl⟩
  rw [hV]
  rcases h.ls x with ⟨e1, e2⟩ | ⟨v, n, e1, e2, e3, e4, e5, e6, e7⟩
  · rw [e1] at hlk
    have hl' : (Instr.lookup 57 (.map (some lm)) (.int .i64 x) false).run Tryz.prog w = .ok (.agg #[.int .i64 0, .int .i64 0, .int .i64 0, .slice none 0 0]) w := hlk
    have eV : V = none := by rw [← hV]; unfold oldV; rw [e2]
    subst eV
    clear hlk hV h hi
    go_enter Tryz.func11, Tryz.ntmps11
    go_wp2_with fail
    go_ret3
    exact ⟨rfl, (Keeps.refl [] w).alloc _⟩
  · rw [e1] at hlk
    have hnl := hi x n e2
    have hl' : (Instr.lookup 57 (.map (some lm)) (.int .i64 x) false).run Tryz.prog w = .ok (.agg #[.int .i64 v.id, .int .i64 v.par, .int .i64 v.pid, .slice (v.b.map fun g => ⟨g, 0, none⟩) v.n v.c]) w := hlk
    rw [e6] at hl'
    have HZ := Lib.hid (fun W (k : Keeps [] w W) => (AtZ.of_own e7 (by omega)).keep k)
    obtain ⟨Ai, hAi⟩ : ∃ Ai, (v.b.map fun g => (⟨g, 0, none⟩ : Addr)) = Ai := ⟨_, rfl⟩
    rw [hAi] at hl' HZ
    obtain ⟨it, hit⟩ : ∃ it, n.it = it := ⟨_, rfl⟩
    rw [hit] at hl' HZ hnl
    have hV2 : V = oldI s x it := by rw [← hV, ← hit]; unfold oldV; rw [e2]
    have HV := Lib.hid hV2
    clear hlk hV hV2 h hi e1 e2 e3 e4 e5 e6 e7 hAi hit
    cases it with
    | nil =>
      have eV : V = none := HV.out
      subst eV
      clear HV
      go_enter Tryz.func11, Tryz.ntmps11
      go_wp2_with fail
      go_ret3
      exact ⟨rfl, (Keeps.refl [] w).alloc _⟩
    | cons y it =>
      obtain ⟨q, hq⟩ : ∃ q, (y :: it).length = q := ⟨_, rfl⟩
      have hq0 : 0 < q := by rw [← hq]; simp
      have HAZ := HZ.out w (Keeps.refl _ _)
      obtain ⟨bl, off, hAA, hbl, hc⟩ := HAZ.at_ (by simp)
      subst hAA
      have c0 : w.cell? ⟨bl, off, none⟩ = some (.int .i64 y) := by have := hc 0 (by simp); simpa using this
      rw [hq] at hl' hnl
      have HV3 : Hid (V = oldY s x y) := Lib.hid HV.out
      have K1 : Hid (Keeps [] w (w.alloc (.cells #[.int .i64 v.id, .int .i64 v.par, .int .i64 v.pid, .slice (some ⟨bl, off, none⟩) q v.c] 56))) := Lib.hid ((Keeps.refl [] w).alloc _)
      clear hc HAZ HV HZ hq
      go_enter Tryz.func11, Tryz.ntmps11
      go_wp2_with fail
      have BL := Lib.hid (Blk.new w 56 #[.int .i64 v.id, .int .i64 v.par, .int .i64 v.pid, .slice (some ⟨bl, off, none⟩) q v.c])
      refine (find_any _ p A s.li c x y (HF1.out _ K1.out) (HR.out _ K1.out)).mono ?_
      rintro e w1 ⟨rfl, k1⟩
      have K2 : Hid (Keeps [] w w1) := Lib.hid (K1.out.trans k1 (by simp))
      have c3 : w1.cell? ⟨w.heap.size, 3, none⟩ = some (.slice (some ⟨bl, off, none⟩) q v.c) := (BL.out.keep k1 (by simp)).cell 3
      have cy : w1.cell? ⟨bl, off, none⟩ = some (.int .i64 y) := (K2.out.cell (p := ⟨bl, off, none⟩) hbl (by simp)).trans c0
      have cp : w1.cell? ⟨p, 1, none⟩ = some (.slice A s.li.length c) := HF1.out w1 K2.out
      clear k1 K1 BL c0
      by_cases hneg : fndI s.li x y < 0
      · have eV : V = none := by rw [HV3.out]; unfold oldY; rw [if_pos hneg]
        subst eV
        obtain ⟨I, hI⟩ : ∃ I, fndI s.li x y = I := ⟨_, rfl⟩
        rw [hI] at hneg ⊢
        clear HV3 hI
        go_wp2_with fail
        go_ret3
        exact ⟨rfl, K2.out⟩
      · obtain ⟨k, hk, hkI⟩ := ixF_lt hneg
        have hkI : fndI s.li x y = k := hkI
        obtain ⟨b2, o2, hAA, hb2, hc2⟩ := (HR.out w1 K2.out).at_ (by omega)
        subst hAA
        obtain ⟨r0, r1, r2, r3⟩ := hc2 k hk
        have eV : V = if s.li[k].d then some (y, s.li[k].t) else none := by
          rw [HV3.out]
          unfold oldY
          rw [if_neg hneg, hkI, Int.toNat_natCast, List.getElem?_eq_getElem hk]
        generalize s.li[k] = r at r0 r1 r2 r3 eV
        obtain ⟨rl, ri, rt, rd⟩ := r
        dsimp only at r0 r1 r2 r3 eV
        have i0 : (0 : Int) ≤ (k : Int) := by omega
        have i1 : (k : Int) < (s.li.length : Int) := by omega
        rw [hkI]
        clear hneg hkI hc2 HV3 r0 r1
        cases rd with
        | false =>
          have eV : V = none := eV
          subst eV
          go_wp2_with fail
          go_ret3
          exact ⟨rfl, K2.out⟩
        | true =>
          have eV : V = some (y, rt) := eV
          subst eV
          go_wp2_with fail
          go_quiet (fail)
          go_wp2_with fail
          go_ret3
          exact ⟨rfl, K2.out.drewN _⟩
end Go.Proofs.YtcopjjokhjealaaGreat
namespace Go.Proofs.YtcopjjokhjealaaGreat
open Go.RowKit

/-- An operation: its items lie at A. -/
structure Op where
  d : Int
  l : Int
  i : Int
  t : Int
  pd : Int
  A : Option Addr
  it : List Int
  c : Nat
/-- The operations lie at A, in a list of any length. -/
structure AtO (w : World) (A : Option Addr) (L : List Op) : Prop where
  at_ : 0 < L.length → ∃ b off, A = some ⟨b, off, none⟩ ∧ b < w.heap.size ∧ ∀ k (hk : k < L.length),
    w.cell? ⟨b, off + k * 6, none⟩ = some (.int .i64 L[k].d) ∧ w.cell? ⟨b, off + k * 6 + 1, none⟩ = some (.int .i64 L[k].l) ∧ w.cell? ⟨b, off + k * 6 + 2, none⟩ = some (.int .i64 L[k].i) ∧
    w.cell? ⟨b, off + k * 6 + 3, none⟩ = some (.int .i64 L[k].t) ∧ w.cell? ⟨b, off + k * 6 + 4, none⟩ = some (.int .i64 L[k].pd) ∧ w.cell? ⟨b, off + k * 6 + 5, none⟩ = some (.slice L[k].A L[k].it.length L[k].c)
  mx : L.length ≤ 9223372036854775807
  mi : ∀ x ∈ L, x.it.length ≤ 9223372036854775807
theorem AtO.keep {w w' : World} {A : Option Addr} {L : List Op} (h : AtO w A L) (hk : Keeps [] w w') : AtO w' A L := by
  refine ⟨fun h0 => ?_, h.mx, h.mi⟩
  obtain ⟨b, off, h1, h2, h3⟩ := h.at_ h0
  have e : ∀ o, w'.cell? ⟨b, o, none⟩ = w.cell? ⟨b, o, none⟩ := fun o => hk.cell (p := ⟨b, o, none⟩) h2 (by simp)
  exact ⟨b, off, h1, Nat.lt_of_lt_of_le h2 hk.size, fun k hk => by simp only [e]; exact h3 k hk⟩
def fewB (L : List Op) (n : Int) : Bool := L.all (fun x => decide (x.it.length ≤ 20)) && decide ((L.length : Int) ≤ n)
set_option maxRecDepth 100000 in
set_option maxHeartbeats 3200000 in
theorem few_any (w : World) (A : Option Addr) (L : List Op) (c : Nat) (n : Int) (h : AtO w A L) :
    Calls Tryz.prog 5 #[.slice A L.length c, .int .i64 n] w fun e w' => e = .returned (.bool (fewB L n)) ∧ w' = w := by
  have hm := h.mx
  have HH := Lib.hid h
  obtain ⟨V, hV⟩ : ∃ V, fewB L n = V := ⟨_, rfl⟩
  rw [hV]
  have HV := Lib.hid hV
  clear h hV
  go_enter Tryz.func5, Tryz.ntmps5
  go_wp2_with fail
  go_loop [5] (fun iv => ∃ k : Nat, k ≤ L.length ∧ iv = .int .i64 k ∧ L.all (fun x => decide (x.it.length ≤ 20)) = (L.drop k).all (fun x => decide (x.it.length ≤ 20))) (fun iv => L.length - (intOf iv).toNat)
  case atStart => exact ⟨0, by omega, rfl, by rw [List.drop_zero]⟩
  case round =>
    obtain ⟨k, hk, rfl, hch⟩ := hrel
    have HCH := Lib.hid hch
    clear hch
    by_cases hlt : k < L.length
    · obtain ⟨bl, off, hAA, hbl, hc⟩ := HH.out.at_ (by omega)
      subst hAA
      obtain ⟨-, -, -, -, -, c5⟩ := hc k hlt
      have hd := HCH.out
      rw [List.drop_eq_getElem_cons hlt, List.all_cons] at hd
      have hmi := HH.out.mi _ (List.getElem_mem hlt)
      obtain ⟨x, hx⟩ : ∃ x, L[k] = x := ⟨_, rfl⟩
      rw [hx] at c5 hd hmi
      obtain ⟨q, hq⟩ : ∃ q, x.it.length = q := ⟨_, rfl⟩
      rw [hq] at c5 hd hmi
      have HD := Lib.hid hd
      have i0 : (0 : Int) ≤ (k : Int) := by omega
      have i1 : (k : Int) < (L.length : Int) := by omega
      clear hx hc hd hq
      by_cases hs : q ≤ 20
      · have hn : L.all (fun x => decide (x.it.length ≤ 20)) = (L.drop (k + 1)).all (fun x => decide (x.it.length ≤ 20)) := by rw [HD.out, decide_eq_true hs]; rfl
        have HN := Lib.hid hn
        clear hn
        go_wp2_with fail
        go_round
        case rel => exact ⟨k + 1, by omega, by go_num, HN.out⟩
        case measure => simp [intOf]; omega
      · have eV : V = false := by rw [← HV.out]; unfold fewB; rw [HD.out, decide_eq_false hs]; rfl
        have HE := Lib.hid eV
        have hs' : 20 < q := by omega
        clear eV hs
        go_wp2_with fail
        go_ret
        exact ⟨ret_bool HE.out.symm, rfl⟩
    · obtain rfl : k = L.length := by omega
      have hc := HCH.out
      rw [List.drop_length] at hc
      have eV : V = decide ((L.length : Int) ≤ n) := by rw [← HV.out]; unfold fewB; rw [hc]; rfl
      have HE := Lib.hid eV
      clear eV hc
      go_wp2_with fail
      go_ret
      rw [HE.out]
      exact ⟨rfl, rfl⟩
end Go.Proofs.YtcopjjokhjealaaGreat
namespace Go.Proofs.YtcopjjokhjealaaGreat
open Go.RowKit

theorem AtZ.reads {w : World} {A : Option Addr} {L : List Int} (h : AtZ w A L) : Reads w w.heap.size 1 A L.length (zs L) := by
  refine ⟨by simp [zs], fun h0 => ?_⟩
  obtain ⟨b, off, rfl, hb, hc⟩ := h.at_ h0
  refine ⟨_, rfl, hb, fun j u hu => ?_⟩
  have hj : j < L.length := by
    have := (List.getElem?_eq_some_iff.1 hu).1
    simpa [zs] using this
  have h1 : (zs L)[j]? = some (.int .i64 L[j]) := by unfold zs; simp [hj]
  rw [h1] at hu
  injection hu with hu
  rw [add_of_plain, ← hu]
  exact hc j hj
theorem zs_one (L : List Int) : ∀ u ∈ zs L, u.oneCell' = true := by
  intro u hu
  unfold zs at hu
  simp at hu
  obtain ⟨x, _, rfl⟩ := hu
  rfl
theorem cloneI_any (w : World) (A : Option Addr) (L : List Int) (c : Nat) (h : AtZ w A L) :
    Calls Tryz.prog 24 #[.slice A L.length c] w fun e w' => ∃ v, e = .returned v ∧ w'.ownsRow 0 3 1 v L.length (zs L) ∧ Keeps [] w w' ∧ ∀ g ∈ fp v, w.heap.size ≤ g := by
  have hm := h.mx
  rcases A with _ | a
  · have hL : L = [] := by
      cases L with
      | nil => rfl
      | cons x r => obtain ⟨b, off, e, _⟩ := h.at_ (by simp); cases e
    subst hL
    have he := fun W => Lib.run_eql_slice_nil (P := Tryz.prog) W 22 3 none 0 c 0 0 Tryz.underlying22
    go_enter Tryz.func24, Tryz.ntmps24
    go_wp2
    go_ret
    exact ⟨_, rfl, World.ownsRow_nil _ _ _ _, Keeps.refl _ _, by simp [fp, Value.ownBlock]⟩
  · have he := fun W => Lib.run_eql_slice_nil (P := Tryz.prog) W 22 3 (some a) L.length c 0 0 Tryz.underlying22
    have HI := Lib.hid info3
    have HR := Lib.hid (h.keep ((Keeps.refl [] w).alloc (.cells #[] 3))).reads
    clear h
    go_enter Tryz.func24, Tryz.ntmps24
    go_wp2_with (at_builtin; refine wpList_app _ rfl (.tmp 5) (.tmp 6) _ rfl 3 (.int .i64 0) 1 8 Tryz.underlying22 HI.out rfl (by omega) (.slice (some ⟨w.heap.size, 0, none⟩) 0 0) 0 [] rfl (own_of_blk (Blk.new w 3 #[]) (by omega) (by omega) rfl rfl) _ _ _ _ (zs L) rfl HR.out (zs_one L) (by unfold maxLen; omega) (by omega) ?_)
    intro v' w' ho' hk' hf'
    go_wp2
    go_ret
    have hk1 : Keeps [] w (w.alloc (.cells #[] 3)) := (Keeps.refl _ _).alloc _
    refine ⟨v', rfl, by simpa using ho', hk1.trans hk' (by simp), fun g hg => ?_⟩
    rcases hf' g hg with h2 | h2
    · have : g = w.heap.size := by simpa using h2
      omega
    · omega
end Go.Proofs.YtcopjjokhjealaaGreat
