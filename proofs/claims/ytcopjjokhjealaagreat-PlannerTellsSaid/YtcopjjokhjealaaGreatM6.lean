/- Texts of the elder seat, turned to this one: W26 W27. -/
import Derived.Test.YtcopjjokhjealaaGreatM5
namespace Go.Proofs.YtcopjjokhjealaaGreat
open Go.RowKit

def lenV : Value → Nat
  | .slice _ n _ => n
  | _ => 0
/-- The line gone from memory. -/
theorem drop_rep {w w1 w2 : World} {F : List Nat} {p : Nat} {s : Pl} {lm cm nl nc c B : Nat} {A : Option Addr} {f : Int → Option LnV} {id : Int} (h : PlAt w F p s lm cm nl nc A c f) (hB : ItB B f)
    (h1 : GMap kI eL w1 lm nl (updG f id none)) (k1 : Keeps [lm] w w1) (h2 : GMap kP eC w2 cm nc (fun k => if k.1 = id then none else s.ct k)) (k2 : Keeps [cm] w1 w2) :
    PlAt w2 F p (dropL s id) lm cm nl nc A c (updG f id none) ∧ ItB B (updG f id none) ∧ Keeps F w w2 := by
  have hF := h.fF
  have hlp : lm ≠ p := fun e => h.ml.ne_blk h.b e
  have hcp : cm ≠ p := fun e => h.mc.ne_blk h.b e
  have hlA : lm ∉ fp (.slice A s.li.length c) := h.ml.off h.o
  have hcA : cm ∉ fp (.slice A s.li.length c) := h.mc.off h.o
  have kk : Keeps [lm, cm] w w2 := (k1.mono (by simp)).trans k2 (by simp)
  have hint : ∀ y ∈ [lm, cm], ¬ IntRow w y := fun y hy => h.noInt y (by
    rw [hF]; rcases List.mem_cons.1 hy with rfl | hy; simp; have := List.mem_singleton.1 hy; simp [this])
  have hls := h.ls.keep kk hint
  refine ⟨⟨hF, h.b.keep kk (by simp [hlp.symm, hcp.symm]), h1.keep k2 (by simpa using h.lc), h2, h.lc, own_keep h.o kk (fun g hg => ?_), fun x => ?_⟩, ?_, kk.mono (fun y hy => by
    rw [hF]; rcases List.mem_cons.1 hy with rfl | hy; simp; have := List.mem_singleton.1 hy; simp [this])⟩
  · intro hm
    rcases List.mem_cons.1 hm with rfl | hm
    · exact hlA hg
    · rw [List.mem_singleton.1 hm] at hg; exact hcA hg
  · show (updG f id none x = none ∧ updG s.ln id none x = none) ∨ _
    by_cases e : x = id
    · subst e; rw [updG_same, updG_same]; exact .inl ⟨rfl, rfl⟩
    · have hx := hls x
      rcases hx with ⟨a, b⟩ | ⟨v, n, a, b, r⟩
      · rw [updG_ne _ _ e, updG_ne _ _ e]; exact .inl ⟨a, b⟩
      · exact .inr ⟨v, n, by rw [updG_ne _ _ e]; exact a, (updG_ne s.ln none e).trans b, r⟩
  · intro x v g hx hv
    by_cases e : x = id
    · subst e; rw [updG_same] at hx; cases hx
    · rw [updG_ne _ _ e] at hx; exact hB x v g hx hv
theorem own_fp_pos {w : World} {e size n : Nat} {v : Value} {xs : List Value} (h : w.ownsRow 0 e size v n xs) : lenV v = n := by
  obtain ⟨A, c, rfl, -⟩ := own_shape h
  rfl
set_option maxRecDepth 100000 in
set_option maxHeartbeats 6400000 in
theorem cut_of (m : Nat) (hm : m ≤ 1000) (hR : RemC m) : CutC m := by
  intro w F p s lm cm nl nc A c f B id h hB hBw hnl hl hs hid
  have HH := Lib.hid h
  have HBB := Lib.hid hB
  have HS := Lib.hid hs
  have HFL := Lib.hid h.lt
  have HR := Lib.hid hR
  have HID := Lib.hid hid
  have HI := Lib.hid info3
  have f1 : w.cell? ⟨p, 1, none⟩ = some (.slice A s.li.length c) := h.b.cell 1
  have hpl := h.b.lt
  have ka : Keeps [] w (w.alloc (.cells #[.int .i64 id] 3)) := (Keeps.refl _ _).alloc _
  have BB : Hid (Blk (w.alloc (.cells #[.int .i64 id] 3)) w.heap.size 3 #[.int .i64 id]) := Lib.hid (Blk.new _ _ _)
  have HP0 := Lib.hid (h.keep0 ka)
  have KA := Lib.hid ka
  have IX := Lib.hid (ix_cut _ A s.li c w.heap.size id (AtR.of_own HP0.out.o (by omega)) (BB.out.cell 0))
  clear h hB hs hR hid ka
  go_enter Tryz.func56, Tryz.ntmps56
  go_wp2_with fail
  refine IX.out.mono ?_
  rintro e w1 ⟨rfl, k1⟩
  have HP1 := Lib.hid (HP0.out.keep0 k1)
  have K1 : Hid (Keeps F w w1) := Lib.hid ((KA.out.trans k1 (by simp)).mono (by simp))
  have BB1 := Lib.hid (BB.out.keep k1 (by simp))
  have hz1 : w.heap.size + 1 ≤ w1.heap.size := by have := k1.size; simp at this; exact this
  clear k1 HP0 KA BB IX
  go_wp2_with fail
  go_loopw [5, 7] (fun v iv wr => ∃ (s1 : Pl) (o1 : List Int) (f1 : Int → Option LnV), iv = .int .i64 (ixF (fun x => decide (x.l = id)) s1.li) ∧ wr.ownsRow 0 3 1 v o1.length (zs o1) ∧ PlAt wr F p s1 lm cm nl nc A c f1 ∧ ItB B f1 ∧
    (∀ s2 o2, Rm (.cut id) s1 s2 o2 → Rm (.cut id) s s2 (o1 ++ o2)) ∧ o1.length + s1.li.length ≤ m ∧ (∀ x n, s1.ln x = some n → kI.ok x) ∧ Keeps F w wr ∧ Blk wr w.heap.size 3 #[.int .i64 id] ∧ (∀ g ∈ fp v, w.heap.size < g)) (fun v _ _ => m - lenV v)
  case atStart => exact ⟨s, [], f, rfl, World.ownsRow_nil _ _ _ _, HP1.out, HBB.out, fun s2 o2 h => h, by simpa using hl, HS.out, K1.out, BB1.out, by simp⟩
  case round =>
    obtain ⟨s1, o1, f1', rfl, ho, hp, hfb, hcu, hln, hs1, kw, hb, hfv⟩ := hrel
    have HCU := Lib.hid hcu
    have HS1 := Lib.hid hs1
    have HO := Lib.hid ho
    have HP := Lib.hid hp
    have HFB := Lib.hid hfb
    have KW := Lib.hid kw
    have HB := Lib.hid hb
    have HFV := Lib.hid hfv
    have hlv := own_fp_pos ho
    have hwz := kw.size
    obtain ⟨A1, c1, rfl, -, -, -⟩ := own_shape ho
    clear hcu hs1 ho hp hfb kw hb hfv HP1 K1 BB1
    rcases ixF_cases (fun x => decide (x.l = id)) s1.li with hneg | ⟨k, hk⟩
    · obtain ⟨I, hI⟩ : ∃ I, ixF (fun x => decide (x.l = id)) s1.li = I := ⟨_, rfl⟩
      rw [hI]
      have hneg' : I < 0 := by rw [← hI]; exact hneg
      have HD := Lib.hid (HCU.out _ [] (Rm.done hneg))
      clear hneg hI HCU
      go_upto_region 7 with fail
      refine cut7_any wr p w.heap.size lm nl id f1' _ (fun W k => ⟨(HP.out.keep0 k).b.cell 0, (HB.out.keep k (by simp)).cell 0, (HP.out.keep0 k).ml⟩) HID.out _ _ _ _ _ _ _ _ _ _ _ _ _ _ _ _ _ _ _ _ _ _ _ _ _ _ _ _ _ _ _ _ _ _ _ _ _ _ ?_
      intro v28 v29 v30 v31 v32 w3 hm3 k3
      have hlc := HP.out.lc
      have hlF : lm ∈ F := by rw [HP.out.fF]; simp
      have hcF : cm ∈ F := by rw [HP.out.fF]; simp
      have hcl := HFL.out cm hcF
      have hll := HFL.out lm hlF
      have b3 : Blk w3 w.heap.size 3 #[.int .i64 id] := HB.out.keep k3 (by simp; omega)
      have hp2 : w3.cell? ⟨p, 2, none⟩ = some (.map (some cm)) := ((HP.out.b.keep k3 (by simpa using (fun e : p = lm => HP.out.ml.ne_blk HP.out.b e.symm)))).cell 2
      have hdf := delF_any w3 cm nc s1.ct w.heap.size id (HP.out.mc.keep k3 (by simpa using hlc.symm)) (b3.cell 0) (by omega)
      have HDF := Lib.hid hdf
      have HM3 := Lib.hid hm3
      have K3 := Lib.hid k3
      clear hdf hm3 k3 b3
      go_wp2_with fail
      refine HDF.out.mono ?_
      rintro e w4 ⟨rfl, hm4, k4⟩
      have HR4 := Lib.hid (drop_rep HP.out HFB.out HM3.out K3.out hm4 k4)
      have HO4 := Lib.hid (own_keep (own_keep HO.out K3.out (fun y hy hyl => by have := HFV.out y hy; have := List.mem_singleton.1 hyl; omega)) k4 (fun y hy hyl => by have := HFV.out y hy; have := List.mem_singleton.1 hyl; omega))
      have K4 : Hid (Keeps F w w4) := Lib.hid (KW.out.trans HR4.out.2.2 (fun y hy => .inl hy))
      clear hm4 k4 HDF HM3 K3 HP HB
      go_wp2_with fail
      go_ret
      have hdd := HD.out
      rw [List.append_nil] at hdd
      exact ⟨_, o1, _, _, rfl, hdd, HO4.out, HR4.out.1, HR4.out.2.1, K4.out, fun y hy => Nat.le_of_lt (HFV.out y hy)⟩
    · obtain ⟨hkl, -, -⟩ := ixF_spec hk
      have HKI := Lib.hid hk
      have hkm : k < m := by omega
      rw [hk]
      clear hk
      go_wp2_with fail
      refine (HR.out wr F p s1 lm cm nl nc A c f1' B k HP.out HFB.out (Nat.le_trans hBw hwz) hnl (by omega) HS1.out hkl).mono ?_
      rintro e w5 ⟨v5, o5, s5, f5, rfl, hrm, oo5, hp5, hb5, k5, ff5⟩
      obtain ⟨A5, c5, rfl, -, -, -⟩ := own_shape oo5
      have hlen5 := hrm.len
      have hlt5 := hrm.lt
      have hFw := HFL.out
      have hz5 := k5.size
      have HO5 := Lib.hid (own_keep HO.out k5 (fun y hy hyF => by have := HFV.out y hy; have := hFw y hyF; omega))
      have BB5 := Lib.hid (HB.out.keep k5 (fun hyF => by have := hFw _ hyF; omega))
      have OO5 := Lib.hid (reads_own oo5)
      have HP5 := Lib.hid hp5
      have HB5 := Lib.hid hb5
      have HCU5 : Hid (∀ s2 o2, Rm (.cut id) s5 s2 o2 → Rm (.cut id) s s2 ((o1 ++ o5) ++ o2)) := Lib.hid (fun s2 o2 h => by
        rw [List.append_assoc]
        exact HCU.out s2 (o5 ++ o2) (Rm.step HKI.out hrm h))
      have HS5 : Hid (∀ x n, s5.ln x = some n → kI.ok x) := Lib.hid (fun x n hx => HS1.out x n (hrm.ln x n hx))
      have KW5 : Hid (Keeps F w w5) := Lib.hid (KW.out.trans k5 (fun y hy => .inl hy))
      have hlo : o1.length + o5.length ≤ 2000 := by omega
      have hl2 : (o1 ++ o5).length + s5.li.length ≤ m := by rw [List.length_append]; omega
      have ho5 : 0 < o5.length := by omega
      have hwz5 := KW5.out.size
      clear hrm oo5 hp5 hb5 k5 ff5 HCU HS1 HP HFB KW HB HO hlen5 hz5 hFw hlt5 hln hkl HKI
      go_wp2_with (at_builtin; refine wpList_app _ rfl (.tmp 23) (.tmp 26) _ rfl 3 (.int .i64 0) 1 8 Tryz.underlying22 HI.out rfl (by omega) (.slice A1 o1.length c1) _ _ rfl HO5.out _ _ _ _ (zs o5) rfl OO5.out (zs_one _) (by unfold maxLen; omega) (by omega) ?_)
      intro v6 w6 o6 k6 f6
      have hFw := HFL.out
      have O6 : Hid (w6.ownsRow 0 3 1 v6 (o1 ++ o5).length (zs (o1 ++ o5))) := Lib.hid (by
        rw [List.length_append, show zs (o1 ++ o5) = zs o1 ++ zs o5 by simp [zs]]
        exact o6)
      have HP6 := Lib.hid (HP5.out.keepB HB5.out k6 (fun y hy hyA => by have := HFV.out y hyA; have := hFw y hy; omega) (fun y hy => .inl (by have := HFV.out y hy; omega)))
      have K6 : Hid (Keeps F w w6) := Lib.hid (KW5.out.trans k6 (fun y hy => .inr (by have := HFV.out y hy; omega)))
      have BB6 := Lib.hid (BB5.out.keep k6 (fun hy => by have := HFV.out _ hy; omega))
      have F6 : Hid (∀ y ∈ fp v6, w.heap.size < y) := Lib.hid (fun y hy => (f6 y hy).elim (HFV.out y) (fun h => by have := BB5.out.lt; omega))
      have hlv6 := own_fp_pos O6.out
      have f16 : w6.cell? ⟨p, 1, none⟩ = some (.slice A s5.li.length c) := HP6.out.b.cell 1
      have IX6 := Lib.hid (ix_cut w6 A s5.li c w.heap.size id (AtR.of_own HP6.out.o (by rw [List.length_append] at hl2; omega)) (BB6.out.cell 0))
      clear o6 k6 f6 hFw HP5 KW5 HO5 OO5 HFV BB5
      go_wp2_with fail
      refine IX6.out.mono ?_
      rintro e w7 ⟨rfl, k7⟩
      have O7 := Lib.hid (own_keep O6.out k7 (by simp))
      have HP7 := Lib.hid (HP6.out.keep0 k7)
      have K7 := Lib.hid (K6.out.trans k7 (by simp))
      have BB7 := Lib.hid (BB6.out.keep k7 (by simp))
      clear k7 O6 HP6 K6 BB6 IX6 f16
      go_wp2_with fail
      go_roundw
      case rel => exact ⟨s5, o1 ++ o5, f5, rfl, O7.out, HP7.out, HB5.out, HCU5.out, hl2, HS5.out, K7.out, BB7.out, F6.out⟩
      case measure => rw [hlv6, hlv, List.length_append]; rw [List.length_append] at hl2; omega
theorem rem_cut : ∀ n, n ≤ 1000 → RemC n ∧ CutC n
  | 0, h => by
    have h0 : RemC 0 := fun w F p s lm cm nl nc A c f B k _ _ _ _ hl _ hk => by omega
    exact ⟨h0, cut_of 0 h h0⟩
  | n + 1, h => by
    have h1 := rem_of n (by omega) (rem_cut n (by omega)).2
    exact ⟨h1, cut_of (n + 1) h h1⟩
end Go.Proofs.YtcopjjokhjealaaGreat
namespace Go.Proofs.YtcopjjokhjealaaGreat
open Go.RowKit

/-- A count's numbers are at most M. -/
structure OkM (M : Nat) (c : Ct) : Prop where
  b0 : 0 ≤ c.runs ∧ c.runs ≤ M
  b1 : 0 ≤ c.com ∧ c.com ≤ M
  b2 : 0 ≤ c.con ∧ c.con ≤ M
  b3 : 0 ≤ c.drp ∧ c.drp ≤ M
  b4 : 0 ≤ c.str ∧ c.str ≤ M
def CapM (M : Nat) (g : Int × Int → Option Ct) : Prop := ∀ k c, g k = some c → OkM M c
theorem OkM.okC {M : Nat} {c : Ct} (h : OkM M c) (hM : M ≤ 1000000) : OkC c := by
  obtain ⟨h0, h1, h2, h3, h4⟩ := h
  exact ⟨by omega, by omega, by omega, by omega, by omega⟩
theorem OkM.mono {M M' : Nat} {c : Ct} (h : OkM M c) (hM : M ≤ M') : OkM M' c := by
  obtain ⟨h0, h1, h2, h3, h4⟩ := h
  exact ⟨by omega, by omega, by omega, by omega, by omega⟩
theorem CapM.cnt {M : Nat} {g : Int × Int → Option Ct} (h : CapM M g) (l i : Int) : OkM M (cntOf g l i) := by
  unfold cntOf
  cases hg : g (l, i) with
  | none => exact ⟨by simp [zC], by simp [zC], by simp [zC], by simp [zC], by simp [zC]⟩
  | some c => exact h _ _ hg
theorem CapM.add {M : Nat} {g : Int × Int → Option Ct} (h : CapM M g) (l i : Int) {ad : Ct} (ha : OkM 1 ad) : CapM (M + 1) (updG g (l, i) (some (addC l i (cntOf g l i) ad))) := by
  intro k c hk
  by_cases e : k = (l, i)
  · subst e
    rw [updG_same] at hk
    injection hk with hk
    subst hk
    obtain ⟨h0, h1, h2, h3, h4⟩ := h.cnt l i
    obtain ⟨a0, a1, a2, a3, a4⟩ := ha
    exact ⟨by simp only [addC]; omega, by simp only [addC]; omega, by simp only [addC]; omega, by simp only [addC]; omega, by simp only [addC]; omega⟩
  · rw [updG_ne _ _ e] at hk
    exact (h k c hk).mono (by omega)
noncomputable def cntS (s : Pl) (l i : Int) (ad : Ct) : Pl := ⟨s.ln, s.li, updG s.ct (l, i) (some (addC l i (cntOf s.ct l i) ad))⟩
theorem count_pl (w : World) (F : List Nat) (p : Nat) (s : Pl) (lm cm nl nc : Nat) (A : Option Addr) (c : Nat) (f : Int → Option LnV) (h : PlAt w F p s lm cm nl nc A c f) (l i : Int) (ad : Ct) (M : Nat) (hM : M ≤ 1000000) (hc : CapM M s.ct) (ha : OkM 1 ad) (hok : kP.ok (l, i)) (hn : nc ≤ 1000000) :
    Calls Tryz.prog 49 #[.pointer (some ⟨p, 0, none⟩), .int .i64 l, .int .i64 i, .agg #[.int .i64 ad.l, .int .i64 ad.i, .int .i64 ad.runs, .int .i64 ad.com, .int .i64 ad.con, .int .i64 ad.drp, .int .i64 ad.str]] w fun e w' =>
      e = .returned (.tuple #[]) ∧ PlAt w' F p (cntS s l i ad) lm cm nl (nc + 1) A c f ∧ Keeps F w w' := by
  refine (count_any w p cm nc s.ct l i ad (h.b.cell 2) h.mc (by unfold maxLen; omega) hok ((hc.cnt l i).okC hM) (ha.okC (by omega))).mono ?_
  rintro e w' ⟨rfl, h1, h2⟩
  have hF := h.fF
  have hcp : cm ≠ p := fun e => h.mc.ne_blk h.b e
  have hcA : cm ∉ fp (.slice A s.li.length c) := h.mc.off h.o
  refine ⟨rfl, ⟨hF, h.b.keep h2 (by simpa using hcp.symm), h.ml.keep h2 (by simpa using h.lc), h1, h.lc, own_keep h.o h2 (fun g hg hm => by rw [List.mem_singleton.1 hm] at hg; exact hcA hg), h.ls.keep h2 (fun y hy => h.noInt y (by rw [hF, List.mem_singleton.1 hy]; simp))⟩, h2.mono (fun y hy => by rw [hF, List.mem_singleton.1 hy]; simp)⟩
/-- What again does. -/
def AgR (l i : Int) (ad : Ct) (s s' : Pl) (o : List Int) (e : Int) : Prop := (fndI s.li l i < 0 ∧ s' = s ∧ o = [] ∧ e = 4) ∨ (∃ k : Nat, fndI s.li l i = k ∧ Rm (.rem k) (cntS s l i ad) s' o ∧ e = 0)
/-- What Gone does. -/
def GoR (l : Int) (s s' : Pl) (o : List Int) : Prop := ((l = 0 ∨ s.ln l = none) ∧ s' = s ∧ o = []) ∨ (l ≠ 0 ∧ (s.ln l).isSome = true ∧ Rm (.cut l) s s' o)
set_option maxRecDepth 100000 in
set_option maxHeartbeats 6400000 in
theorem again_any (w : World) (F : List Nat) (p : Nat) (s : Pl) (Φ : Nat) (h : PR w F p s Φ) (hΦ : Φ ≤ 1000) (hs : ∀ x n, s.ln x = some n → kI.ok x) (M : Nat) (hM : M ≤ 1000000) (hc : CapM M s.ct) (l i : Int) (hok : kP.ok (l, i)) (ad : Ct) (ha : OkM 1 ad) :
    Calls Tryz.prog 54 #[.pointer (some ⟨p, 0, none⟩), .int .i64 l, .int .i64 i, .agg #[.int .i64 ad.l, .int .i64 ad.i, .int .i64 ad.runs, .int .i64 ad.com, .int .i64 ad.con, .int .i64 ad.drp, .int .i64 ad.str]] w fun e w' =>
      ∃ v s' o en, e = .returned (.tuple #[v, .int .i64 en]) ∧ AgR l i ad s s' o en ∧ w'.ownsRow 0 3 1 v o.length (zs o) ∧ PR w' F p s' Φ ∧ Keeps F w w' ∧ ∀ g ∈ fp v, w.heap.size ≤ g := by
  obtain ⟨lm, cm, nl, nc, A, c, f, h, hnl, hnc⟩ := h
  have hf1 : w.cell? ⟨p, 1, none⟩ = some (.slice A s.li.length c) := h.b.cell 1
  have hpl := h.b.lt
  have ka : Keeps [] w (w.alloc (.cells #[.int .i64 ad.l, .int .i64 ad.i, .int .i64 ad.runs, .int .i64 ad.com, .int .i64 ad.con, .int .i64 ad.drp, .int .i64 ad.str] 84)) := (Keeps.refl _ _).alloc _
  have BB : Hid (Blk (w.alloc (.cells #[.int .i64 ad.l, .int .i64 ad.i, .int .i64 ad.runs, .int .i64 ad.com, .int .i64 ad.con, .int .i64 ad.drp, .int .i64 ad.str] 84)) w.heap.size 84 #[.int .i64 ad.l, .int .i64 ad.i, .int .i64 ad.runs, .int .i64 ad.com, .int .i64 ad.con, .int .i64 ad.drp, .int .i64 ad.str]) := Lib.hid (Blk.new _ _ _)
  have HP0 := Lib.hid (h.keep0 ka)
  have KA := Lib.hid ka
  have HC := Lib.hid (find_any _ p A s.li c l i (HP0.out.b.cell 1) (AtR.of_own HP0.out.o (by omega)))
  have HS := Lib.hid hs
  have HCM := Lib.hid hc
  have HA := Lib.hid ha
  have HOK := Lib.hid hok
  clear h ka hs hc ha hok
  by_cases hneg : fndI s.li l i < 0
  · have HR : Hid (AgR l i ad s s [] 4) := Lib.hid (.inl ⟨hneg, rfl, rfl, rfl⟩)
    obtain ⟨I, hI⟩ : ∃ I, fndI s.li l i = I := ⟨_, rfl⟩
    rw [hI] at hneg HC
    clear hI
    go_enter Tryz.func54, Tryz.ntmps54
    go_wp2_with fail
    refine HC.out.mono ?_
    rintro e w1 ⟨rfl, k1⟩
    have HP1 := Lib.hid (HP0.out.keep0 k1)
    have K1 := Lib.hid (KA.out.trans k1 (by simp))
    clear k1 HP0
    go_wp2_with fail
    go_ret2
    exact ⟨_, s, [], 4, rfl, HR.out, World.ownsRow_nil _ _ _ _, ⟨lm, cm, nl, nc, A, c, f, HP1.out, hnl, hnc⟩, K1.out.mono (by simp), by simp⟩
  · obtain ⟨k, hk, hkI⟩ := ixF_lt hneg
    have hkI : fndI s.li l i = k := hkI
    have HKI := Lib.hid hkI
    rw [hkI] at HC
    clear hneg hkI
    go_enter Tryz.func54, Tryz.ntmps54
    go_wp2_with fail
    refine HC.out.mono ?_
    rintro e w1 ⟨rfl, k1⟩
    have HP1 := Lib.hid (HP0.out.keep0 k1)
    have K1 := Lib.hid (KA.out.trans k1 (by simp))
    have B1 := BB.out.keep k1 (by simp)
    have b0 : w1.cell? ⟨w.heap.size, 0, none⟩ = some (.int .i64 ad.l) := B1.cell 0
    have b1 : w1.cell? ⟨w.heap.size, 1, none⟩ = some (.int .i64 ad.i) := B1.cell 1
    have b2 : w1.cell? ⟨w.heap.size, 2, none⟩ = some (.int .i64 ad.runs) := B1.cell 2
    have b3 : w1.cell? ⟨w.heap.size, 3, none⟩ = some (.int .i64 ad.com) := B1.cell 3
    have b4 : w1.cell? ⟨w.heap.size, 4, none⟩ = some (.int .i64 ad.con) := B1.cell 4
    have b5 : w1.cell? ⟨w.heap.size, 5, none⟩ = some (.int .i64 ad.drp) := B1.cell 5
    have b6 : w1.cell? ⟨w.heap.size, 6, none⟩ = some (.int .i64 ad.str) := B1.cell 6
    clear k1 HP0 B1 BB
    go_wp2_with fail
    refine (count_pl w1 F p s lm cm nl nc A c f HP1.out l i ad M hM HCM.out HA.out HOK.out (by omega)).mono ?_
    rintro e w2 ⟨rfl, hp2, k2⟩
    have HP2 := Lib.hid hp2
    have K2 : Hid (Keeps F w w2) := Lib.hid ((K1.out.mono (by simp)).trans k2 (fun y hy => .inl hy))
    clear hp2 k2 HP1 K1 b0 b1 b2 b3 b4 b5 b6
    go_wp2_with fail
    refine ((rem_cut 1000 (by omega)).1 w2 F p (cntS s l i ad) lm cm nl (nc + 1) A c f w2.heap.size k HP2.out HP2.out.itB (Nat.le_refl _) (by omega) (show s.li.length ≤ 1000 by omega) HS.out hk).mono ?_
    rintro e w3 ⟨v, o, s', f', rfl, hrm, ho, hp3, hb3, k3, hf3⟩
    have hlt := hrm.lt
    have hz := K2.out.size
    have HR : Hid (AgR l i ad s s' o 0) := Lib.hid (.inr ⟨k, HKI.out, hrm, rfl⟩)
    have HO := Lib.hid ho
    have HP3 := Lib.hid hp3
    have K3 : Hid (Keeps F w w3) := Lib.hid (K2.out.trans k3 (fun y hy => .inl hy))
    have hlt' : s'.li.length < s.li.length := hlt
    obtain ⟨A5, c5, rfl, -, -, -⟩ := own_shape ho
    clear hrm ho hp3 k3 hb3 HP2 K2 hlt
    go_wp2_with fail
    go_ret2
    exact ⟨_, s', o, 0, rfl, HR.out, HO.out, ⟨lm, cm, nl, nc + 1, A, c, f', HP3.out, hnl, by omega⟩, K3.out, fun g hg => Nat.le_trans hz (hf3 g hg)⟩
def conC : Ct := ⟨0, 0, 0, 0, 1, 0, 0⟩
def drpC : Ct := ⟨0, 0, 0, 0, 0, 1, 0⟩
theorem conC_ok : OkM 1 conC := ⟨by simp [conC], by simp [conC], by simp [conC], by simp [conC], by simp [conC]⟩
theorem drpC_ok : OkM 1 drpC := ⟨by simp [drpC], by simp [drpC], by simp [drpC], by simp [drpC], by simp [drpC]⟩
set_option maxRecDepth 100000 in
set_option maxHeartbeats 3200000 in
theorem failed_any (w : World) (F : List Nat) (p : Nat) (s : Pl) (Φ : Nat) (h : PR w F p s Φ) (hΦ : Φ ≤ 1000) (hs : ∀ x n, s.ln x = some n → kI.ok x) (M : Nat) (hM : M ≤ 1000000) (hc : CapM M s.ct) (l i : Int) (hok : kP.ok (l, i)) :
    Calls Tryz.prog 21 #[.pointer (some ⟨p, 0, none⟩), .int .i64 l, .int .i64 i] w fun e w' =>
      ∃ v s' o en, e = .returned (.tuple #[v, .int .i64 en]) ∧ AgR l i conC s s' o en ∧ w'.ownsRow 0 3 1 v o.length (zs o) ∧ PR w' F p s' Φ ∧ Keeps F w w' ∧ ∀ g ∈ fp v, w.heap.size ≤ g := by
  have HC := Lib.hid (again_any w F p s Φ h hΦ hs M hM hc l i hok conC conC_ok)
  clear h hs hc hok
  go_enter Tryz.func21, Tryz.ntmps21
  go_wp2_with fail
  refine HC.out.mono ?_
  rintro e w1 ⟨v, s', o, en, rfl, hr, ho, hp, hk, hf⟩
  have HX := Lib.hid (And.intro hr (And.intro ho (And.intro hp (And.intro hk hf))))
  clear hr ho hp hk hf HC
  go_wp2_with fail
  go_ret2
  exact ⟨v, s', o, en, rfl, HX.out⟩
set_option maxRecDepth 100000 in
set_option maxHeartbeats 3200000 in
theorem dropped_any (w : World) (F : List Nat) (p : Nat) (s : Pl) (Φ : Nat) (h : PR w F p s Φ) (hΦ : Φ ≤ 1000) (hs : ∀ x n, s.ln x = some n → kI.ok x) (M : Nat) (hM : M ≤ 1000000) (hc : CapM M s.ct) (l i : Int) (hok : kP.ok (l, i)) :
    Calls Tryz.prog 26 #[.pointer (some ⟨p, 0, none⟩), .int .i64 l, .int .i64 i] w fun e w' =>
      ∃ v s' o en, e = .returned (.tuple #[v, .int .i64 en]) ∧ AgR l i drpC s s' o en ∧ w'.ownsRow 0 3 1 v o.length (zs o) ∧ PR w' F p s' Φ ∧ Keeps F w w' ∧ ∀ g ∈ fp v, w.heap.size ≤ g := by
  have HC := Lib.hid (again_any w F p s Φ h hΦ hs M hM hc l i hok drpC drpC_ok)
  clear h hs hc hok
  go_enter Tryz.func26, Tryz.ntmps26
  go_wp2_with fail
  refine HC.out.mono ?_
  rintro e w1 ⟨v, s', o, en, rfl, hr, ho, hp, hk, hf⟩
  have HX := Lib.hid (And.intro hr (And.intro ho (And.intro hp (And.intro hk hf))))
  clear hr ho hp hk hf HC
  go_wp2_with fail
  go_ret2
  exact ⟨v, s', o, en, rfl, HX.out⟩
set_option maxRecDepth 100000 in
set_option maxHeartbeats 3200000 in
theorem gone_any (w : World) (F : List Nat) (p : Nat) (s : Pl) (Φ : Nat) (h : PR w F p s Φ) (hΦ : Φ ≤ 1000) (hs : ∀ x n, s.ln x = some n → kI.ok x) (l : Int) (h1 : -9223372036854775808 ≤ l) (h2 : l ≤ 9223372036854775807) :
    Calls Tryz.prog 27 #[.pointer (some ⟨p, 0, none⟩), .int .i64 l] w fun e w' =>
      ∃ v s' o, e = .returned v ∧ GoR l s s' o ∧ w'.ownsRow 0 3 1 v o.length (zs o) ∧ PR w' F p s' Φ ∧ Keeps F w w' ∧ ∀ g ∈ fp v, w.heap.size ≤ g := by
  obtain ⟨lm, cm, nl, nc, A, c, f, h, hnl, hnc⟩ := h
  have HP := Lib.hid h
  have HS := Lib.hid hs
  have HC := Lib.hid (hasL_any w p lm nl f l (h.b.cell 0) h.ml h1 h2)
  have hiff := h.ls.some_iff l
  clear h hs
  by_cases h0 : l = 0
  · subst h0
    have HR : Hid (GoR 0 s s []) := Lib.hid (.inl ⟨.inl rfl, rfl, rfl⟩)
    clear hiff HC
    go_enter Tryz.func27, Tryz.ntmps27
    go_wp2_with fail
    go_ret
    exact ⟨_, s, [], rfl, HR.out, World.ownsRow_nil _ _ _ _, ⟨lm, cm, nl, nc, A, c, f, HP.out, hnl, hnc⟩, Keeps.refl _ _, by simp⟩
  cases hb : (f l).isSome with
  | false =>
    have HR : Hid (GoR l s s []) := Lib.hid (.inl ⟨.inr (by cases hx : s.ln l with
      | none => rfl
      | some n => rw [hb, hx] at hiff; simp at hiff), rfl, rfl⟩)
    rw [hb] at HC
    clear hiff
    go_enter Tryz.func27, Tryz.ntmps27
    go_wp2_with fail
    refine HC.out.mono ?_
    rintro e w1 ⟨rfl, k1⟩
    have HP1 := Lib.hid (HP.out.keep0 k1)
    have K1 := Lib.hid k1
    clear k1 HP
    go_wp2_with fail
    go_ret
    exact ⟨_, s, [], rfl, HR.out, World.ownsRow_nil _ _ _ _, ⟨lm, cm, nl, nc, A, c, f, HP1.out, hnl, hnc⟩, K1.out.mono (by simp), by simp⟩
  | true =>
    have hsm : Hid ((s.ln l).isSome = true) := Lib.hid (hiff.1 hb)
    rw [hb] at HC
    clear hiff
    go_enter Tryz.func27, Tryz.ntmps27
    go_wp2_with fail
    refine HC.out.mono ?_
    rintro e w1 ⟨rfl, k1⟩
    have HP1 := Lib.hid (HP.out.keep0 k1)
    have K1 := Lib.hid k1
    clear k1 HP
    go_wp2_with fail
    refine ((rem_cut 1000 (by omega)).2 w1 F p s lm cm nl nc A c f w1.heap.size l HP1.out HP1.out.itB (Nat.le_refl _) (by omega) (by omega) HS.out (kI_ok h1 h2)).mono ?_
    rintro e w3 ⟨v, o, s', f', rfl, hrm, ho, hp3, hb3, k3, hf3⟩
    have hlen := hrm.len
    have hz := K1.out.size
    have HR : Hid (GoR l s s' o) := Lib.hid (.inr ⟨h0, hsm.out, hrm⟩)
    have HO := Lib.hid ho
    have HP3 := Lib.hid hp3
    have K3 : Hid (Keeps F w w3) := Lib.hid ((K1.out.mono (by simp)).trans k3 (fun y hy => .inl hy))
    obtain ⟨A5, c5, rfl, -, -, -⟩ := own_shape ho
    clear hrm ho hp3 k3 hb3 HP1 K1
    go_wp2_with fail
    go_ret
    exact ⟨_, s', o, rfl, HR.out, HO.out, ⟨lm, cm, nl, nc, A, c, f', HP3.out, hnl, by omega⟩, K3.out, fun g hg => Nat.le_trans hz (hf3 g hg)⟩
end Go.Proofs.YtcopjjokhjealaaGreat
