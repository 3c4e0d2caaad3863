/- The reference's cache: Fill. -/
import Derived.Test.YtkfcoemdpcjhfaaE2
import Derived.Deep.CutRange
import Derived.Deep.CutBlock
namespace Go.Proofs.Ytkfcoemdpcjhfaa
open Go.RowKit

theorem TlAt.cutTo {T : TypeId} {w : World} {F : List Nat} {p : Nat} {t : Tl} {A : Option Addr} {cap k : Nat} (g1 : TlAt T w F p t A cap) (hk1 : k ≤ t.L.length) :
    TlAt T (w.setCell ⟨p, 1, none⟩ (.slice A k cap)) F p ⟨t.n, t.L.take k⟩ A cap := by
  have hlk : (t.L.take k).length = k := by rw [List.length_take]; omega
  have hoff := g1.off
  have e1 : fp (.slice A (t.L.take k).length cap) = fp (.slice A t.L.length cap) := fp_any _ _ _ _ _
  have hb := g1.b.set_ 1 (.slice A k cap)
  have ho : w.ownsRow 0 34 4 (.slice A k cap) k (es (t.L.take k)) := by
    cases A with
    | none =>
      obtain ⟨z1, z2⟩ := own_cutNil g1.o
      obtain rfl : k = 0 := by omega
      subst z2
      exact World.ownsRow_nil _ _ _ _
    | some a =>
      by_cases hl0 : 0 < t.L.length
      · obtain ⟨_, _, hv, -, -, hA⟩ := own_shape g1.o
        obtain ⟨g, hg⟩ := hA hl0
        injection hv with hv1
        rw [← hv1] at hg
        injection hg with hg
        subst hg
        exact own_cutTo g1.o hk1
      · obtain rfl : k = t.L.length := by omega
        rw [List.take_length]
        exact g1.o
  have ho2 : (w.setCell ⟨p, 1, none⟩ (.slice A k cap)).ownsRow 0 34 4 (.slice A k cap) k (es (t.L.take k)) := own_far ho (by rw [fp_any A k cap t.L.length cap]; exact hoff) _
  have hm := g1.m
  exact ⟨by rw [e1]; exact g1.f, by simp only [hlk]; exact hb, by simp only [hlk]; exact ho2, by simp only [hlk]; omega, g1.t⟩
theorem TlAt.drew {T : TypeId} {w : World} {F : List Nat} {p : Nat} {t : Tl} {A : Option Addr} {cap : Nat} (g1 : TlAt T w F p t A cap) (n : Nat) : TlAt T (w.drewN n) F p t A cap := ⟨g1.f, g1.b, g1.o, g1.m, g1.t⟩
theorem TlAt.drew1 {T : TypeId} {w : World} {F : List Nat} {p : Nat} {t : Tl} {A : Option Addr} {cap : Nat} (g1 : TlAt T w F p t A cap) : TlAt T w.drew F p t A cap := ⟨g1.f, g1.b, g1.o, g1.m, g1.t⟩
theorem Next.trans {T : TypeId} {w w1 w2 : World} {F F1 : List Nat} {p : Nat} {t : Tl} (k : Keeps F w w1) (f : ∀ g ∈ F1, g ∈ F ∨ w.heap.size ≤ g) (n : Next T w1 w2 F1 p t) : Next T w w2 F p t := by
  obtain ⟨F2, r, k2, f2⟩ := n
  exact ⟨F2, r, k.trans k2 f, fun g hg => (f2 g hg).elim (f g) (fun h => .inr (Nat.le_trans k.size h))⟩

def theRegion (k : Nat) : Code → Option Code
  | .region id ops d => if id == k then some (.region id ops d) else none
  | .seq a b => match theRegion k a with
    | some c => some c
    | none => theRegion k b
  | .cond _ a b => match theRegion k a with
    | some c => some c
    | none => theRegion k b
  | .block _ c => theRegion k c
  | .loop c => theRegion k c
  | .scope c => theRegion k c
  | _ => none

noncomputable def freg5 : Code := ((Try.f27.body.bind (theRegion 5)).getD .skip)
set_option maxRecDepth 1000000 in
set_option maxHeartbeats 3200000 in
theorem freg5_any (w : World) (p n l cap k : Nat) (A : Option Addr) (K : Exit → Act → World → Prop)
    (c0 : w.cell? ⟨p, 0, none⟩ = some (.int .i64 n)) (c1 : w.cell? ⟨p, 1, none⟩ = some (.slice A l cap)) (fz : w.frozen? ⟨p, 1, none⟩ = false)
    (hwr : IntKind.i64.wrap ((n : Int) - 1) = (k : Int)) (hk1 : (k : Int) ≤ cap) (hk0 : (0 : Int) ≤ k)
    (u1 u2 u3 u4 u5 u6 u7 u8 u9 u10 u11 u12 u13 u14 u15 u16 u17 u18 u19 u20 u21 u22 u23 u24 u25 u26 u27 u28 u29 u30 u31 u32 u33 u34 u35 u36 u37 u38 u39 u40 u41 u42 u43 u44 u45 u46 u47 u48 u49 u50 u51 u52 u53 u54 u55 u56 u57 u58 u59 u60 u61 u62 u63 u64 : Value)
    (hK : ∀ (v38 v39 v40 v41 v42 v43 v44 v45 v46 v47 v48 v49 v50 : Value), K .normal ⟨#[.pointer (some ⟨p, 0, none⟩), u1, u2, u3, u4, u5, u6, u7, u8, u9, u10, u11, u12, u13, u14, u15, u16, u17, u18, u19, u20, u21, u22, u23, u24, u25, u26, u27, u28, u29, u30, u31, u32, u33, u34, u35, u36, u37, v38, v39, v40, v41, v42, v43, v44, v45, v46, v47, v48, v49, v50, u51, u52, u53, u54, u55, u56, u57, u58, u59, u60, u61, u62, u63, u64], []⟩ (w.setCell ⟨p, 1, none⟩ (.slice A k cap)).drew) :
    Code.wp Try.prog freg5 K ⟨#[.pointer (some ⟨p, 0, none⟩), u1, u2, u3, u4, u5, u6, u7, u8, u9, u10, u11, u12, u13, u14, u15, u16, u17, u18, u19, u20, u21, u22, u23, u24, u25, u26, u27, u28, u29, u30, u31, u32, u33, u34, u35, u36, u37, u38, u39, u40, u41, u42, u43, u44, u45, u46, u47, u48, u49, u50, u51, u52, u53, u54, u55, u56, u57, u58, u59, u60, u61, u62, u63, u64], []⟩ w := by
  have d0 : w.drew.cell? ⟨p, 0, none⟩ = some (.int .i64 n) := c0
  have d1 : w.drew.cell? ⟨p, 1, none⟩ = some (.slice A l cap) := c1
  have fz2 : w.drew.frozen? ⟨p, 1, none⟩ = false := fz
  conv => arg 2; whnf
  dsimp only at hK ⊢
  go_region
  exact hK _ _ _ _ _ _ _ _ _ _ _ _ _
set_option maxRecDepth 100000 in
set_option maxHeartbeats 3200000 in
theorem rfill_any (w : World) (F : List Nat) (p : Nat) (s : Tl) (x : En) (hn : s.n ≤ 1000) (hd : Nd s.L) (h : TlRep 46 w F p s) :
    Calls Try.prog 27 #[.pointer (some ⟨p, 0, none⟩), .int .i64 x.s, .int .i64 x.p, .int .i64 x.f, .bool x.w] w fun e w' => e = .returned (.tuple #[]) ∧ Next 46 w w' F p (s.fill x) := by
  have HP := Lib.hid (rplace_any w F p s x.s x.p hn h)
  have HR := Lib.hid h
  obtain ⟨t, ht⟩ : ∃ t, t = s.drop (fun e => e.is x.s x.p) := ⟨_, rfl⟩
  have hsf : s.fill x = if s.n = 0 then t else ⟨s.n, x :: t.L.take (s.n - 1)⟩ := by rw [ht]; rfl
  have htn : t.n = s.n := by rw [ht]; rfl
  rw [← htn] at hsf
  have HS := Lib.hid hsf
  have HN := Lib.hid htn
  have HI := Lib.hid info34
  have hnn := hn
  rw [← htn] at hnn
  have hfx : ∃ z : Int, fidx (fun e => e.is x.s x.p) s.L = z := ⟨_, rfl⟩
  obtain ⟨z, hz⟩ := hfx
  rw [hz] at HP
  have HZ := Lib.hid hz
  have HT := Lib.hid ht
  have HD := Lib.hid hd
  clear h hsf htn ht hd hz
  go_enter Try.func27, Try.ntmps27
  go_wp2_with fail
  refine HP.out.mono ?_
  rintro e w1 ⟨rfl, k1⟩
  go_upto_if 16 with (fail)
  go_cut [17] from 18 to 22 (fun s17 wc => Next 46 w wc F p t)
  case first =>
    cases hf : s.L.findIdx? (fun e => e.is x.s x.p) with
    | none =>
      obtain rfl : z = -1 := by rw [← HZ.out, fidx_none hf]
      have e1 : t = s := by rw [HT.out]; unfold Tl.drop; rw [keep_filter hf]
      have n1 : Next 46 w w1 F p t := .same (by rw [e1]; exact HR.out.keep k1 (by simp)) (k1.mono (by simp))
      clear hf e1
      go_wp2_with fail
      go_meet
      case rel => exact n1
    | some k =>
      have hkl : k < s.L.length := by rw [List.findIdx?_eq_some_iff_getElem] at hf; exact hf.1
      obtain rfl : z = k := by rw [← HZ.out, fidx_some hf]
      have e1 : t = ⟨s.n, s.L.eraseIdx k⟩ := by rw [HT.out]; unfold Tl.drop; rw [erase_filter HD.out hf]
      have HE := Lib.hid e1
      have hle : (s.L.eraseIdx k).length ≤ s.n := by rw [List.length_eraseIdx_of_lt hkl]; have := HR.out.len; omega
      have hw := rwithout_any w1 F p s k hkl hn (HR.out.keep k1 (by simp))
      have HW := Lib.hid hw
      clear hf e1 hw
      go_wp2_with fail
      refine HW.out.mono ?_
      rintro e w2 ⟨v, rfl, o2, k2, f2⟩
      obtain ⟨A, cap, g1⟩ := HR.out
      have kk := fresh1 g1 o2 (k1.trans k2 (by simp)) (fun g hg => Nat.le_trans k1.size (f2 g hg)) hle
      clear g1 o2 k2 f2 HW
      obtain ⟨A1, cap1, rfl, d1, d0, -, hn1⟩ := kk
      have HN1 : Hid (Next 46 w (w2.setCell ⟨p, 1, none⟩ (.slice A1 (s.L.eraseIdx k).length cap1)) F p t) := Lib.hid (by rw [HE.out]; exact hn1)
      clear hn1 HE k1
      go_wp2_with fail
      go_meet
      case rel => exact HN1.out
  case rest =>
  have n1 := hcut
  clear hcut HP HR HZ HT HD hn k1
  obtain ⟨F1, ⟨A9, cap9, g1⟩, K1, f1⟩ := n1
  rename World => W
  have c0 : W.cell? ⟨p, 0, none⟩ = some (.int .i64 t.n) := g1.b.cell 0
  have c1 : W.cell? ⟨p, 1, none⟩ = some (.slice A9 t.L.length cap9) := g1.b.cell 1
  by_cases h0 : t.n = 0
  · have HFX := Lib.hid (HS.out.trans (if_pos h0))
    have HX := Lib.hid (show TlRep 46 W F1 p t from ⟨A9, cap9, g1⟩)
    rw [h0] at c0
    clear h0 HS HN hnn g1
    go_wp2_with fail
    refine bodyPost_ret (v := .tuple #[]) (by simp [results, Try.results27, go_sem]) rfl ?_
    rw [HFX.out]
    exact ⟨rfl, F1, HX.out, K1, f1⟩
  have HFX := Lib.hid (HS.out.trans (if_neg h0))
  have tz : ((t.n : Int) == 0) = false := by simp; omega
  have hcap : t.L.length ≤ cap9 := by obtain ⟨_, _, hv, h1, _, _⟩ := own_shape g1.o; injection hv with _ _ h3; omega
  have hm := g1.m
  by_cases hge : t.n ≤ t.L.length
  · obtain ⟨k, hk⟩ : ∃ k : Nat, k = t.n - 1 := ⟨_, rfl⟩
    have hge1 : decide ((t.n : Int) ≤ (t.L.length : Int)) = true := by simp; omega
    have hwr : IntKind.i64.wrap ((t.n : Int) - 1) = (k : Int) := by rw [IntKind.wrap_i64]; omega
    have HG := Lib.hid g1
    have hkl9 : k ≤ t.L.length := by omega
    have HFX2 : Hid (s.fill x = ⟨t.n, x :: t.L.take k⟩) := by rw [hk]; exact HFX
    have hk1 : (k : Int) ≤ cap9 := by omega
    have hk0 : (0 : Int) ≤ k := by omega
    have hkn : k + 1 ≤ t.n := by omega
    have HFX := HFX2
    clear HFX2 HS HN g1 hk h0
    go_wp2_with fail
    go_quiet (fail)
    have g2 := HG.out.drew nq
    have K2 := K1.drewN nq
    have f2 : ∀ g ∈ F1, g ∈ F ∨ w.heap.size ≤ g := f1
    clear HG c0 c1 K1 f1
    generalize W.drewN nq = W2 at *
    have c0 : W2.cell? ⟨p, 0, none⟩ = some (.int .i64 t.n) := g2.b.cell 0
    have c1 : W2.cell? ⟨p, 1, none⟩ = some (.slice A9 t.L.length cap9) := g2.b.cell 1
    have fz : W2.frozen? ⟨p, 1, none⟩ = false := g2.b.frozen 1
    have hp1 : p ∈ F1 := by rw [g2.f]; simp
    have K3 := (K2.trans ((Keeps.refl F1 W2).setCell (p := ⟨p, 1, none⟩) (.inl hp1) (.slice A9 k cap9)) f2).drew
    have g3 := (g2.cutTo (k := k) hkl9).drew1
    have HG := Lib.hid g3
    have HK := Lib.hid K3
    clear g2 g3 K2 K3 hp1
    go_wp2_with fail
    refine freg5_any W2 p t.n t.L.length cap9 k A9 _ c0 c1 fz hwr hk1 hk0 _ _ _ _ _ _ _ _ _ _ _ _ _ _ _ _ _ _ _ _ _ _ _ _ _ _ _ _ _ _ _ _ _ _ _ _ _ _ _ _ _ _ _ _ _ _ _ _ _ _ _ _ _ _ _ _ _ _ _ _ _ _ _ _ ?_
    intro v38 v39 v40 v41 v42 v43 v44 v45 v46 v47 v48 v49 v50
    have g5 := HG.out
    have K5 := HK.out
    have f1 := f2
    have hlk : (t.L.take k).length = k := by rw [List.length_take]; omega
    clear HG HK c0 c1 fz f2
    generalize (W2.setCell ⟨p, 1, none⟩ (.slice A9 k cap9)).drew = W5 at *
    generalize t.L.take k = L9 at *
    subst hlk
    have c1 : W5.cell? ⟨p, 1, none⟩ = some (.slice A9 L9.length cap9) := g5.b.cell 1
    have hrd : Reads (W5.alloc (.cells #[.int .i64 x.s, .int .i64 x.p, .int .i64 x.f, .bool x.w] 34)) (W5.alloc (.cells #[.int .i64 x.s, .int .i64 x.p, .int .i64 x.f, .bool x.w] 34)).heap.size 4 A9 L9.length (es L9) := reads_own (own_keep g5.o ((Keeps.refl [] W5).alloc _) (by simp))
    have HRD := Lib.hid hrd
    have hpl := g5.b.lt
    have HO1 : Hid ((W5.alloc (.cells #[.int .i64 x.s, .int .i64 x.p, .int .i64 x.f, .bool x.w] 34)).ownsRow 0 34 4 (.slice (some ⟨W5.heap.size, 0, none⟩) 1 1) 1 (ec x)) := own_of_blk (Blk.new _ _ _) (by omega) (by unfold maxLen; omega) rfl rfl
    have HG5 := Lib.hid g5
    have HK5 := Lib.hid K5
    have HF5 := Lib.hid f1
    clear hrd g5 K5 f1
    go_wp2_with (at_builtin; refine wpList_app _ rfl (.tmp 57) (.tmp 61) _ rfl 34 (.agg #[.int .i64 0, .int .i64 0, .int .i64 0, .bool false]) 4 32 Try.underlying32 HI.out rfl (by omega) (.slice (some ⟨W5.heap.size, 0, none⟩) 1 1) 1 (ec x) rfl (HO1.out) _ A9 L9.length cap9 _ rfl HRD.out (es_one L9) (by unfold maxLen; omega) (by omega) ?_)
    intro v6 w6 o6 k6 f6
    have kw : Keeps [] W5 w6 := ((Keeps.refl [] W5).alloc (.cells #[.int .i64 x.s, .int .i64 x.p, .int .i64 x.f, .bool x.w] 34)).trans k6 (by simp)
    have kk := fresh1 (L' := x :: L9) HG5.out (by rw [es_cons, List.length_cons, Nat.add_comm]; exact o6) kw (fun g hg => (f6 g hg).elim (fun h => by first | omega | (have := List.mem_singleton.1 h; simp at this; omega) | (have := List.mem_singleton.1 h; omega)) (fun h => by first | omega | (simp at h; omega))) (by show L9.length + 1 ≤ t.n; omega)
    obtain ⟨A1, cap1, rfl, d1, d0, -, hn1⟩ := kk
    have HN1 := Lib.hid hn1
    clear hn1 o6 k6 f6 kw HO1 HRD
    go_wp2_with fail
    go_end0
    rw [HFX.out]
    exact ⟨rfl, HN1.out.trans HK5.out HF5.out⟩
  · have hge1 : decide ((t.n : Int) ≤ (t.L.length : Int)) = false := by simp; omega
    have HFX2 : Hid (s.fill x = ⟨t.n, x :: t.L⟩) := by have := HFX.out; rw [List.take_of_length_le (by omega)] at this; exact Lib.hid this
    have HFX := HFX2
    have HG := Lib.hid g1
    have hkn : t.L.length + 1 ≤ t.n := by omega
    clear HFX2 HS HN g1 h0
    go_wp2_with fail
    go_quiet (fail)
    have g5 : TlAt 46 (W.drewN nq) F1 p ⟨t.n, t.L⟩ A9 cap9 := HG.out.drew nq
    have K5 := K1.drewN nq
    clear HG c0 c1 K1
    generalize W.drewN nq = W5 at *
    generalize t.L = L9 at *
    have c1 : W5.cell? ⟨p, 1, none⟩ = some (.slice A9 L9.length cap9) := g5.b.cell 1
    have hrd : Reads (W5.alloc (.cells #[.int .i64 x.s, .int .i64 x.p, .int .i64 x.f, .bool x.w] 34)) (W5.alloc (.cells #[.int .i64 x.s, .int .i64 x.p, .int .i64 x.f, .bool x.w] 34)).heap.size 4 A9 L9.length (es L9) := reads_own (own_keep g5.o ((Keeps.refl [] W5).alloc _) (by simp))
    have HRD := Lib.hid hrd
    have hpl := g5.b.lt
    have HO1 : Hid ((W5.alloc (.cells #[.int .i64 x.s, .int .i64 x.p, .int .i64 x.f, .bool x.w] 34)).ownsRow 0 34 4 (.slice (some ⟨W5.heap.size, 0, none⟩) 1 1) 1 (ec x)) := own_of_blk (Blk.new _ _ _) (by omega) (by unfold maxLen; omega) rfl rfl
    have HG5 := Lib.hid g5
    have HK5 := Lib.hid K5
    have HF5 := Lib.hid f1
    clear hrd g5 K5 f1
    go_wp2_with (at_builtin; refine wpList_app _ rfl (.tmp 57) (.tmp 61) _ rfl 34 (.agg #[.int .i64 0, .int .i64 0, .int .i64 0, .bool false]) 4 32 Try.underlying32 HI.out rfl (by omega) (.slice (some ⟨W5.heap.size, 0, none⟩) 1 1) 1 (ec x) rfl (HO1.out) _ A9 L9.length cap9 _ rfl HRD.out (es_one L9) (by unfold maxLen; omega) (by omega) ?_)
    intro v6 w6 o6 k6 f6
    have kw : Keeps [] W5 w6 := ((Keeps.refl [] W5).alloc (.cells #[.int .i64 x.s, .int .i64 x.p, .int .i64 x.f, .bool x.w] 34)).trans k6 (by simp)
    have kk := fresh1 (L' := x :: L9) HG5.out (by rw [es_cons, List.length_cons, Nat.add_comm]; exact o6) kw (fun g hg => (f6 g hg).elim (fun h => by first | omega | (have := List.mem_singleton.1 h; simp at this; omega) | (have := List.mem_singleton.1 h; omega)) (fun h => by first | omega | (simp at h; omega))) (by show L9.length + 1 ≤ t.n; omega)
    obtain ⟨A1, cap1, rfl, d1, d0, -, hn1⟩ := kk
    have HN1 := Lib.hid hn1
    clear hn1 o6 k6 f6 kw HO1 HRD
    go_wp2_with fail
    go_end0
    rw [HFX.out]
    exact ⟨rfl, HN1.out.trans HK5.out HF5.out⟩
end Go.Proofs.Ytkfcoemdpcjhfaa
