/- Texts of elder seats, turned to this one. -/
import Derived.Test.YteognipfnbocpaaGreatW9
namespace Go.Proofs.YteognipfnbocpaaGreat
open Go.RowKit
open T12 (E TbRep ent unmM ents upd cells5 c5)
open T13 (Tl En TlRep es)

theorem LI.start {c : List Nat} {w0 w : World} {F : List Nat} {p : Nat} {s : Mm} {fr : Int} {b nb : Nat} {q : Int → Option Nat} {A : Option Addr} {cap ri cnt : Nat} {L : Nat → Option Lb} (h : MmAt w F p s L b nb q A cap c) (hk : Keeps F w0 w) (hr : PRange w b ri nb q (fun x => (q x).isSome) cnt) :
    LI c w0 F p s fr b nb q A cap ri (fun x => (q x).isSome) cnt L F w := by
  have e : loseS fr s.t (fun x => (q x).isSome) = s.t := by
    have : (fun x => (q x).isSome) = fun x => (s.t x).isSome := funext (fun x => h.qsome x)
    rw [this, loseS_start]
  refine ⟨by rw [e]; exact h, hk, fun _ hg => hg, hr, fun x hx => ?_⟩
  rw [← h.qsome x]
  exact hx
theorem LI.pick {c : List Nat} {w0 w w1 : World} {F0 F : List Nat} {p : Nat} {s : Mm} {fr : Int} {b nb : Nat} {q : Int → Option Nat} {A : Option Addr} {cap ri cnt cnt' : Nat} {L : Nat → Option Lb} {left : Int → Bool} (h : LI c w0 F0 p s fr b nb q A cap ri left cnt L F w) (hri : ri ∉ F0) (h0 : w0.heap.size ≤ ri) {x : Int} {r : Nat} (hl : left x = true) (hq : q x = some r)
    (hr : PRange w1 b ri nb q (fun y => left y && !decide (y = x)) cnt') (hk : Keeps [ri] w w1) :
    ∃ m G, s.t x = some m ∧ TbRep w1 G r m ∧ (∀ w2 Ve E0, EL m E0 → Keeps [] w1 w2 → w2.ownsRow 0 42 5 Ve E0.length (cells5 E0) → (∀ g ∈ fp Ve, w1.heap.size ≤ g) → LJ c w0 F0 p s fr b nb q A cap ri left cnt' x r m E0 Ve 0 L F G w2) := by
  have hs := h.hl x hl
  obtain ⟨m, hm⟩ := Option.isSome_iff_exists.1 hs
  have he : loseS fr s.t left x = some m := by unfold loseS; rw [if_pos hl, hm]
  obtain ⟨G, r', hr', ht, hg⟩ := h.ha.qs x m he
  rw [hq] at hr'
  injection hr' with e
  subst e
  have hGri : ∀ g ∈ G, g ∉ [ri] := fun g hg1 h2 => by
    rw [List.mem_singleton.1 h2] at hg1
    exact hri (h.hf _ (h.ha.inF _ _ (hg _ hg1)))
  have hFri : ∀ g l, L g = some l → g ∉ [ri] := fun g l h1 h2 => by
    rw [List.mem_singleton.1 h2] at h1
    exact hri (h.hf _ (h.ha.inF _ _ h1))
  refine ⟨m, G, hm, ht.keep hk hGri, fun w2 Ve E0 el k2 ho hv => ?_⟩
  have eu : updT (loseS fr s.t left) x (some (loseJ fr m (E0.take 0))) = loseS fr s.t left := by
    rw [List.take_zero, loseJ_nil]
    funext y
    unfold updT
    split
    · rename_i hy; rw [hy, he]
    · rfl
  refine ⟨by rw [eu]; exact (h.ha.keep hk hFri).keep k2 (by simp), (h.hk.trans hk (fun g hg => .inr (by rw [List.mem_singleton.1 hg]; exact h0))).trans k2 (by simp), h.hf, hr.keep k2 (by simp) (by simp), h.hl, hq, ?_, hg, ho, fun g hg1 h1 => ?_⟩
  · rw [List.take_zero, loseJ_nil]
    exact (ht.keep hk hGri).keep k2 (by simp)
  · have := hv g hg1
    have := h.ha.fl g h1
    have := hk.size
    omega
theorem sumD_zero {fr : Int} {t : Int → Option Pg} {left : Int → Bool} {ks : List Int} (h : ∀ x, left x = false → t x = none) : sumD fr t left ks = 0 := by
  induction ks with
  | nil => rfl
  | cons x r ih =>
    simp only [sumD, ih]
    cases hl : left x with
    | true => simp
    | false => rw [h x hl]; simp [hitT]
theorem hitT_some {fr : Int} {t : Int → Option Pg} {x : Int} {m : Pg} (h : t x = some m) : hitT fr (t x) = hits fr (ents m 256) := by rw [h]; rfl
def Mm.lose (s : Mm) (fr : Int) : Mm := ({ s with t := fun x => (s.t x).map (loseT fr) } : Mm).shoot (fun e => e.f == fr)
theorem tb_o {w : World} {G : List Nat} {r : Nat} {m : Pg} (h : TbRep w G r m) : ∀ k, 256 ≤ k → m k = none := by obtain ⟨q, h⟩ := h; exact h.o
set_option maxRecDepth 100000 in
set_option maxHeartbeats 6400000 in
theorem lose_any (w : World) (F : List Nat) (p : Nat) (s : Mm) (h : MmRep w F p s) (ok : Ok s) (fr : Int) (ks : List Int) (hn : ks.Nodup) (hks : ∀ x, (s.t x).isSome → x ∈ ks) (hkl : ks.length ≤ 1000) :
    Calls Tryz.prog 23 #[.pointer (some ⟨p, 0, none⟩), .int .i64 fr] w fun e w' => e = .returned (.int .i64 (sumD fr s.t (fun _ => false) ks)) ∧ MmNext w w' F p (s.lose fr) := by
  have hlt := h.lt
  obtain ⟨L, b, nb, q, A, cap, c, h, hnb⟩ := h
  have kb : Keeps [] w (w.alloc (.cells #[.int .i64 fr] 3)) := (Keeps.refl _ w).alloc _
  have h0 := h.keep kb (by simp)
  have B1 : Blk (w.alloc (.cells #[.int .i64 fr] 3)) w.heap.size 3 #[.int .i64 fr] := Blk.new w 3 _
  have z0 : (w.alloc (.cells #[.int .i64 fr] 3)).heap.size = w.heap.size + 1 := by simp
  obtain ⟨W0, hW0⟩ : ∃ W0, W0 = w.alloc (.cells #[.int .i64 fr] 3) := ⟨_, rfl⟩
  rw [← hW0] at kb h0 B1 z0
  obtain ⟨w1, cnt0, hrun, hr, k1, hs1⟩ := h0.bm.range Tryz.underlying57
  have hI := LI.start (fr := fr) (h0.keep k1 (by simp)) (k1.mono (G := F) (by simp)) hr
  have hriF : W0.heap.size ∉ F := fun hg => by have := hlt _ hg; omega
  have hbxF : w.heap.size ∉ F := fun hg => by have := hlt _ hg; omega
  have c0 := h0.bp.cell 0
  have HB := Lib.hid B1
  have OK := Lib.hid ok
  have HK := Lib.hid kb
  have HKS := Lib.hid hks
  have HZ := Lib.hid z0
  have HN := Lib.hid hn
  have HST : Hid (sumD fr s.t (fun x => (q x).isSome) ks = 0) := Lib.hid (sumD_zero (fun x hx => by
    have := h0.qsome x
    cases hs : s.t x with
    | none => rfl
    | some m => rw [hs, hx] at this; cases this))
  have hnb2 := Lib.hid hnb
  have hri : W0.heap.size = w.heap.size + 1 := z0
  obtain ⟨ri, hriE⟩ : ∃ ri, ri = W0.heap.size := ⟨_, rfl⟩
  rw [← hriE] at hrun hI hr hriF hri
  have HI := Lib.hid hI
  have hLo : W0.heap.size ≤ ri := by omega
  have HLO := Lib.hid hLo
  have HRF := Lib.hid hriF
  have HBF := Lib.hid hbxF
  have hw : w.heap.size < W0.heap.size := by omega
  have HW := Lib.hid hw
  clear h h0 hr k1 hs1 hI kb B1 z0 ok hks hn hlt hnb hri hLo hriF hbxF hw hriE
  subst hW0
  unfold Mm.lose
  go_enter Tryz.func23, Tryz.ntmps23
  go_wp2_with fail
  generalize w.alloc (.cells #[.int .i64 fr] 3) = W0 at *
  clear hrun c0
  go_loopw [5] (fun n wr => ∃ (left : Int → Bool) (cnt : Nat) (L1 : Nat → Option Lb) (F1 : List Nat), n = .int .i64 (sumD fr s.t left ks : Nat) ∧ LI c W0 F p s fr b nb q A cap ri left cnt L1 F1 wr) (fun _ wr => wr.rangeLeft b ri)
  case atStart => exact ⟨_, cnt0, L, F, by rw [HST.out]; rfl, HI.out⟩
  case round =>
    obtain ⟨left, cnt, L1, F1, rfl, I⟩ := hrel
    have hsb := sumD_le fr s.t left ks
    have hrl := I.hr.left_eq
    have HRL := Lib.hid hrl
    have HII := Lib.hid I
    have HRG := Lib.hid I.hr
    obtain ⟨S, hS⟩ : ∃ S, S = sumD fr s.t left ks := ⟨_, rfl⟩
    rw [← hS] at hsb ⊢
    have HS := Lib.hid hS
    have hsb2 : S ≤ 256000 := by omega
    clear I hrl hS hsb
    obtain ⟨wo, rfl⟩ : ∃ wo : World, wo = wr := ⟨_, rfl⟩
    go_wp2_with (at_next; refine wpList_next_p _ rfl _ rfl b ri nb q left cnt rfl HRG.out ?_ ?_)
    · intro hall
      have hSF : S = sumD fr s.t (fun _ => false) ks := by rw [HS.out]; exact sumD_same (fun x _ => hall x)
      have et := loseS_all (fr := fr) (t := s.t) hall
      have hb := HB.out.keep HII.out.hk HBF.out
      have hbF1 : w.heap.size ∉ F1 := fun hg => HBF.out (HII.out.hf _ hg)
      have SH := shoot_any wo F1 p ({ s with t := loseS fr s.t left } : Mm) ⟨L1, b, nb, q, A, cap, c, HII.out.ha, hnb2.out⟩ ⟨OK.out.c, OK.out.k, OK.out.n0, OK.out.n1, OK.out.kk⟩ 53 #[.pointer (some ⟨w.heap.size, 0, none⟩)] (fun e => e.f == fr) enters53 (lose_rb F1 wo _ fr hb hbF1)
      rw [et] at SH
      have SH2 := Lib.hid SH
      have HKW := Lib.hid ((HK.out.mono (G := F) (by simp)).trans HII.out.hk (fun g hg => .inl hg))
      have HF1 := Lib.hid (fun g (hg : g ∈ F1) => (Or.inl (HII.out.hf g hg) : g ∈ F ∨ w.heap.size ≤ g))
      have HSF := Lib.hid hSF
      clear SH hb hbF1 et hSF hall HRG HII HRL HS
      go_wp2_with fail
      refine SH2.out.mono ?_
      rintro e w3 ⟨rfl, n3⟩
      have N3 := Lib.hid (n3.then HF1.out HKW.out)
      clear n3 SH2
      go_wp2
      go_ret
      rw [← HSF.out]
      exact ⟨rfl, N3.out⟩
    · intro x r w2 cnt' hl hq hr2 hlt2 hk2 hs2 hen
      obtain ⟨m, G, hm, htb, hnext⟩ := HII.out.pick HRF.out HLO.out hl hq hr2 hk2
      have hE := T12.entries_any w2 G r m htb
      have hel := EL_ents m 256 rfl
      have hst := sumD_step (fr := fr) (t := s.t) HN.out (HKS.out x (by rw [hm]; rfl)) hl
      rw [hitT_some hm, ← HS.out] at hst
      have hto := tb_o htb
      have hx1 := hm
      generalize ents m 256 = E0 at *
      have H1 := Lib.hid (And.intro hst (And.intro hto hx1))
      have H2 := Lib.hid (And.intro hel (And.intro hlt2 hnext))
      have HE := Lib.hid hE
      clear hst hto hx1 hel hlt2 hnext hE hm htb hl hq hr2 hk2 hs2 HRG HII
      go_wp2_with fail
      refine HE.out.mono ?_
      rintro e w3 ⟨v, rfl, o3, k3, v3⟩
      obtain ⟨Ae, ce, rfl, -, -, hA⟩ := own_shape o3
      have J0 := Lib.hid (H2.out.2.2 w3 _ E0 H2.out.1 k3 o3 v3)
      have hle : E0.length ≤ 256 := H2.out.1.len
      clear o3 k3 v3 HE hen
      go_wp2_with fail
      go_loopw [5, 22] (fun n i wz => ∃ (j : Nat) (L2 : Nat → Option Lb) (F2 : List Nat), j ≤ E0.length ∧ i = .int .i64 j ∧ n = .int .i64 ((S : Int) + (hits fr (E0.take j) : Nat)) ∧ LJ c W0 F p s fr b nb q A cap ri left cnt' x r m E0 (.slice Ae E0.length ce) j L2 F2 G wz) (fun _ i _ => E0.length - (intOf i).toNat)
      case atStart => exact ⟨0, L1, F1, by omega, rfl, by simp [hits], J0.out⟩
      case round =>
        obtain ⟨j, L2, F2, hj, rfl, rfl, I⟩ := hrel
        have hh := hits_le fr (E0.take j)
        have htl : (E0.take j).length ≤ E0.length := by rw [List.length_take]; omega
        by_cases hlt : j < E0.length
        · obtain ⟨g, rfl⟩ := hA (by omega)
          have y0 := own_cell I.oe (j := j * 5) (u := .int .i64 (E0[j].1 : Nat)) (by rw [show j * 5 = j * 5 + 0 by omega, cells5_at hlt (by omega)]; rfl)
          have y1 := own_cell I.oe (j := j * 5 + 1) (u := .int .i64 E0[j].2.fr) (by rw [cells5_at hlt (by omega)]; rfl)
          have y2 := own_cell I.oe (j := j * 5 + 2) (u := .bool E0[j].2.wr) (by rw [cells5_at hlt (by omega)]; rfl)
          have y3 := own_cell I.oe (j := j * 5 + 3) (u := .bool E0[j].2.ac) (by rw [cells5_at hlt (by omega)]; rfl)
          have y4 := own_cell I.oe (j := j * 5 + 4) (u := .bool E0[j].2.di) (by rw [cells5_at hlt (by omega)]; rfl)
          have x0 := (HB.out.keep I.hk HBF.out).cell 0
          have xl := (HB.out.keep I.hk HBF.out).lt
          have IA := I.same ((Keeps.refl [] wr).alloc (.cells #[.int .i64 (E0[j].1 : Nat), .int .i64 E0[j].2.fr, .bool E0[j].2.wr, .bool E0[j].2.ac, .bool E0[j].2.di] 42))
          have hsn := hits_snoc fr (E0.take j) E0[j]
          rw [← List.take_succ_eq_append_getElem hlt] at hsn
          by_cases he : E0[j].2.fr = fr
          · have te : (E0[j].2.fr == fr) = true := by simpa using he
            rw [if_pos he] at hsn
            have HC := Lib.hid (IA.hit H2.out.1 HRF.out hlt he)
            have HSN := Lib.hid hsn
            clear I IA hsn he
            go_wp2_with fail
            refine HC.out.mono ?_
            rintro e w5 ⟨rfl, -, L3, F3, I3⟩
            have HI3 := Lib.hid I3
            clear I3 HC
            go_wp2_with fail
            go_roundw
            case rel => exact ⟨j + 1, L3, F3, by omega, by go_num, by rw [HSN.out]; go_num, HI3.out⟩
            case measure => simp [intOf]; omega
          · have te : (E0[j].2.fr == fr) = false := by simpa using he
            rw [if_neg he, Nat.add_zero] at hsn
            have HI3 := Lib.hid (IA.miss H2.out.1 hlt he)
            have HSN := Lib.hid hsn
            clear I IA hsn he
            go_wp2_with fail
            go_roundw
            case rel => exact ⟨j + 1, L2, F2, by omega, by go_num, by rw [HSN.out]; go_num, HI3.out⟩
            case measure => simp [intOf]; omega
        · obtain rfl : j = E0.length := by omega
          have hd := I.done H2.out.1 H1.out.2.2 H1.out.2.1
          have hn2 : S + hits fr (E0.take E0.length) = sumD fr s.t (fun y => left y && !decide (y = x)) ks := by rw [List.take_length]; exact H1.out.1.symm
          have hlq := hd.hr.left_eq
          have HD := Lib.hid (And.intro hd (And.intro hn2 hlq))
          clear I hd hn2 hlq
          go_wp2_with fail
          go_roundw
          case rel => exact ⟨_, cnt', L2, F2, by rw [← HD.out.2.1]; go_num, HD.out.1⟩
          case measure => rw [HD.out.2.2, HRL.out]; exact H2.out.2.1
end Go.Proofs.YteognipfnbocpaaGreat
