/- The walk of Copy. -/
import Derived.Test.YteognipfnbocpaaZ1
namespace Go.Proofs.Yteognipfnbocpaa
open Go.RowKit
open T12 (E TbRep ent)
open T13 (Tl En TlRep es)

/-- s with its first j caches. -/
def caches (s : Mm) (j : Nat) : Mm := ⟨s.t, s.C.take j, s.n, 0⟩
theorem caches_succ {s : Mm} {j : Nat} {k : Tl} (h : s.C[j]? = some k) : ({ caches s j with C := (caches s j).C ++ [k] } : Mm) = caches s (j + 1) := by
  obtain ⟨h1, rfl⟩ := List.getElem?_eq_some_iff.1 h
  show Mm.mk s.t (s.C.take j ++ [s.C[j]]) s.n 0 = Mm.mk s.t (s.C.take (j + 1)) s.n 0
  rw [List.take_succ_eq_append_getElem h1]
theorem part_none {s : Mm} {left : Int → Bool} (h : ∀ x, left x = false) : part s left 0 = caches s 0 := by
  unfold part caches
  congr 1
  funext x
  rw [h x]
  rfl
theorem caches_len {s : Mm} {j : Nat} (h : j ≤ s.C.length) : (caches s j).C.length = j := by
  show (s.C.take j).length = j
  rw [List.length_take]; omega
theorem MmAt.again_k {w : World} {F : List Nat} {p : Nat} {s : Mm} {L : Nat → Option Lb} {b nb : Nat} {q : Int → Option Nat} {A : Option Addr} {cap : Nat} {c : List Nat} (h : MmAt w F p (caches s s.C.length) L b nb q A cap c) (k : Nat) : MmAt w F p { s with k := k } L b nb q A cap c := by
  have e : caches s s.C.length = { s with k := 0 } := by
    show Mm.mk s.t (s.C.take s.C.length) s.n 0 = Mm.mk s.t s.C s.n 0
    rw [List.take_length]
  rw [e] at h
  exact ⟨h.lt, h.inF, h.bp, h.bm, h.bo, h.lp, h.lb, h.lA, h.qn, h.qs, h.cs, h.ix, h.fl⟩
set_option maxRecDepth 100000 in
set_option maxHeartbeats 3200000 in
theorem copy_any (w : World) (F : List Nat) (p : Nat) (s : Mm) (h : MmRep w F p s) (ok : Ok s) (ks : List Int) (hks : ∀ x, (s.t x).isSome → x ∈ ks) (hkl : ks.length ≤ 1000) :
    Calls Try.prog 12 #[.pointer (some ⟨p, 0, none⟩)] w fun e w' => ∃ F' p', e = .returned (.pointer (some ⟨p', 0, none⟩)) ∧ MmRep w' F' p' { s with k := ks.length } ∧ Keeps [] w w' ∧ ∀ g ∈ F', w.heap.size ≤ g := by
  obtain ⟨L, b, nb, q, A, cap, c, h, hnb⟩ := h
  have hmm := @run_makeMap Try.prog
  have hS := MmAt.begin_ w s.n s (fun x => (q x).isSome) (fun x hx => by rw [h.qsome x]; exact hx) rfl
  have kb : Keeps [] w ((w.alloc (.map #[] 0)).alloc (.cells #[.map (some w.heap.size), .slice none 0 0, .int .i64 s.n] 58)) := ((Keeps.refl _ _).alloc _).alloc _
  have h0 := h.keep kb (by simp)
  have z0 : ((w.alloc (.map #[] 0)).alloc (.cells #[.map (some w.heap.size), .slice none 0 0, .int .i64 s.n] 58)).heap.size = w.heap.size + 2 := by simp
  have c0 := h.bp.cell 0
  have c2 := h.bp.cell 2
  have hpl := h.bp.lt
  have d0 := h0.bp.cell 0
  obtain ⟨W0, hW0⟩ : ∃ W0, W0 = (w.alloc (.map #[] 0)).alloc (.cells #[.map (some w.heap.size), .slice none 0 0, .int .i64 s.n] 58) := ⟨_, rfl⟩
  rw [← hW0] at kb h0 z0 hS d0
  obtain ⟨w1, cnt0, hrun, hr, k1, hs1⟩ := h0.bm.range Try.underlying55
  have hbl := h.lt _ _ h.lb
  have I0 : CU w s ks b (w.heap.size + 1) w.heap.size W0.heap.size nb q (fun x => (q x).isSome) cnt0 (lab0 w.heap.size (w.heap.size + 1)) [w.heap.size, w.heap.size + 1] 0 (fun _ => none) w1 :=
    ⟨kb.trans k1 (by simp), hr, hS.keep k1 (by simp), by have := cntL_le ks (fun x => (q x).isSome); omega, fun g hg => by simp at hg; omega, fun x hx => by rw [← h.qsome x]; exact hx⟩
  obtain ⟨ri, hriE⟩ : ∃ ri, ri = W0.heap.size := ⟨_, rfl⟩
  rw [← hriE] at hrun I0
  have hri : w.heap.size ≤ ri := by omega
  have HI0 := Lib.hid I0
  have HH := Lib.hid h
  have OK := Lib.hid ok
  have HKS := Lib.hid hks
  have HRI := Lib.hid hri
  have HBL := Lib.hid hbl
  clear hS kb h0 z0 hr k1 hs1 I0 h ok hks hri hbl hriE hnb
  subst hW0
  go_enter Try.func12, Try.ntmps12
  go_wp2_with fail
  clear hrun d0 c2 hmm
  go_loopw [4] (fun _ wr => ∃ (left : Int → Bool) (cnt : Nat) (L' : Nat → Option Lb) (F' : List Nat) (nb' : Nat) (q' : Int → Option Nat), CU w s ks b (w.heap.size + 1) w.heap.size ri nb q left cnt L' F' nb' q' wr) (fun _ wr => wr.rangeLeft b ri)
  case atStart => exact ⟨_, _, _, _, _, _, HI0.out⟩
  case round =>
    clear HI0
    obtain ⟨left, cnt, L', F', nb', q', I⟩ := hrel
    have hrl := I.hr.left_eq
    have HRL := Lib.hid hrl
    have HII := Lib.hid I
    have HRG := Lib.hid I.hr
    clear I hrl
    obtain ⟨wo, rfl⟩ : ∃ wo : World, wo = wr := ⟨_, rfl⟩
    go_wp2_with (at_next; refine wpList_next_p _ rfl _ rfl b ri nb q left cnt rfl HRG.out ?_ ?_)
    · intro hall
      have hc := HII.out.hc
      rw [part_none hall] at hc
      have hm : nb' ≤ ks.length := by have := HII.out.hn; omega
      have hx := HH.out.keep HII.out.hk (by simp)
      have c1 := hx.bp.cell 1
      have HC := Lib.hid (And.intro hc (And.intro HII.out.hk (And.intro (fun g hg => (HII.out.hf g hg).1) hm)))
      clear hc hm hx HII HRL HRG
      obtain ⟨_, _, hv, -, -, hA⟩ := own_shape HH.out.bo
      obtain ⟨rfl, -, rfl⟩ : A = _ ∧ s.C.length = _ ∧ cap = _ := by injection hv with h1 h2 h3; exact ⟨h1, rfl, h3⟩
      clear hv
      have HI := Lib.hid info59
      have hlen : s.C.length ≤ 64 := OK.out.c
      go_wp2_with fail
      go_loopw [37] (fun i wr => ∃ (j : Nat) (Fj : List Nat) (Lj : Nat → Option Lb) (A' : Option Addr) (cap' : Nat) (c' : List Nat), j ≤ s.C.length ∧ i = .int .i64 j ∧ MmAt wr Fj (w.heap.size + 1) (caches s j) Lj w.heap.size nb' q' A' cap' c' ∧ Keeps [] w wr ∧ (∀ x ∈ Fj, w.heap.size ≤ x)) (fun i _ => s.C.length - (intOf i).toNat)
      case atStart => exact ⟨0, _, _, _, _, _, by omega, rfl, HC.out.1, HC.out.2.1, HC.out.2.2.1⟩
      case round =>
        obtain ⟨j, Fj, Lj, A', cap', c', hj, rfl, I, kp, hF⟩ := hrel
        by_cases hlt : j < s.C.length
        · have hcl := caches_len hj
          have hbp := I.bp
          have hbo := I.bo
          have hpA := I.p_A
          rw [hcl] at hbp hbo hpA
          obtain ⟨k, hk⟩ : ∃ k, s.C[j]? = some k := ⟨_, List.getElem?_eq_getElem hlt⟩
          obtain ⟨G0, r0, hr0, ht0, hg0⟩ := HH.out.cs j k hk
          have hkd : Keeps [] w wr.drew := kp.drew
          have CC := Lib.hid (T13.copy_any wr.drew G0 r0 k (OK.out.k k (List.mem_of_getElem? hk)) (ht0.keep hkd (by simp)))
          obtain ⟨g, rfl⟩ := hA (by omega)
          have ow := own_keep HH.out.bo kp (by simp)
          have y0 := own_cell ow (j := j) (u := .pointer (some ⟨r0, 0, none⟩)) (by rw [List.getElem?_map, hr0]; rfl)
          have HB := Lib.hid hbp.drew
          have HO := Lib.hid (own_drew hbo)
          have HII := Lib.hid I
          have HF := Lib.hid hF
          have HPA := Lib.hid hpA
          have HK := Lib.hid hk
          have HCL := Lib.hid hcl
          have KP := Lib.hid kp
          have hpl2 := hbp.lt
          have d0 : wr.cell? ⟨w.heap.size + 1, 1, none⟩ = some (.slice A' j cap') := hbp.cell 1
          have d0d : wr.drew.cell? ⟨w.heap.size + 1, 1, none⟩ = some (.slice A' j cap') := hbp.cell 1
          clear hbp hbo hpA hcl I hF hk hr0 ht0 hg0 hkd ow kp
          go_wp2_with fail
          go_region_law (first
            | (refine T13.step_call rfl 29 _ _ rfl #[.pointer (some ⟨r0, 0, none⟩)] (by first | (simp [Act.eval]; done) | (simp [Act.eval, Act.put]; done)) (enters_of Try.func29 (by kernel_rfl) rfl) CC.out ?_; rintro e w1 ⟨G, r, rfl, t1, k1, f1⟩; refine ⟨_, rfl, ?_⟩; have b1 := HB.out.keep k1 (by simp); have d1 : w1.cell? ⟨w.heap.size + 1, 1, none⟩ = some (.slice A' j cap') := b1.cell 1; have z1 : w.heap.size + 1 < w1.heap.size := b1.lt; have O1 := Lib.hid (own_keep HO.out k1 (by simp)); have BB := Lib.hid b1; clear b1; have TT := Lib.hid t1; clear t1)
            | (refine step_app (by rfl) (.tmp 45) (.tmp 48) 56 (by rfl) 59 (.pointer none) 1 8 Try.underlying56 HI.out rfl (by omega) (.slice A' j cap') j (c'.map pv) ?_ (own_keep O1.out ((Keeps.refl [] w1).alloc (.cells #[.pointer (some ⟨r, 0, none⟩)] 59)) (by simp)) _ (some ⟨w1.heap.size, 0, none⟩) 1 1 [.pointer (some ⟨r, 0, none⟩)] ?_ (reads_one _ _ 59) (by simp [Value.oneCell']) (by unfold maxLen; omega) (by omega) (fun v8 w8 o8 k8 f8 => ?_); (focus (first | (simp [Act.eval]; done) | (simp [Act.eval, Act.put]; done))); (focus (first | (simp [Act.eval]; done) | (simp [Act.eval, Act.put]; done))); obtain ⟨A8, c8, rfl, -, -, -⟩ := own_shape o8; have b8 := (BB.out.alloc (.cells #[.pointer (some ⟨r, 0, none⟩)] 59)).keep k8 HPA.out; have d8 := b8.cell 1; have g8 := b8.frozen 1))
          all_goals
            rw [← HCL.out] at k8 o8 f8 b8 ⊢
            have HM := Lib.hid (more2_step HII.out KP.out HF.out k1 f1 TT.out k8 o8 f8 (by simp) b8)
            rw [caches_succ HK.out] at HM
            rw [HCL.out] at HM ⊢
            clear HII HF TT k8 o8 f8 b8 f1 k1 O1 BB CC HB HO HPA
            go_wp2
            go_roundw
            case rel =>
              obtain ⟨F', L', m1, m2, m3⟩ := HM.out
              exact ⟨j + 1, F', L', _, _, _, by omega, by go_num, m1, m2, m3⟩
            case measure => simp [intOf]; omega
        · obtain rfl : j = s.C.length := by omega
          go_wp2
          go_ret
          exact ⟨Fj, _, rfl, ⟨Lj, _, nb', _, A', cap', c', I.again_k _, HC.out.2.2.2⟩, kp, hF⟩
    · intro x r w2 cnt' hl hq hr2 hlt2 hk2 hs2 hen
      have hs := HII.out.hl x hl
      obtain ⟨m, hm⟩ := Option.isSome_iff_exists.1 hs
      obtain ⟨G0, r', hr', ht, hg⟩ := HH.out.qs x m hm
      obtain rfl : r = r' := by rw [hq] at hr'; injection hr'
      have hk2' : Keeps [] w w2.drew := ((HII.out.hk.trans hk2 (fun g hg => .inr (by rw [List.mem_singleton.1 hg]; exact HRI.out)))).drew
      have hx := HH.out.ix x (by rw [hq]; rfl)
      have HC := Lib.hid (T12.copy_any w2.drew G0 r m (ht.keep hk2' (by simp)))
      have hpp := (HII.out.hc.keep hk2 (fun g l hg h => by
        rw [List.mem_singleton.1 h] at hg
        exact (HII.out.hf ri (HII.out.hc.inF _ _ hg)).2 rfl)).bp
      have hmp := (HII.out.hc.keep hk2 (fun g l hg h => by
        rw [List.mem_singleton.1 h] at hg
        exact (HII.out.hf ri (HII.out.hc.inF _ _ hg)).2 rfl)).bm
      have e0 := hpp.drew.cell 0
      have hn' := HII.out.hn
      have HB := Lib.hid hpp.drew
      have HM := Lib.hid (hmp.keep ((Keeps.refl [] w2).drew) (by simp))
      have HPUT := Lib.hid (fun w5 w6 G r5 k5 t5 f5 k6 m6 => HII.out.put (w5 := w5) (w6 := w6) (G := G) (r := r5) (HKS.out x hs) hl hm HBL.out HRI.out hr2 hk2 k5 t5 f5 k6 m6 hx.1 hx.2)
      have HLT := Lib.hid (And.intro hlt2 (And.intro hx hn'))
      clear hs hr' ht hg hk2' hx hpp hmp HII hl hq hr2 hk2 hs2 hn' HRG hlt2
      go_wp2_with fail
      go_region_law (first
        | (refine T13.step_call rfl 28 _ _ rfl #[.pointer (some ⟨r, 0, none⟩)] (by first | (simp [Act.eval]; done) | (simp [Act.eval, Act.put]; done)) (enters_of Try.func28 (by kernel_rfl) rfl) HC.out ?_; rintro e w5 ⟨G, r5, rfl, t5, k5, f5⟩; refine ⟨_, rfl, ?_⟩; obtain ⟨w6, hrun, m6, k6⟩ := (HM.out.keep k5 (by simp)).upd (p := r5) HLT.out.2.1.1 HLT.out.2.1.2 (by have := HLT.out.2.2; unfold maxLen; omega) Try.underlying55; have e5 := (HB.out.keep k5 (by simp)).cell 0; have HPD := Lib.hid (HPUT.out w5 w6 G r5 (((Keeps.refl [] w2).drew).trans k5 (by simp)) t5 f5 k6 m6); clear HM HC HPUT HB m6 k6 t5 f5 k5))
      all_goals
        go_wp2_with fail
        go_roundw
        case rel => exact ⟨_, _, _, _, _, _, HPD.out⟩
        case measure => rw [HPD.out.hr.left_eq, HRL.out]; exact HLT.out.1
end Go.Proofs.Yteognipfnbocpaa
