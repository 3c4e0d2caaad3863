/- Unmap. -/
import Derived.Test.YtiffjaociblboaaW5
namespace Go.Proofs.Ytiffjaociblboaa
open Go.RowKit

theorem part_low {x : Ar} (h : Vd x) (p : Int) : partA x 0 p = lowA x p ∧ (decide (max 0 x.a < min p (x.a + x.n)) = decide (0 < (lowA x p).n)) := by
  obtain ⟨a0, n1, n2, an, f0, fn, o0⟩ := h
  obtain ⟨a, n, o, f, s, wr⟩ := x
  unfold partA lowA
  dsimp only at *
  have e1 : max 0 a = a := by omega
  rw [e1]
  refine ⟨by congr 1 <;> omega, ?_⟩
  rw [decide_eq_decide]
  omega
theorem part_hig {x : Ar} (h : Vd x) (q : Int) : partA x q 256 = higA x q ∧ (decide (max q x.a < min 256 (x.a + x.n)) = decide (0 < (higA x q).n)) := by
  obtain ⟨a0, n1, n2, an, f0, fn, o0⟩ := h
  obtain ⟨a, n, o, f, s, wr⟩ := x
  unfold partA higA
  dsimp only at *
  have e1 : min 256 (a + n) = a + n := by omega
  rw [e1]
  refine ⟨rfl, ?_⟩
  rw [decide_eq_decide]
  omega
def UnmP (w : World) (A : Option Addr) (L : List Ar) (c : Nat) (p n : Int) (e : Ending) (w' : World) : Prop :=
  (unmE L p n = 0 ∧ ∃ v, e = .returned (.tuple #[v, .int .i64 0]) ∧ OwnL w w' v (unmA L p n)) ∨
  (unmE L p n ≠ 0 ∧ e = .returned (.tuple #[.slice A L.length c, .int .i64 (unmE L p n)]) ∧ Keeps [] w w')
theorem unm_take (L : List Ar) (p n : Int) {k : Nat} (hk : k < L.length) : unmA (L.take (k + 1)) p n = unmA (L.take k) p n ++ cutA p (p + n) L[k] := by
  unfold unmA
  rw [List.take_succ_eq_append_getElem hk, List.flatMap_append, List.flatMap_cons, List.flatMap_nil, List.append_nil]
theorem cut_len (p q : Int) (x : Ar) : (cutA p q x).length ≤ 2 := by
  unfold cutA
  rw [List.length_append]
  split <;> split <;> simp
theorem unm_len (L : List Ar) (p n : Int) : (unmA L p n).length ≤ 2 * L.length := by
  induction L with
  | nil => simp [unmA]
  | cons x r ih =>
    rw [unm_cons, List.length_append, List.length_cons]
    have := cut_len p (p + n) x
    omega
theorem unm_bad (w : World) (A : Option Addr) (L : List Ar) (c : Nat) (p n : Int) (h : unmR p n = false) :
    Calls Try.prog 10 #[.slice A L.length c, .int .i64 p, .int .i64 n] w (UnmP w A L c p n) := by
  have hE : unmE L p n = 3 := by unfold unmE; rw [h]; rfl
  have HE := Lib.hid hE
  have hr : ¬ (0 ≤ p ∧ 1 ≤ n ∧ n ≤ 256 ∧ p ≤ 256 - n) := by unfold unmR at h; simpa using h
  clear h hE
  by_cases g1 : p < 0
  · clear hr
    go_enter Try.func10, Try.ntmps10
    go_wp2_with fail
    go_ret2
    exact .inr ⟨by rw [HE.out]; omega, by rw [HE.out]; rfl, Keeps.refl _ _⟩
  by_cases g2 : n < 1
  · clear hr
    have g1' : 0 ≤ p := by omega
    clear g1
    go_enter Try.func10, Try.ntmps10
    go_wp2_with fail
    go_ret2
    exact .inr ⟨by rw [HE.out]; omega, by rw [HE.out]; rfl, Keeps.refl _ _⟩
  have g1' : 0 ≤ p := by omega
  have g2' : 1 ≤ n := by omega
  by_cases g3 : 256 < n
  · clear hr g1 g2
    go_enter Try.func10, Try.ntmps10
    go_wp2_with fail
    go_ret2
    exact .inr ⟨by rw [HE.out]; omega, by rw [HE.out]; rfl, Keeps.refl _ _⟩
  have g3' : n ≤ 256 := by omega
  have g4 : 256 - n < p := by omega
  clear hr g1 g2 g3
  go_enter Try.func10, Try.ntmps10
  go_wp2_with fail
  go_ret2
  exact .inr ⟨by rw [HE.out]; omega, by rw [HE.out]; rfl, Keeps.refl _ _⟩
theorem runm_bad (w : World) (A : Option Addr) (L : List Ar) (c : Nat) (p n : Int) (h : unmR p n = false) :
    Calls Try.prog 17 #[.slice A L.length c, .int .i64 p, .int .i64 n] w (UnmP w A L c p n) := by
  have hE : unmE L p n = 3 := by unfold unmE; rw [h]; rfl
  have HE := Lib.hid hE
  have hr : ¬ (0 ≤ p ∧ 1 ≤ n ∧ n ≤ 256 ∧ p ≤ 256 - n) := by unfold unmR at h; simpa using h
  clear h hE
  by_cases g1 : p < 0
  · clear hr
    go_enter Try.func17, Try.ntmps17
    go_wp2_with fail
    go_ret2
    exact .inr ⟨by rw [HE.out]; omega, by rw [HE.out]; rfl, Keeps.refl _ _⟩
  by_cases g2 : n < 1
  · clear hr
    have g1' : 0 ≤ p := by omega
    clear g1
    go_enter Try.func17, Try.ntmps17
    go_wp2_with fail
    go_ret2
    exact .inr ⟨by rw [HE.out]; omega, by rw [HE.out]; rfl, Keeps.refl _ _⟩
  have g1' : 0 ≤ p := by omega
  have g2' : 1 ≤ n := by omega
  by_cases g3 : 256 < n
  · clear hr g1 g2
    go_enter Try.func17, Try.ntmps17
    go_wp2_with fail
    go_ret2
    exact .inr ⟨by rw [HE.out]; omega, by rw [HE.out]; rfl, Keeps.refl _ _⟩
  have g3' : n ≤ 256 := by omega
  have g4 : 256 - n < p := by omega
  clear hr g1 g2 g3
  go_enter Try.func17, Try.ntmps17
  go_wp2_with fail
  go_ret2
  exact .inr ⟨by rw [HE.out]; omega, by rw [HE.out]; rfl, Keeps.refl _ _⟩
set_option maxRecDepth 100000 in
set_option maxHeartbeats 6400000 in
theorem unm_ok (w : World) (A : Option Addr) (L : List Ar) (c : Nat) (p n : Int) (ha : AtL w A L) (hv : Vds L) (h : unmR p n = true) :
    Calls Try.prog 10 #[.slice A L.length c, .int .i64 p, .int .i64 n] w (UnmP w A L c p n) := by
  obtain ⟨g1, g2, g3, g4⟩ : 0 ≤ p ∧ 1 ≤ n ∧ n ≤ 256 ∧ p ≤ 256 - n := by unfold unmR at h; simpa using h
  have hm := ha.mx
  have HH := Lib.hid ha
  have HV := Lib.hid hv
  have HI := Lib.hid info24
  have HE : Hid (unmE L p n = if 16 < (unmA L p n).length then 6 else 0) := Lib.hid (by unfold unmE; rw [h]; rfl)
  clear h ha hv
  go_enter Try.func10, Try.ntmps10
  go_wp2_with fail
  go_loopw [8, 34] (fun v i wr => ∃ k : Nat, k ≤ L.length ∧ i = .int .i64 k ∧ OwnL w wr v (unmA (L.take k) p n)) (fun _ i _ => L.length - (intOf i).toNat)
  case atStart => exact ⟨0, by omega, rfl, OwnL.nil (Keeps.refl _ _)⟩
  case round =>
    obtain ⟨k, hk, rfl, O⟩ := hrel
    have HO := Lib.hid O
    have hpl := unm_len (L.take k) p n
    have htl : (L.take k).length ≤ L.length := by rw [List.length_take]; omega
    obtain ⟨Av, cv, rfl⟩ := O.shape
    by_cases hlt : k < L.length
    · have HC := Lib.hid (HH.out.keep O.2.1)
      obtain ⟨bl, off, rfl, hbl, hc⟩ := HC.out.at_ (by omega)
      obtain ⟨c0, c1, c2, c3, c4, c5⟩ := hc k hlt
      have hvk := HV.out _ (List.getElem_mem hlt)
      have hn := unm_take L p n hlt
      obtain ⟨x, hx⟩ : ∃ x, L[k] = x := ⟨_, rfl⟩
      obtain ⟨P, hP⟩ : ∃ P, unmA (L.take k) p n = P := ⟨_, rfl⟩
      rw [hP] at HO hpl hn
      rw [hP]
      rw [hx] at c0 c1 c2 c3 c4 c5 hvk hn
      have q1 := hvk.a0
      have q2 := hvk.n1
      have q3 := hvk.n2
      have q4 := hvk.an
      have q5 := hvk.f0
      have q6 := hvk.fn
      have C1 := fun W => part_any W x 0 p hvk (by omega) (by omega) (by omega) (by omega)
      have C2 := fun W => part_any W x (p + n) 256 hvk (by omega) (by omega) (by omega) (by omega)
      rw [(part_low hvk p).1, (part_low hvk p).2] at C1
      rw [(part_hig hvk (p + n)).1, (part_hig hvk (p + n)).2] at C2
      unfold cutA at hn
      obtain ⟨lo, hlo⟩ : ∃ lo, lowA x p = lo := ⟨_, rfl⟩
      obtain ⟨hi, hhi⟩ : ∃ hi, higA x (p + n) = hi := ⟨_, rfl⟩
      rw [hlo] at C1 hn
      rw [hhi] at C2 hn
      unfold Ar.v at C1 C2
      obtain ⟨xa, xn, xo, xf, xs, xw⟩ := x
      dsimp only at c0 c1 c2 c3 c4 c5 C1 C2 q1 q2 q3 q4 q5 q6
      have HBX := Lib.hid (Blk.new wr 24 #[.int .i64 xa, .int .i64 xn, .string xo, .int .i64 xf, .bool xs, .bool xw])
      have HKX : Hid (Keeps [] wr (wr.alloc (.cells #[.int .i64 xa, .int .i64 xn, .string xo, .int .i64 xf, .bool xs, .bool xw] 24))) := Lib.hid ((Keeps.refl _ _).alloc _)
      clear hx hP hlo hhi hvk hc O hbl
      by_cases l1 : 0 < lo.n <;> by_cases l2 : 0 < hi.n
      · rw [if_pos l1, if_pos l2] at hn
        have HN : Hid (unmA (L.take (k + 1)) p n = P ++ [lo] ++ [hi]) := Lib.hid (by rw [hn]; simp)
        have D1 := C1 (wr.alloc (.cells #[.int .i64 xa, .int .i64 xn, .string xo, .int .i64 xf, .bool xs, .bool xw] 24))
        rw [decide_eq_true l1] at D1
        have HC1 := Lib.hid D1
        have HC2 : Hid (∀ W, Calls Try.prog 30 #[.agg #[.int .i64 xa, .int .i64 xn, .string xo, .int .i64 xf, .bool xs, .bool xw], .int .i64 (p + n), .int .i64 256] W fun e w' => e = .returned (.tuple #[.agg #[.int .i64 hi.a, .int .i64 hi.n, .string hi.o, .int .i64 hi.f, .bool hi.s, .bool hi.w], .bool true]) ∧ Keeps [] W w') := Lib.hid (fun W => by have := C2 W; rwa [decide_eq_true l2] at this)
        clear C1 C2 D1 hn l1 l2
        go_wp2_with fail
        refine HC1.out.mono ?_
        rintro e w1 ⟨rfl, k1⟩
        have bx1 := HBX.out.keep k1 (by simp)
        have K1 : Keeps [] wr w1 := HKX.out.trans k1 (by simp)
        have HK1 := Lib.hid K1
        have HBX1 := Lib.hid bx1
        clear k1 bx1 K1 HC1
        have hr6 := reads_cells (w1.alloc (.cells #[.int .i64 lo.a, .int .i64 lo.n, .string lo.o, .int .i64 lo.f, .bool lo.s, .bool lo.w] 24)) #[.int .i64 lo.a, .int .i64 lo.n, .string lo.o, .int .i64 lo.f, .bool lo.s, .bool lo.w] 1 6 24 rfl
        rw [show (w1.alloc (.cells #[.int .i64 lo.a, .int .i64 lo.n, .string lo.o, .int .i64 lo.f, .bool lo.s, .bool lo.w] 24)).heap.size = w1.heap.size + 1 by simp] at hr6
        have HR6 := Lib.hid hr6
        have KK6 : Keeps [] wr ((w1.alloc (.cells #[.int .i64 lo.a, .int .i64 lo.n, .string lo.o, .int .i64 lo.f, .bool lo.s, .bool lo.w] 24)).alloc (.cells #[.int .i64 lo.a, .int .i64 lo.n, .string lo.o, .int .i64 lo.f, .bool lo.s, .bool lo.w] 24)) := (HK1.out.alloc _).alloc _
        have HO6 := Lib.hid (HO.out.same KK6)
        have HK6 := Lib.hid KK6
        clear hr6 KK6
        go_wp2_with (at_builtin; refine wpList_app _ rfl (.tmp 45) (.tmp 47) _ rfl 24 (.agg #[.int .i64 0, .int .i64 0, .string ⟨#[]⟩, .int .i64 0, .bool false, .bool false]) 6 48 Try.underlying22 HI.out rfl (by omega) (.slice Av P.length cv) _ _ rfl HO6.out.1 _ _ 1 1 (acs lo) rfl HR6.out (acs_one _) (by unfold maxLen; omega) (by omega) ?_)
        intro v6 w6 o6 k6 f6
        have O6 := HO.out.app HK6.out rfl o6 k6 f6 (by simp)
        obtain ⟨P6, hP6⟩ : ∃ z, P ++ [lo] = z := ⟨_, rfl⟩
        rw [hP6] at O6
        have hpl6 : P6.length ≤ 2 * (L.take k).length + 1 := by rw [← hP6, List.length_append]; exact Nat.succ_le_succ hpl
        have HP6 := Lib.hid hP6
        obtain ⟨A6, c6, hv6⟩ := O6.shape
        subst hv6
        have hoff : wr.heap.size ∉ fp (.slice Av P.length cv) := fun hg => Nat.lt_irrefl _ (own_lt HO.out.1 hg)
        have bx6 := (((HBX1.out.alloc (.cells #[.int .i64 lo.a, .int .i64 lo.n, .string lo.o, .int .i64 lo.f, .bool lo.s, .bool lo.w] 24)).alloc (.cells #[.int .i64 lo.a, .int .i64 lo.n, .string lo.o, .int .i64 lo.f, .bool lo.s, .bool lo.w] 24))).keep k6 hoff
        have HO6' := Lib.hid O6
        clear o6 k6 f6 HO6 HR6 HK6 O6 hoff HBX1 hP6
        have HBX6 := Lib.hid bx6
        have c0 := bx6.cell 0
        have c1 := bx6.cell 1
        have c2 := bx6.cell 2
        have c3 := bx6.cell 3
        have c4 := bx6.cell 4
        have c5 := bx6.cell 5
        have HC2' := Lib.hid (HC2.out w6)
        clear bx6
        go_wp2_with fail
        refine HC2'.out.mono ?_
        rintro e w7 ⟨rfl, k7⟩
        have K7 : Keeps [] w6 w7 := k7
        have HK7 := Lib.hid K7
        clear k7 K7 HC2' c0 c1 c2 c3 c4 c5
        have hr8 := reads_cells (w7.alloc (.cells #[.int .i64 hi.a, .int .i64 hi.n, .string hi.o, .int .i64 hi.f, .bool hi.s, .bool hi.w] 24)) #[.int .i64 hi.a, .int .i64 hi.n, .string hi.o, .int .i64 hi.f, .bool hi.s, .bool hi.w] 1 6 24 rfl
        rw [show (w7.alloc (.cells #[.int .i64 hi.a, .int .i64 hi.n, .string hi.o, .int .i64 hi.f, .bool hi.s, .bool hi.w] 24)).heap.size = w7.heap.size + 1 by simp] at hr8
        have HR8 := Lib.hid hr8
        have KK8 : Keeps [] w6 ((w7.alloc (.cells #[.int .i64 hi.a, .int .i64 hi.n, .string hi.o, .int .i64 hi.f, .bool hi.s, .bool hi.w] 24)).alloc (.cells #[.int .i64 hi.a, .int .i64 hi.n, .string hi.o, .int .i64 hi.f, .bool hi.s, .bool hi.w] 24)) := (HK7.out.alloc _).alloc _
        have HO8 := Lib.hid (HO6'.out.same KK8)
        have HK8 := Lib.hid KK8
        clear hr8 KK8
        go_wp2_with (at_builtin; refine wpList_app _ rfl (.tmp 58) (.tmp 60) _ rfl 24 (.agg #[.int .i64 0, .int .i64 0, .string ⟨#[]⟩, .int .i64 0, .bool false, .bool false]) 6 48 Try.underlying22 HI.out rfl (by omega) (.slice A6 P6.length c6) _ _ rfl HO8.out.1 _ _ 1 1 (acs hi) rfl HR8.out (acs_one _) (by unfold maxLen; omega) (by omega) ?_)
        intro v8 w8 o8 k8 f8
        have O8 := HO6'.out.app HK8.out rfl o8 k8 f8 (by simp)
        have HF := Lib.hid O8
        clear o8 k8 f8 HO8 HR8 HK8 O8
        go_wp2_with fail
        go_roundw
        case rel => exact ⟨k + 1, by omega, by go_num, by rw [HN.out, HP6.out]; exact HF.out⟩
        case measure => simp [intOf]; omega
      · rw [if_pos l1, if_neg l2] at hn
        have HN : Hid (unmA (L.take (k + 1)) p n = P ++ [lo]) := Lib.hid (by rw [hn]; simp)
        have D1 := C1 (wr.alloc (.cells #[.int .i64 xa, .int .i64 xn, .string xo, .int .i64 xf, .bool xs, .bool xw] 24))
        rw [decide_eq_true l1] at D1
        have HC1 := Lib.hid D1
        have HC2 : Hid (∀ W, Calls Try.prog 30 #[.agg #[.int .i64 xa, .int .i64 xn, .string xo, .int .i64 xf, .bool xs, .bool xw], .int .i64 (p + n), .int .i64 256] W fun e w' => e = .returned (.tuple #[.agg #[.int .i64 hi.a, .int .i64 hi.n, .string hi.o, .int .i64 hi.f, .bool hi.s, .bool hi.w], .bool false]) ∧ Keeps [] W w') := Lib.hid (fun W => by have := C2 W; rwa [decide_eq_false l2] at this)
        clear C1 C2 D1 hn l1 l2
        go_wp2_with fail
        refine HC1.out.mono ?_
        rintro e w1 ⟨rfl, k1⟩
        have bx1 := HBX.out.keep k1 (by simp)
        have K1 : Keeps [] wr w1 := HKX.out.trans k1 (by simp)
        have HK1 := Lib.hid K1
        have HBX1 := Lib.hid bx1
        clear k1 bx1 K1 HC1
        have hr6 := reads_cells (w1.alloc (.cells #[.int .i64 lo.a, .int .i64 lo.n, .string lo.o, .int .i64 lo.f, .bool lo.s, .bool lo.w] 24)) #[.int .i64 lo.a, .int .i64 lo.n, .string lo.o, .int .i64 lo.f, .bool lo.s, .bool lo.w] 1 6 24 rfl
        rw [show (w1.alloc (.cells #[.int .i64 lo.a, .int .i64 lo.n, .string lo.o, .int .i64 lo.f, .bool lo.s, .bool lo.w] 24)).heap.size = w1.heap.size + 1 by simp] at hr6
        have HR6 := Lib.hid hr6
        have KK6 : Keeps [] wr ((w1.alloc (.cells #[.int .i64 lo.a, .int .i64 lo.n, .string lo.o, .int .i64 lo.f, .bool lo.s, .bool lo.w] 24)).alloc (.cells #[.int .i64 lo.a, .int .i64 lo.n, .string lo.o, .int .i64 lo.f, .bool lo.s, .bool lo.w] 24)) := (HK1.out.alloc _).alloc _
        have HO6 := Lib.hid (HO.out.same KK6)
        have HK6 := Lib.hid KK6
        clear hr6 KK6
        go_wp2_with (at_builtin; refine wpList_app _ rfl (.tmp 45) (.tmp 47) _ rfl 24 (.agg #[.int .i64 0, .int .i64 0, .string ⟨#[]⟩, .int .i64 0, .bool false, .bool false]) 6 48 Try.underlying22 HI.out rfl (by omega) (.slice Av P.length cv) _ _ rfl HO6.out.1 _ _ 1 1 (acs lo) rfl HR6.out (acs_one _) (by unfold maxLen; omega) (by omega) ?_)
        intro v6 w6 o6 k6 f6
        have O6 := HO.out.app HK6.out rfl o6 k6 f6 (by simp)
        obtain ⟨P6, hP6⟩ : ∃ z, P ++ [lo] = z := ⟨_, rfl⟩
        rw [hP6] at O6
        have hpl6 : P6.length ≤ 2 * (L.take k).length + 1 := by rw [← hP6, List.length_append]; exact Nat.succ_le_succ hpl
        have HP6 := Lib.hid hP6
        obtain ⟨A6, c6, hv6⟩ := O6.shape
        subst hv6
        have hoff : wr.heap.size ∉ fp (.slice Av P.length cv) := fun hg => Nat.lt_irrefl _ (own_lt HO.out.1 hg)
        have bx6 := (((HBX1.out.alloc (.cells #[.int .i64 lo.a, .int .i64 lo.n, .string lo.o, .int .i64 lo.f, .bool lo.s, .bool lo.w] 24)).alloc (.cells #[.int .i64 lo.a, .int .i64 lo.n, .string lo.o, .int .i64 lo.f, .bool lo.s, .bool lo.w] 24))).keep k6 hoff
        have HO6' := Lib.hid O6
        clear o6 k6 f6 HO6 HR6 HK6 O6 hoff HBX1 hP6
        have HBX6 := Lib.hid bx6
        have c0 := bx6.cell 0
        have c1 := bx6.cell 1
        have c2 := bx6.cell 2
        have c3 := bx6.cell 3
        have c4 := bx6.cell 4
        have c5 := bx6.cell 5
        have HC2' := Lib.hid (HC2.out w6)
        clear bx6
        go_wp2_with fail
        refine HC2'.out.mono ?_
        rintro e w7 ⟨rfl, k7⟩
        have K7 : Keeps [] w6 w7 := k7
        have HK7 := Lib.hid K7
        clear k7 K7 HC2' c0 c1 c2 c3 c4 c5
        have HF := Lib.hid (HO6'.out.same (HK7.out.alloc (.cells #[.int .i64 hi.a, .int .i64 hi.n, .string hi.o, .int .i64 hi.f, .bool hi.s, .bool hi.w] 24)))
        go_wp2_with fail
        go_roundw
        case rel => exact ⟨k + 1, by omega, by go_num, by rw [HN.out, HP6.out]; exact HF.out⟩
        case measure => simp [intOf]; omega
      · rw [if_neg l1, if_pos l2] at hn
        have HN : Hid (unmA (L.take (k + 1)) p n = P ++ [hi]) := Lib.hid (by rw [hn]; simp)
        have D1 := C1 (wr.alloc (.cells #[.int .i64 xa, .int .i64 xn, .string xo, .int .i64 xf, .bool xs, .bool xw] 24))
        rw [decide_eq_false l1] at D1
        have HC1 := Lib.hid D1
        have HC2 : Hid (∀ W, Calls Try.prog 30 #[.agg #[.int .i64 xa, .int .i64 xn, .string xo, .int .i64 xf, .bool xs, .bool xw], .int .i64 (p + n), .int .i64 256] W fun e w' => e = .returned (.tuple #[.agg #[.int .i64 hi.a, .int .i64 hi.n, .string hi.o, .int .i64 hi.f, .bool hi.s, .bool hi.w], .bool true]) ∧ Keeps [] W w') := Lib.hid (fun W => by have := C2 W; rwa [decide_eq_true l2] at this)
        clear C1 C2 D1 hn l1 l2
        go_wp2_with fail
        refine HC1.out.mono ?_
        rintro e w1 ⟨rfl, k1⟩
        have bx1 := HBX.out.keep k1 (by simp)
        have K1 : Keeps [] wr w1 := HKX.out.trans k1 (by simp)
        have HK1 := Lib.hid K1
        have bx6 := bx1.alloc (.cells #[.int .i64 lo.a, .int .i64 lo.n, .string lo.o, .int .i64 lo.f, .bool lo.s, .bool lo.w] 24)
        clear k1 bx1 K1 HC1
        have HBX6 := Lib.hid bx6
        have c0 := bx6.cell 0
        have c1 := bx6.cell 1
        have c2 := bx6.cell 2
        have c3 := bx6.cell 3
        have c4 := bx6.cell 4
        have c5 := bx6.cell 5
        have HC2' := Lib.hid (HC2.out (w1.alloc (.cells #[.int .i64 lo.a, .int .i64 lo.n, .string lo.o, .int .i64 lo.f, .bool lo.s, .bool lo.w] 24)))
        clear bx6
        go_wp2_with fail
        refine HC2'.out.mono ?_
        rintro e w7 ⟨rfl, k7⟩
        have K7 : Keeps [] wr w7 := (HK1.out.alloc _).trans k7 (by simp)
        have HK7 := Lib.hid K7
        clear k7 K7 HC2' c0 c1 c2 c3 c4 c5
        have hr8 := reads_cells (w7.alloc (.cells #[.int .i64 hi.a, .int .i64 hi.n, .string hi.o, .int .i64 hi.f, .bool hi.s, .bool hi.w] 24)) #[.int .i64 hi.a, .int .i64 hi.n, .string hi.o, .int .i64 hi.f, .bool hi.s, .bool hi.w] 1 6 24 rfl
        rw [show (w7.alloc (.cells #[.int .i64 hi.a, .int .i64 hi.n, .string hi.o, .int .i64 hi.f, .bool hi.s, .bool hi.w] 24)).heap.size = w7.heap.size + 1 by simp] at hr8
        have HR8 := Lib.hid hr8
        have KK8 : Keeps [] wr ((w7.alloc (.cells #[.int .i64 hi.a, .int .i64 hi.n, .string hi.o, .int .i64 hi.f, .bool hi.s, .bool hi.w] 24)).alloc (.cells #[.int .i64 hi.a, .int .i64 hi.n, .string hi.o, .int .i64 hi.f, .bool hi.s, .bool hi.w] 24)) := (HK7.out.alloc _).alloc _
        have HO8 := Lib.hid (HO.out.same KK8)
        have HK8 := Lib.hid KK8
        clear hr8 KK8
        go_wp2_with (at_builtin; refine wpList_app _ rfl (.tmp 58) (.tmp 60) _ rfl 24 (.agg #[.int .i64 0, .int .i64 0, .string ⟨#[]⟩, .int .i64 0, .bool false, .bool false]) 6 48 Try.underlying22 HI.out rfl (by omega) (.slice Av P.length cv) _ _ rfl HO8.out.1 _ _ 1 1 (acs hi) rfl HR8.out (acs_one _) (by unfold maxLen; omega) (by omega) ?_)
        intro v8 w8 o8 k8 f8
        have O8 := HO.out.app HK8.out rfl o8 k8 f8 (by simp)
        have HF := Lib.hid O8
        clear o8 k8 f8 HO8 HR8 HK8 O8
        go_wp2_with fail
        go_roundw
        case rel => exact ⟨k + 1, by omega, by go_num, by rw [HN.out]; exact HF.out⟩
        case measure => simp [intOf]; omega
      · rw [if_neg l1, if_neg l2] at hn
        have HN : Hid (unmA (L.take (k + 1)) p n = P) := Lib.hid (by rw [hn]; simp)
        have D1 := C1 (wr.alloc (.cells #[.int .i64 xa, .int .i64 xn, .string xo, .int .i64 xf, .bool xs, .bool xw] 24))
        rw [decide_eq_false l1] at D1
        have HC1 := Lib.hid D1
        have HC2 : Hid (∀ W, Calls Try.prog 30 #[.agg #[.int .i64 xa, .int .i64 xn, .string xo, .int .i64 xf, .bool xs, .bool xw], .int .i64 (p + n), .int .i64 256] W fun e w' => e = .returned (.tuple #[.agg #[.int .i64 hi.a, .int .i64 hi.n, .string hi.o, .int .i64 hi.f, .bool hi.s, .bool hi.w], .bool false]) ∧ Keeps [] W w') := Lib.hid (fun W => by have := C2 W; rwa [decide_eq_false l2] at this)
        clear C1 C2 D1 hn l1 l2
        go_wp2_with fail
        refine HC1.out.mono ?_
        rintro e w1 ⟨rfl, k1⟩
        have bx1 := HBX.out.keep k1 (by simp)
        have K1 : Keeps [] wr w1 := HKX.out.trans k1 (by simp)
        have HK1 := Lib.hid K1
        have bx6 := bx1.alloc (.cells #[.int .i64 lo.a, .int .i64 lo.n, .string lo.o, .int .i64 lo.f, .bool lo.s, .bool lo.w] 24)
        clear k1 bx1 K1 HC1
        have HBX6 := Lib.hid bx6
        have c0 := bx6.cell 0
        have c1 := bx6.cell 1
        have c2 := bx6.cell 2
        have c3 := bx6.cell 3
        have c4 := bx6.cell 4
        have c5 := bx6.cell 5
        have HC2' := Lib.hid (HC2.out (w1.alloc (.cells #[.int .i64 lo.a, .int .i64 lo.n, .string lo.o, .int .i64 lo.f, .bool lo.s, .bool lo.w] 24)))
        clear bx6
        go_wp2_with fail
        refine HC2'.out.mono ?_
        rintro e w7 ⟨rfl, k7⟩
        have K7 : Keeps [] wr w7 := (HK1.out.alloc _).trans k7 (by simp)
        have HK7 := Lib.hid K7
        clear k7 K7 HC2' c0 c1 c2 c3 c4 c5
        have HF := Lib.hid (HO.out.same (HK7.out.alloc (.cells #[.int .i64 hi.a, .int .i64 hi.n, .string hi.o, .int .i64 hi.f, .bool hi.s, .bool hi.w] 24)))
        go_wp2_with fail
        go_roundw
        case rel => exact ⟨k + 1, by omega, by go_num, by rw [HN.out]; exact HF.out⟩
        case measure => simp [intOf]; omega
    · obtain rfl : k = L.length := by omega
      rw [List.take_length] at HO hpl ⊢
      clear O
      by_cases h16 : 16 < (unmA L p n).length
      · have HE2 : Hid (unmE L p n = 6) := Lib.hid (by rw [HE.out, if_pos h16])
        have hp0 : (16 : Int) < ((unmA L p n).length : Int) := by omega
        obtain ⟨PL, hPL⟩ : ∃ z, z = (unmA L p n).length := ⟨_, rfl⟩
        rw [← hPL] at h16 hp0 hpl ⊢
        clear hPL
        go_wp2_with fail
        go_ret2
        exact .inr ⟨by rw [HE2.out]; omega, by rw [HE2.out]; rfl, HO.out.2.1⟩
      · have HE2 : Hid (unmE L p n = 0) := Lib.hid (by rw [HE.out, if_neg h16])
        have hp0 : ((unmA L p n).length : Int) ≤ 16 := by omega
        obtain ⟨P2, hP2⟩ : ∃ z, z = unmA L p n := ⟨_, rfl⟩
        have HP2 := Lib.hid hP2
        rw [← hP2] at h16 hp0 hpl HO ⊢
        clear hP2
        go_wp2_with fail
        go_ret2
        exact .inl ⟨HE2.out, _, rfl, by rw [← HP2.out]; exact HO.out⟩
end Go.Proofs.Ytiffjaociblboaa
