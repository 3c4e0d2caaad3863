/- The texts MV, MW in one. -/
import Derived.Test.YtbllmpcpfmlemaaGreatMU
namespace Go.Proofs.YtbllmpcpfmlemaaGreat
open Go.RowKit
/-- The cells c lie wholly behind the blocks of w, which are as they were. -/
def Own0 (w W : World) (c : Nat) (C : St) : Prop := ∃ F G, Cs W c F G C ∧ (∀ g ∈ F, w.heap.size ≤ g) ∧ Keeps [] w W
/-- Two such, apart. -/
def Two (w W : World) (c d : Nat) (C D : St) : Prop :=
  ∃ F G F2 G2, Cs W c F G C ∧ Cs W d F2 G2 D ∧ (∀ g ∈ F, w.heap.size ≤ g) ∧ (∀ g ∈ F2, w.heap.size ≤ g) ∧ (∀ g ∈ F, g ∉ F2 ∧ g ∉ G2) ∧ (∀ g ∈ F2, g ∉ F ∧ g ∉ G) ∧ Keeps [] w W
section
variable {w W W' : World} {c d : Nat} {C D : St} {P : List Str}
theorem Cs.ltF {F G : List Nat} (h : Cs W c F G C) : ∀ g ∈ F, g < W.heap.size := by obtain ⟨_, _, _, h⟩ := h; exact h.ltF
theorem Cs.ltG {F G : List Nat} (h : Cs W c F G C) : ∀ g ∈ G, g < W.heap.size := by obtain ⟨_, _, _, h⟩ := h; exact h.ltG
theorem Own0.k (h : Own0 w W c C) : Keeps [] w W := by obtain ⟨_, _, _, _, h⟩ := h; exact h
theorem Own0.keep0 (h : Own0 w W c C) (hk : Keeps [] W W') : Own0 w W' c C := by
  obtain ⟨F, G, h1, h2, h3⟩ := h
  exact ⟨F, G, h1.keep0 hk, h2, h3.trans hk (by simp)⟩
theorem Own0.turn {F G : List Nat} (hF : ∀ g ∈ F, w.heap.size ≤ g) (hk : Keeps [] w W) (ht : Turned W W' c F G D) : Own0 w W' c D := by
  obtain ⟨F', G', h1, h2, _, h4⟩ := ht
  refine ⟨F', G', h1, fun g hg => ?_, hk.trans h4 (fun g hg => .inr (hF g hg))⟩
  rcases h2.2 g hg with h5 | h5
  · exact hF g h5
  · exact Nat.le_trans hk.size h5
theorem Own0.calls (h : Own0 w W c C) {f : Nat} {args : Array Value} {R : Ending → World → Prop} (hc : ∀ F G, Cs W c F G C → Calls Tryz.prog f args W fun e w' => R e w' ∧ Turned W w' c F G D) :
    Calls Tryz.prog f args W fun e w' => R e w' ∧ Own0 w w' c D := by
  obtain ⟨F, G, h1, h2, h3⟩ := h
  refine (hc F G h1).mono ?_
  rintro e w' ⟨hr, ht⟩
  exact ⟨hr, Own0.turn h2 h3 ht⟩
end
def sA : Str := [97]
def sAB : Str := [97, 98]
def sX : Str := [120]
def sY : Str := [121]
def sZ : Str := [122]
def s1 : St := (beginP new0 1 0).2
def s2 : St := (beginP s1 2 1).2
def s3 : St := putP s2 0 sA sX
def s4 : St := askP s3 2 sA
def s5 : St := putP s4 0 sA sY
def s6 : St := askP s5 2 sA
def s7 : St := askP s6 1 sA
def s8 : St := putP s7 1 sAB sZ
def s9 : St := askKP s8 1 sA
def s10 : St := askKP s9 0 sA
theorem v0a : (beginP new0 1 0).1 = 0 := by decide
theorem v0b : (beginP s1 2 1).1 = 0 := by decide
theorem v1 : sees s4 2 sA = sX := by decide
theorem v2 : sees s6 2 sA = sX := by decide
theorem v3 : sees s7 1 sA = sY := by decide
theorem v4 : validP s7 2 = false := by decide
theorem v5 : validP s7 1 = true := by decide
theorem v6 : seesKeys s9 1 sA = [sA, sAB] := by decide
theorem v7 : seesKeys s10 0 sA = [sA] := by decide
def sP : List Str := [sA, sAB]
theorem sP_ok : PoolOk sP := ⟨fun s hs => kS_ok (by
  have : s.length ≤ 2 := by
    simp only [sP, List.mem_cons, List.not_mem_nil, or_false] at hs
    rcases hs with rfl | rfl <;> decide
  unfold maxLen; omega), by decide⟩
theorem hA_ : sA ∈ sP := by simp [sP]
theorem hAB_ : sAB ∈ sP := by simp [sP]
theorem w0_ : WF sP new0 := (Fit.new0 sP).wf
theorem w1_ : WF sP s1 := w0_.begin_ (by omega)
theorem w2_ : WF sP s2 := w1_.begin_ (by omega)
theorem w3_ : WF sP s3 := w2_.put 0 sX hA_
theorem w4_ : WF sP s4 := w3_.ask 2 hA_
theorem w5_ : WF sP s5 := w4_.put 0 sY hA_
theorem w6_ : WF sP s6 := w5_.ask 2 hA_
theorem w7_ : WF sP s7 := w6_.ask 1 hA_
theorem w8_ : WF sP s8 := w7_.put 1 sZ hAB_
theorem w9_ : WF sP s9 := w8_.askK 1 hA_
end Go.Proofs.YtbllmpcpfmlemaaGreat
namespace Go.Proofs.YtbllmpcpfmlemaaGreat
open Go.RowKit
theorem sm_begin1 {a W : World} {c : Nat} (h : Own0 a W c new0) : Calls Tryz.prog 34 #[.pointer (some ⟨c, 0, none⟩), .int .i64 1, .int .i64 0] W fun e w' => e = .returned (.int .i64 0) ∧ Own0 a w' c s1 :=
  h.calls (fun F G hC => by
    have h1 := beginOp_any hC w0_.tree (by decide) (i := 1) (p := 0) ⟨by omega, by omega⟩ ⟨by omega, by omega⟩
    rw [v0a] at h1
    exact h1)
theorem sm_begin2 {a W : World} {c : Nat} (h : Own0 a W c s1) : Calls Tryz.prog 34 #[.pointer (some ⟨c, 0, none⟩), .int .i64 2, .int .i64 1] W fun e w' => e = .returned (.int .i64 0) ∧ Own0 a w' c s2 :=
  h.calls (fun F G hC => by
    have h1 := beginOp_any hC w1_.tree (by decide) (i := 2) (p := 1) ⟨by omega, by omega⟩ ⟨by omega, by omega⟩
    rw [v0b] at h1
    exact h1)
theorem sm_put1 {a W : World} {c : Nat} (h : Own0 a W c s2) : Calls Tryz.prog 40 #[.pointer (some ⟨c, 0, none⟩), .int .i64 0, .string ⟨#[97]⟩, .string ⟨#[120]⟩] W fun e w' => e = .returned (.tuple #[]) ∧ Own0 a w' c s3 :=
  h.calls (fun F G hC => by
    have h1 := putOp_any hC w2_ sP_ok (i := 0) ⟨by omega, by omega⟩ sA sX hA_
    exact h1)
theorem sm_get1 {a W : World} {c : Nat} (h : Own0 a W c s3) : Calls Tryz.prog 38 #[.pointer (some ⟨c, 0, none⟩), .int .i64 2, .string ⟨#[97]⟩] W fun e w' => e = .returned (.string ⟨#[120]⟩) ∧ Own0 a w' c s4 :=
  h.calls (fun F G hC => by
    have h1 := get_any hC w3_ sP_ok (i := 2) ⟨by omega, by omega⟩ sA hA_
    rw [show sees (askP s3 2 sA) 2 sA = sX from v1] at h1
    exact h1)
theorem sm_put2 {a W : World} {c : Nat} (h : Own0 a W c s4) : Calls Tryz.prog 40 #[.pointer (some ⟨c, 0, none⟩), .int .i64 0, .string ⟨#[97]⟩, .string ⟨#[121]⟩] W fun e w' => e = .returned (.tuple #[]) ∧ Own0 a w' c s5 :=
  h.calls (fun F G hC => by
    have h1 := putOp_any hC w4_ sP_ok (i := 0) ⟨by omega, by omega⟩ sA sY hA_
    exact h1)
theorem sm_get2 {a W : World} {c : Nat} (h : Own0 a W c s5) : Calls Tryz.prog 38 #[.pointer (some ⟨c, 0, none⟩), .int .i64 2, .string ⟨#[97]⟩] W fun e w' => e = .returned (.string ⟨#[120]⟩) ∧ Own0 a w' c s6 :=
  h.calls (fun F G hC => by
    have h1 := get_any hC w5_ sP_ok (i := 2) ⟨by omega, by omega⟩ sA hA_
    rw [show sees (askP s5 2 sA) 2 sA = sX from v2] at h1
    exact h1)
theorem sm_get3 {a W : World} {c : Nat} (h : Own0 a W c s6) : Calls Tryz.prog 38 #[.pointer (some ⟨c, 0, none⟩), .int .i64 1, .string ⟨#[97]⟩] W fun e w' => e = .returned (.string ⟨#[121]⟩) ∧ Own0 a w' c s7 :=
  h.calls (fun F G hC => by
    have h1 := get_any hC w6_ sP_ok (i := 1) ⟨by omega, by omega⟩ sA hA_
    rw [show sees (askP s6 1 sA) 1 sA = sY from v3] at h1
    exact h1)
theorem sm_put3 {a W : World} {c : Nat} (h : Own0 a W c s7) : Calls Tryz.prog 40 #[.pointer (some ⟨c, 0, none⟩), .int .i64 1, .string ⟨#[97, 98]⟩, .string ⟨#[122]⟩] W fun e w' => e = .returned (.tuple #[]) ∧ Own0 a w' c s8 :=
  h.calls (fun F G hC => by
    have h1 := putOp_any hC w7_ sP_ok (i := 1) ⟨by omega, by omega⟩ sAB sZ hAB_
    exact h1)
theorem sm_keys1 {W : World} {c : Nat} {F G : List Nat} (hC : Cs W c F G s8) : Calls Tryz.prog 39 #[.pointer (some ⟨c, 0, none⟩), .int .i64 1, .string ⟨#[97]⟩] W fun e w' => (∃ v, e = .returned v ∧ w'.ownsRow 0 9 1 v [sA, sAB].length (vs [sA, sAB])) ∧ Turned W w' c F G s9 := by
    have h1 := keysOp_any hC w8_ sP_ok (i := 1) ⟨by omega, by omega⟩ sA hA_
    rw [show seesKeys (askKP s8 1 sA) 1 sA = [sA, sAB] from v6] at h1
    refine h1.mono ?_
    rintro e w' ⟨v, rfl, ho, -, ht⟩
    exact ⟨⟨v, rfl, ho⟩, ht⟩
theorem sm_keys2 {W : World} {c : Nat} {F G : List Nat} (hC : Cs W c F G s9) : Calls Tryz.prog 39 #[.pointer (some ⟨c, 0, none⟩), .int .i64 0, .string ⟨#[97]⟩] W fun e w' => (∃ v, e = .returned v ∧ w'.ownsRow 0 9 1 v [sA].length (vs [sA])) ∧ Turned W w' c F G s10 := by
    have h1 := keysOp_any hC w9_ sP_ok (i := 0) ⟨by omega, by omega⟩ sA hA_
    rw [show seesKeys (askKP s9 0 sA) 0 sA = [sA] from v7] at h1
    refine h1.mono ?_
    rintro e w' ⟨v, rfl, ho, -, ht⟩
    exact ⟨⟨v, rfl, ho⟩, ht⟩
theorem sm_valid1 {a W : World} {c : Nat} (h : Own0 a W c s7) : Calls Tryz.prog 14 #[.pointer (some ⟨c, 0, none⟩), .int .i64 2] W fun e w' => e = .returned (.bool false) ∧ Own0 a w' c s7 := by
  obtain ⟨F, G, h1, h2, h3⟩ := h
  have h4 := valid_any h1 w7_ sP_ok (i := 2) ⟨by omega, by omega⟩
  rw [v4] at h4
  refine h4.mono ?_
  rintro e w' ⟨rfl, k⟩
  exact ⟨rfl, F, G, h1.keep0 k, h2, h3.trans k (by simp)⟩
theorem sm_valid2 {a W : World} {c : Nat} (h : Own0 a W c s7) : Calls Tryz.prog 14 #[.pointer (some ⟨c, 0, none⟩), .int .i64 1] W fun e w' => e = .returned (.bool true) ∧ Own0 a w' c s7 := by
  obtain ⟨F, G, h1, h2, h3⟩ := h
  have h4 := valid_any h1 w7_ sP_ok (i := 1) ⟨by omega, by omega⟩
  rw [v5] at h4
  refine h4.mono ?_
  rintro e w' ⟨rfl, k⟩
  exact ⟨rfl, F, G, h1.keep0 k, h2, h3.trans k (by simp)⟩
theorem sm_same2 {W : World} {v : Value} {b : Nat} (h : W.ownsRow 0 9 1 v [sA, sAB].length (vs [sA, sAB])) (hb : Blk W b 9 #[.string ⟨#[97]⟩, .string ⟨#[97, 98]⟩]) : Calls Tryz.prog 13 #[v, .slice (some ⟨b, 0, none⟩) 2 2] W fun e w' => e = .returned (.bool true) ∧ Keeps [] W w' := by
  obtain ⟨B, cc, rfl, -, -, -⟩ := own_shape h
  have h2 : AtS W (some ⟨b, 0, none⟩) [sA, sAB] := by
    refine ⟨fun _ => ⟨b, 0, rfl, hb.lt, fun k hk => ?_⟩, by decide⟩
    rw [Nat.zero_add, hb.cell]
    match k, hk with
    | 0, _ => rfl
    | 1, _ => rfl
  have h3 := same_any W B (some ⟨b, 0, none⟩) [sA, sAB] [sA, sAB] cc 2 (AtS.of_own h (by decide)) h2
  rw [decide_eq_true (rfl : [sA, sAB] = [sA, sAB])] at h3
  exact h3
theorem sm_same1 {W : World} {v : Value} {b : Nat} (h : W.ownsRow 0 9 1 v [sA].length (vs [sA])) (hb : Blk W b 9 #[.string ⟨#[97]⟩]) : Calls Tryz.prog 13 #[v, .slice (some ⟨b, 0, none⟩) 1 1] W fun e w' => e = .returned (.bool true) ∧ Keeps [] W w' := by
  obtain ⟨B, cc, rfl, -, -, -⟩ := own_shape h
  have h2 : AtS W (some ⟨b, 0, none⟩) [sA] := by
    refine ⟨fun _ => ⟨b, 0, rfl, hb.lt, fun k hk => ?_⟩, by decide⟩
    rw [Nat.zero_add, hb.cell]
    match k, hk with
    | 0, _ => rfl
  have h3 := same_any W B (some ⟨b, 0, none⟩) [sA] [sA] cc 1 (AtS.of_own h (by decide)) h2
  rw [decide_eq_true (rfl : [sA] = [sA])] at h3
  exact h3
set_option maxRecDepth 1000000 in
set_option maxHeartbeats 6400000 in
theorem small_any (w : World) : Calls Tryz.prog 7 #[] w fun e w' => e = .returned (.bool true) ∧ Keeps [] w w' := by
  go_enter Tryz.func7, Tryz.ntmps7
  go_wp2_with fail
  refine (new_any w).mono ?_
  rintro e w0 ⟨c, F, rfl, hc, hF, hk⟩
  have O0 : Hid (Own0 w w0 c new0) := Lib.hid ⟨F, [], hc, hF, hk⟩
  clear hc hF hk
  go_wp2_with fail
  refine (sm_begin1 O0.out).mono ?_
  rintro e w1 ⟨rfl, o1⟩
  have O1 := Lib.hid o1
  clear o1 O0
  go_wp2_with fail
  refine (sm_begin2 O1.out).mono ?_
  rintro e w2 ⟨rfl, o2⟩
  have O2 := Lib.hid o2
  clear o2 O1
  go_wp2_with fail
  refine (sm_put1 O2.out).mono ?_
  rintro e w3 ⟨rfl, o3⟩
  have O3 := Lib.hid o3
  clear o3 O2
  go_wp2_with fail
  refine (sm_get1 O3.out).mono ?_
  rintro e w4 ⟨rfl, o4⟩
  have O4 := Lib.hid o4
  clear o4 O3
  go_wp2_with fail
  refine (sm_put2 O4.out).mono ?_
  rintro e w5 ⟨rfl, o5⟩
  have O5 := Lib.hid o5
  clear o5 O4
  go_wp2_with fail
  refine (sm_get2 O5.out).mono ?_
  rintro e w6 ⟨rfl, o6⟩
  have O6 := Lib.hid o6
  clear o6 O5
  go_wp2_with fail
  refine (sm_get3 O6.out).mono ?_
  rintro e w7 ⟨rfl, o7⟩
  have O7 := Lib.hid o7
  clear o7 O6
  go_wp2_with fail
  refine (sm_valid1 O7.out).mono ?_
  rintro e w8 ⟨rfl, o8⟩
  have O8 := Lib.hid o8
  clear o8 O7
  go_wp2_with fail
  refine (sm_valid2 O8.out).mono ?_
  rintro e w9 ⟨rfl, o9⟩
  have O9 := Lib.hid o9
  clear o9 O8
  go_wp2_with fail
  refine (sm_put3 O9.out).mono ?_
  rintro e w10 ⟨rfl, o10⟩
  have O10 := Lib.hid o10
  clear o10 O9
  go_wp2_with fail
  refine (O10.out.calls (fun F G hC => sm_keys1 hC)).mono ?_
  rintro e w10a ⟨⟨v10, rfl, ho10⟩, o10⟩
  have HO := Lib.hid ho10
  have OA := Lib.hid o10
  clear ho10 o10 O10
  go_wp2_with fail
  have k10 : Keeps [] w10a (w10a.alloc (.cells #[.string ⟨#[97]⟩, .string ⟨#[97, 98]⟩] 9)) := (Keeps.refl [] _).alloc _
  have hs10 := sm_same2 (own_keep HO.out k10 (by simp)) (Blk.new _ _ _)
  have OB := Lib.hid (OA.out.keep0 k10)
  clear HO OA k10
  refine hs10.mono ?_
  clear hs10
  rintro e w11 ⟨rfl, k10⟩
  have O11 := Lib.hid (OB.out.keep0 k10)
  clear OB k10
  go_wp2_with fail
  refine (O11.out.calls (fun F G hC => sm_keys2 hC)).mono ?_
  rintro e w11a ⟨⟨v11, rfl, ho11⟩, o11⟩
  have HO := Lib.hid ho11
  have OA := Lib.hid o11
  clear ho11 o11 O11
  go_wp2_with fail
  have k11 : Keeps [] w11a (w11a.alloc (.cells #[.string ⟨#[97]⟩] 9)) := (Keeps.refl [] _).alloc _
  have hs11 := sm_same1 (own_keep HO.out k11 (by simp)) (Blk.new _ _ _)
  have OB := Lib.hid (OA.out.keep0 k11)
  clear HO OA k11
  refine hs11.mono ?_
  clear hs11
  rintro e w12 ⟨rfl, k11⟩
  have O12 := Lib.hid (OB.out.keep0 k11)
  clear OB k11
  go_wp2_with fail
  go_ret
  exact ⟨rfl, O12.out.k⟩
end Go.Proofs.YtbllmpcpfmlemaaGreat
namespace Go.Proofs.YtbllmpcpfmlemaaGreat
open Go.RowKit
/-- The blocks T are as they were. -/
def Kept (T : List Nat) (W W' : World) : Prop := ∃ K, Keeps K W W' ∧ ∀ g ∈ T, g ∉ K
theorem Kept.own {T : List Nat} {W W' : World} (h : Kept T W W') {e size n : Nat} {v : Value} {xs : List Value} (ho : W.ownsRow 0 e size v n xs) (hv : ∀ g ∈ fp v, g ∈ T) : W'.ownsRow 0 e size v n xs := by
  obtain ⟨K, h1, h2⟩ := h
  exact own_keep ho h1 (fun g hg => h2 g (hv g hg))
section
variable {a W W' : World} {c : Nat} {C D : St} {S T : List Nat} {P : List Str}
end
def TyRow (w : World) (t : TypeId) (g : Nat) : Prop := ∃ cs fr, w.heap[g]? = some (.cells cs t fr)
theorem own_ty {w : World} {t size : Nat} {v : Value} {n : Nat} {xs : List Value} (h : w.ownsRow 0 t size v n xs) : ∀ g ∈ fp v, TyRow w t g := by
  intro g hg
  rcases h.2 with ⟨rfl, _⟩ | ⟨g', cap, cur, rfl, _, hh, _⟩
  · simp at hg
  · simp at hg
    subst hg
    exact ⟨_, _, hh⟩
/-- All strings of the operations. -/
def poolL (L : List Oq) : List Str := L.flatMap (fun q => pool q.x)
theorem few_spec {L : List Oq} {n : Int} (h : fewB L n = true) : (L.length : Int) ≤ n ∧ ∀ q ∈ L, q.x.val.length ≤ 30 ∧ q.x.r.list.length ≤ 10 ∧ ∀ k ∈ pool q.x, k.length ≤ 30 := by
  unfold fewB at h
  rw [Bool.and_eq_true, List.all_eq_true, decide_eq_true_eq] at h
  refine ⟨h.2, fun q hq => ?_⟩
  have h1 := h.1 q hq
  unfold fewO at h1
  simp only [Bool.and_eq_true, decide_eq_true_eq, List.all_eq_true] at h1
  obtain ⟨⟨⟨⟨⟨h3, h4⟩, h6⟩, h7⟩, h8⟩, h9⟩ := h1
  refine ⟨h4, h8, fun k hk => ?_⟩
  unfold pool at hk
  simp only [List.mem_cons] at hk
  rcases hk with rfl | rfl | hk
  · exact h3
  · exact h6
  · exact h9 k hk
theorem poolL_len {L : List Oq} (h : ∀ q ∈ L, q.x.r.list.length ≤ 10) : (poolL L).length ≤ 12 * L.length := by
  induction L with
  | nil => simp [poolL]
  | cons q L ih =>
    have h1 := ih (fun q hq => h q (by simp [hq]))
    have h2 := h q (by simp)
    unfold poolL at h1 ⊢
    rw [List.flatMap_cons, List.length_append]
    have h3 : (pool q.x).length = q.x.r.list.length + 2 := by simp [pool]
    simp only [List.length_cons]
    omega
theorem poolL_short {L : List Oq} {n : Int} (h : fewB L n = true) : ∀ s ∈ poolL L, s.length ≤ 30 := by
  intro s hs
  obtain ⟨q, hq, hs⟩ := List.mem_flatMap.1 hs
  exact ((few_spec h).2 q hq).2.2 s hs
theorem PoolOk.mk' {P : List Str} (h : ∀ s ∈ P, s.length ≤ 30) (hn : P.length ≤ 1000000) : PoolOk P := ⟨fun s hs => kS_ok (by have := h s hs; unfold maxLen; omega), hn⟩
/-- The operations are in order: their strings are of the pool P. -/
def OkL (P : List Str) (L : List Oq) : Prop := ∀ q ∈ L, OkO P q.x ∧ q.x.r.list.length ≤ 1000
theorem OkL.of {w : World} {A : Option Addr} {L : List Oq} {n : Int} {P : List Str} (hA : AtO w A L) (hf : fewB L n = true) (hs : ∀ k ∈ poolL L, k ∈ P) : OkL P L := by
  intro q hq
  obtain ⟨h1, h2, h3, h4⟩ := hA.nn q hq
  obtain ⟨h5, h6, h7⟩ := (few_spec hf).2 q hq
  exact ⟨⟨h1, h2, h3, h4, fun k hk => hs k (List.mem_flatMap.2 ⟨q, hq, hk⟩), by omega⟩, by omega⟩
theorem Fit.hl {P : List Str} {n : Nat} {C : St} (h : Fit P n C) (hn : n ≤ 100000) : C.length ≤ 1000000 := by have := h.len; omega
theorem Fit.hlg {P : List Str} {n : Nat} {C : St} (h : Fit P n C) (hn : n ≤ 100000) : lgSize C ≤ 400000000 := by have := h.lg; omega
section
variable {a W : World} {c n : Nat} {C : St} {S T : List Nat} {P : List Str}
end
end Go.Proofs.YtbllmpcpfmlemaaGreat
namespace Go.Proofs.YtbllmpcpfmlemaaGreat
open Go.RowKit
section
variable {a W W' : World} {c d : Nat} {C D : St} {T : List Nat} {P : List Str}
end
theorem off_ty {W : World} {e e' s s' n n' : Nat} {v v' : Value} {xs xs' : List Value} (h : W.ownsRow 0 e s v n xs) (h' : W.ownsRow 0 e' s' v' n' xs') (hne : e ≠ e') : ∀ g ∈ fp v, g ∉ fp v' := by
  intro g hg hg'
  obtain ⟨cs, fr, h1⟩ := own_ty h g hg
  obtain ⟨cs', fr', h2⟩ := own_ty h' g hg'
  rw [h1] at h2
  injection h2 with h2
  injection h2 with _ h2
  exact hne h2
section
variable {a W W' : World} {c : Nat} {C D : St} {gs : List Str} {qs : List (List Str)} {vg vl : Value} {rs : List Value} {T : List Nat}
end
end Go.Proofs.YtbllmpcpfmlemaaGreat
