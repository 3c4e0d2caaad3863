/- Texts of the elder seat, turned to this one: W41 W42 W43. -/
import Derived.Test.YtbllmpcpfmlemaaGreatMU
namespace Go.Proofs.YtbllmpcpfmlemaaGreat
open Go.RowKit

/-- The cells c lie wholly behind the blocks of w, which are as they were. -/
def Own0 (w W : World) (c : Nat) (C : St) : Prop := ∃ F G, Cs W c F G C ∧ (∀ g ∈ F, w.heap.size ≤ g) ∧ Keeps [] w W
/-- Two such, apart. -/
def Two (w W : World) (c d : Nat) (C D : St) : Prop :=
  ∃ F G F2 G2, Cs W c F G C ∧ Cs W d F2 G2 D ∧ (∀ g ∈ F, w.heap.size ≤ g) ∧ (∀ g ∈ F2, w.heap.size ≤ g) ∧ (∀ g ∈ F, g ∉ F2 ∧ g ∉ G2) ∧ (∀ g ∈ F2, g ∉ F ∧ g ∉ G) ∧ Keeps [] w W
section
variable {w W W' : World} {c d : Nat} {C D : St} {P : List Str}
theorem Cs.ltF {F G : List Nat} (h : Cs W c F G C) : ∀ g ∈ F, g < W.heap.size := by obtain ⟨_, _, _, h⟩ := h; exact h.ltF
theorem Cs.ltG {F G : List Nat} (h : Cs W c F G C) : ∀ g ∈ G, g < W.heap.size := by obtain ⟨_, _, _, h⟩ := h; exact h.ltG
theorem Cs.off {F G : List Nat} (h : Cs W c F G C) : ∀ g ∈ G, g ∉ F := by obtain ⟨_, _, _, h⟩ := h; exact h.apart
theorem Own0.k (h : Own0 w W c C) : Keeps [] w W := by obtain ⟨_, _, _, _, h⟩ := h; exact h
theorem Own0.keep0 (h : Own0 w W c C) (hk : Keeps [] W W') : Own0 w W' c C := by
  obtain ⟨F, G, h1, h2, h3⟩ := h
  exact ⟨F, G, h1.keep0 hk, h2, h3.trans hk (by simp)⟩
theorem Own0.turn {F G : List Nat} (hF : ∀ g ∈ F, w.heap.size ≤ g) (hk : Keeps [] w W) (ht : Turned W W' c F G D) : Own0 w W' c D := by
  obtain ⟨F', G', h1, h2, _, h4⟩ := ht
  refine ⟨F', G', h1, fun g hg => ?_, hk.trans h4 (fun g hg => .inr (hF g hg))⟩
  rcases h2.2 g hg with h5 | h5
  · exact hF g h5
  · exact Nat.le_trans hk.size h5
theorem Own0.calls (h : Own0 w W c C) {f : Nat} {args : Array Value} {R : Ending → World → Prop} (hc : ∀ F G, Cs W c F G C → Calls Tryz.prog f args W fun e w' => R e w' ∧ Turned W w' c F G D) :
    Calls Tryz.prog f args W fun e w' => R e w' ∧ Own0 w w' c D := by
  obtain ⟨F, G, h1, h2, h3⟩ := h
  refine (hc F G h1).mono ?_
  rintro e w' ⟨hr, ht⟩
  exact ⟨hr, Own0.turn h2 h3 ht⟩
theorem Two.k (h : Two w W c d C D) : Keeps [] w W := by obtain ⟨_, _, _, _, _, _, _, _, _, _, h⟩ := h; exact h
theorem Two.symm (h : Two w W c d C D) : Two w W d c D C := by
  obtain ⟨F, G, F2, G2, h1, h2, h3, h4, h5, h6, h7⟩ := h
  exact ⟨F2, G2, F, G, h2, h1, h4, h3, h6, h5, h7⟩
theorem Two.left (h : Two w W c d C D) : Own0 w W c C := by
  obtain ⟨F, G, F2, G2, h1, h2, h3, h4, h5, h6, h7⟩ := h
  exact ⟨F, G, h1, h3, h7⟩
theorem Two.right (h : Two w W c d C D) : Own0 w W d D := h.symm.left
theorem Two.keep0 (h : Two w W c d C D) (hk : Keeps [] W W') : Two w W' c d C D := by
  obtain ⟨F, G, F2, G2, h1, h2, h3, h4, h5, h6, h7⟩ := h
  exact ⟨F, G, F2, G2, h1.keep0 hk, h2.keep0 hk, h3, h4, h5, h6, h7.trans hk (by simp)⟩
theorem Two.calls (h : Two w W c d C D) {E : St} {f : Nat} {args : Array Value} {R : Ending → World → Prop} (hc : ∀ F G, Cs W c F G C → Calls Tryz.prog f args W fun e w' => R e w' ∧ Turned W w' c F G E) :
    Calls Tryz.prog f args W fun e w' => R e w' ∧ Two w w' c d E D := by
  obtain ⟨F, G, F2, G2, h1, h2, h3, h4, h5, h6, h7⟩ := h
  refine (hc F G h1).mono ?_
  rintro e w' ⟨hr, F', G', k1, k2, k3, k4⟩
  refine ⟨hr, F', G', F2, G2, k1, h2.keep k4 (fun g hg => (h5 g hg).1) (fun g hg => (h5 g hg).2), fun g hg => ?_, h4, fun g hg => ?_, fun g hg => ?_, h7.trans k4 (fun g hg => .inr (h3 g hg))⟩
  · rcases k2.2 g hg with h | h
    · exact h3 g h
    · exact Nat.le_trans h7.size h
  · rcases k2.2 g hg with h | h
    · exact h5 g h
    · exact ⟨fun h' => by have := h2.ltF g h'; omega, fun h' => by have := h2.ltG g h'; omega⟩
  · constructor
    · intro h'
      rcases k2.2 g h' with h | h
      · exact (h6 g hg).1 h
      · have := h2.ltF g hg; omega
    · intro h'
      rcases k3.2 g h' with h | h
      · exact (h6 g hg).2 h
      · have := h2.ltF g hg; omega
/-- A copy, beside. -/
theorem Own0.copy (h : Own0 w W c C) (hW : WF P C) (hP : PoolOk P) (hl : C.length ≤ 1000000) :
    Calls Tryz.prog 33 #[.pointer (some ⟨c, 0, none⟩)] W fun e w' => ∃ c2, e = .returned (.pointer (some ⟨c2, 0, none⟩)) ∧ Two w w' c c2 C C ∧ Own0 W w' c2 C := by
  obtain ⟨F, G, h1, h2, h3⟩ := h
  refine (copy_any h1 hW hP hl).mono ?_
  rintro e w' ⟨c2, F2, rfl, k1, k2, k3⟩
  refine ⟨c2, rfl, ⟨F, G, F2, G, h1.keep0 k3, k1, h2, fun g hg => Nat.le_trans h3.size (k2 g hg), fun g hg => ⟨fun h' => ?_, fun h' => h1.off g h' hg⟩, fun g hg => ⟨fun h' => ?_, fun h' => ?_⟩, h3.trans k3 (by simp)⟩, F2, G, k1, k2, k3⟩
  · have := h1.ltF g hg; have := k2 g h'; omega
  · have := h1.ltF g h'; have := k2 g hg; omega
  · have := h1.ltG g h'; have := k2 g hg; omega
end
def sA : Str := [97]
def sAB : Str := [97, 98]
def sX : Str := [120]
def sY : Str := [121]
def sZ : Str := [122]
def s1 : St := (beginP new0 1 0).2
def s2 : St := (beginP s1 2 1).2
def s3 : St := putP s2 0 sA sX
def s4 : St := askP s3 2 sA
def s5 : St := putP s4 0 sA sY
def s6 : St := askP s5 2 sA
def s7 : St := askP s6 1 sA
def s8 : St := putP s7 1 sAB sZ
def s9 : St := askKP s8 1 sA
def s10 : St := askKP s9 0 sA
theorem v0a : (beginP new0 1 0).1 = 0 := by decide
theorem v0b : (beginP s1 2 1).1 = 0 := by decide
theorem v1 : sees s4 2 sA = sX := by decide
theorem v2 : sees s6 2 sA = sX := by decide
theorem v3 : sees s7 1 sA = sY := by decide
theorem v4 : validP s7 2 = false := by decide
theorem v5 : validP s7 1 = true := by decide
theorem v6 : seesKeys s9 1 sA = [sA, sAB] := by decide
theorem v7 : seesKeys s10 0 sA = [sA] := by decide
def sP : List Str := [sA, sAB]
theorem sP_ok : PoolOk sP := ⟨fun s hs => kS_ok (by
  have : s.length ≤ 2 := by
    simp only [sP, List.mem_cons, List.not_mem_nil, or_false] at hs
    rcases hs with rfl | rfl <;> decide
  unfold maxLen; omega), by decide⟩
theorem hA_ : sA ∈ sP := by simp [sP]
theorem hAB_ : sAB ∈ sP := by simp [sP]
theorem w0_ : WF sP new0 := (Fit.new0 sP).wf
theorem w1_ : WF sP s1 := w0_.begin_ (by omega)
theorem w2_ : WF sP s2 := w1_.begin_ (by omega)
theorem w3_ : WF sP s3 := w2_.put 0 sX hA_
theorem w4_ : WF sP s4 := w3_.ask 2 hA_
theorem w5_ : WF sP s5 := w4_.put 0 sY hA_
theorem w6_ : WF sP s6 := w5_.ask 2 hA_
theorem w7_ : WF sP s7 := w6_.ask 1 hA_
theorem w8_ : WF sP s8 := w7_.put 1 sZ hAB_
theorem w9_ : WF sP s9 := w8_.askK 1 hA_
end Go.Proofs.YtbllmpcpfmlemaaGreat
namespace Go.Proofs.YtbllmpcpfmlemaaGreat
open Go.RowKit

theorem sm_begin1 {a W : World} {c : Nat} (h : Own0 a W c new0) : Calls Tryz.prog 34 #[.pointer (some ⟨c, 0, none⟩), .int .i64 1, .int .i64 0] W fun e w' => e = .returned (.int .i64 0) ∧ Own0 a w' c s1 :=
  h.calls (fun F G hC => by
    have h1 := beginOp_any hC w0_.tree (by decide) (i := 1) (p := 0) ⟨by omega, by omega⟩ ⟨by omega, by omega⟩
    rw [v0a] at h1
    exact h1)
theorem sm_begin2 {a W : World} {c : Nat} (h : Own0 a W c s1) : Calls Tryz.prog 34 #[.pointer (some ⟨c, 0, none⟩), .int .i64 2, .int .i64 1] W fun e w' => e = .returned (.int .i64 0) ∧ Own0 a w' c s2 :=
  h.calls (fun F G hC => by
    have h1 := beginOp_any hC w1_.tree (by decide) (i := 2) (p := 1) ⟨by omega, by omega⟩ ⟨by omega, by omega⟩
    rw [v0b] at h1
    exact h1)
theorem sm_put1 {a W : World} {c : Nat} (h : Own0 a W c s2) : Calls Tryz.prog 40 #[.pointer (some ⟨c, 0, none⟩), .int .i64 0, .string ⟨#[97]⟩, .string ⟨#[120]⟩] W fun e w' => e = .returned (.tuple #[]) ∧ Own0 a w' c s3 :=
  h.calls (fun F G hC => by
    have h1 := putOp_any hC w2_ sP_ok (i := 0) ⟨by omega, by omega⟩ sA sX hA_
    exact h1)
theorem sm_get1 {a W : World} {c : Nat} (h : Own0 a W c s3) : Calls Tryz.prog 38 #[.pointer (some ⟨c, 0, none⟩), .int .i64 2, .string ⟨#[97]⟩] W fun e w' => e = .returned (.string ⟨#[120]⟩) ∧ Own0 a w' c s4 :=
  h.calls (fun F G hC => by
    have h1 := get_any hC w3_ sP_ok (i := 2) ⟨by omega, by omega⟩ sA hA_
    rw [show sees (askP s3 2 sA) 2 sA = sX from v1] at h1
    exact h1)
theorem sm_put2 {a W : World} {c : Nat} (h : Own0 a W c s4) : Calls Tryz.prog 40 #[.pointer (some ⟨c, 0, none⟩), .int .i64 0, .string ⟨#[97]⟩, .string ⟨#[121]⟩] W fun e w' => e = .returned (.tuple #[]) ∧ Own0 a w' c s5 :=
  h.calls (fun F G hC => by
    have h1 := putOp_any hC w4_ sP_ok (i := 0) ⟨by omega, by omega⟩ sA sY hA_
    exact h1)
theorem sm_get2 {a W : World} {c : Nat} (h : Own0 a W c s5) : Calls Tryz.prog 38 #[.pointer (some ⟨c, 0, none⟩), .int .i64 2, .string ⟨#[97]⟩] W fun e w' => e = .returned (.string ⟨#[120]⟩) ∧ Own0 a w' c s6 :=
  h.calls (fun F G hC => by
    have h1 := get_any hC w5_ sP_ok (i := 2) ⟨by omega, by omega⟩ sA hA_
    rw [show sees (askP s5 2 sA) 2 sA = sX from v2] at h1
    exact h1)
theorem sm_get3 {a W : World} {c : Nat} (h : Own0 a W c s6) : Calls Tryz.prog 38 #[.pointer (some ⟨c, 0, none⟩), .int .i64 1, .string ⟨#[97]⟩] W fun e w' => e = .returned (.string ⟨#[121]⟩) ∧ Own0 a w' c s7 :=
  h.calls (fun F G hC => by
    have h1 := get_any hC w6_ sP_ok (i := 1) ⟨by omega, by omega⟩ sA hA_
    rw [show sees (askP s6 1 sA) 1 sA = sY from v3] at h1
    exact h1)
theorem sm_put3 {a W : World} {c : Nat} (h : Own0 a W c s7) : Calls Tryz.prog 40 #[.pointer (some ⟨c, 0, none⟩), .int .i64 1, .string ⟨#[97, 98]⟩, .string ⟨#[122]⟩] W fun e w' => e = .returned (.tuple #[]) ∧ Own0 a w' c s8 :=
  h.calls (fun F G hC => by
    have h1 := putOp_any hC w7_ sP_ok (i := 1) ⟨by omega, by omega⟩ sAB sZ hAB_
    exact h1)
theorem sm_keys1 {W : World} {c : Nat} {F G : List Nat} (hC : Cs W c F G s8) : Calls Tryz.prog 39 #[.pointer (some ⟨c, 0, none⟩), .int .i64 1, .string ⟨#[97]⟩] W fun e w' => (∃ v, e = .returned v ∧ w'.ownsRow 0 9 1 v [sA, sAB].length (vs [sA, sAB])) ∧ Turned W w' c F G s9 := by
    have h1 := keysOp_any hC w8_ sP_ok (i := 1) ⟨by omega, by omega⟩ sA hA_
    rw [show seesKeys (askKP s8 1 sA) 1 sA = [sA, sAB] from v6] at h1
    refine h1.mono ?_
    rintro e w' ⟨v, rfl, ho, -, ht⟩
    exact ⟨⟨v, rfl, ho⟩, ht⟩
theorem sm_keys2 {W : World} {c : Nat} {F G : List Nat} (hC : Cs W c F G s9) : Calls Tryz.prog 39 #[.pointer (some ⟨c, 0, none⟩), .int .i64 0, .string ⟨#[97]⟩] W fun e w' => (∃ v, e = .returned v ∧ w'.ownsRow 0 9 1 v [sA].length (vs [sA])) ∧ Turned W w' c F G s10 := by
    have h1 := keysOp_any hC w9_ sP_ok (i := 0) ⟨by omega, by omega⟩ sA hA_
    rw [show seesKeys (askKP s9 0 sA) 0 sA = [sA] from v7] at h1
    refine h1.mono ?_
    rintro e w' ⟨v, rfl, ho, -, ht⟩
    exact ⟨⟨v, rfl, ho⟩, ht⟩
theorem sm_valid1 {a W : World} {c : Nat} (h : Own0 a W c s7) : Calls Tryz.prog 14 #[.pointer (some ⟨c, 0, none⟩), .int .i64 2] W fun e w' => e = .returned (.bool false) ∧ Own0 a w' c s7 := by
  obtain ⟨F, G, h1, h2, h3⟩ := h
  have h4 := valid_any h1 w7_ sP_ok (i := 2) ⟨by omega, by omega⟩
  rw [v4] at h4
  refine h4.mono ?_
  rintro e w' ⟨rfl, k⟩
  exact ⟨rfl, F, G, h1.keep0 k, h2, h3.trans k (by simp)⟩
theorem sm_valid2 {a W : World} {c : Nat} (h : Own0 a W c s7) : Calls Tryz.prog 14 #[.pointer (some ⟨c, 0, none⟩), .int .i64 1] W fun e w' => e = .returned (.bool true) ∧ Own0 a w' c s7 := by
  obtain ⟨F, G, h1, h2, h3⟩ := h
  have h4 := valid_any h1 w7_ sP_ok (i := 1) ⟨by omega, by omega⟩
  rw [v5] at h4
  refine h4.mono ?_
  rintro e w' ⟨rfl, k⟩
  exact ⟨rfl, F, G, h1.keep0 k, h2, h3.trans k (by simp)⟩
theorem sm_same2 {W : World} {v : Value} {b : Nat} (h : W.ownsRow 0 9 1 v [sA, sAB].length (vs [sA, sAB])) (hb : Blk W b 9 #[.string ⟨#[97]⟩, .string ⟨#[97, 98]⟩]) : Calls Tryz.prog 13 #[v, .slice (some ⟨b, 0, none⟩) 2 2] W fun e w' => e = .returned (.bool true) ∧ Keeps [] W w' := by
  obtain ⟨B, cc, rfl, -, -, -⟩ := own_shape h
  have h2 : AtS W (some ⟨b, 0, none⟩) [sA, sAB] := by
    refine ⟨fun _ => ⟨b, 0, rfl, hb.lt, fun k hk => ?_⟩, by decide⟩
    rw [Nat.zero_add, hb.cell]
    match k, hk with
    | 0, _ => rfl
    | 1, _ => rfl
  have h3 := same_any W B (some ⟨b, 0, none⟩) [sA, sAB] [sA, sAB] cc 2 (AtS.of_own h (by decide)) h2
  rw [decide_eq_true (rfl : [sA, sAB] = [sA, sAB])] at h3
  exact h3
theorem sm_same1 {W : World} {v : Value} {b : Nat} (h : W.ownsRow 0 9 1 v [sA].length (vs [sA])) (hb : Blk W b 9 #[.string ⟨#[97]⟩]) : Calls Tryz.prog 13 #[v, .slice (some ⟨b, 0, none⟩) 1 1] W fun e w' => e = .returned (.bool true) ∧ Keeps [] W w' := by
  obtain ⟨B, cc, rfl, -, -, -⟩ := own_shape h
  have h2 : AtS W (some ⟨b, 0, none⟩) [sA] := by
    refine ⟨fun _ => ⟨b, 0, rfl, hb.lt, fun k hk => ?_⟩, by decide⟩
    rw [Nat.zero_add, hb.cell]
    match k, hk with
    | 0, _ => rfl
  have h3 := same_any W B (some ⟨b, 0, none⟩) [sA] [sA] cc 1 (AtS.of_own h (by decide)) h2
  rw [decide_eq_true (rfl : [sA] = [sA])] at h3
  exact h3
set_option maxRecDepth 1000000 in
set_option maxHeartbeats 6400000 in
theorem small_any (w : World) : Calls Tryz.prog 7 #[] w fun e w' => e = .returned (.bool true) ∧ Keeps [] w w' := by
  go_enter Tryz.func7, Tryz.ntmps7
  go_wp2_with fail
  refine (new_any w).mono ?_
  rintro e w0 ⟨c, F, rfl, hc, hF, hk⟩
  have O0 : Hid (Own0 w w0 c new0) := Lib.hid ⟨F, [], hc, hF, hk⟩
  clear hc hF hk
  go_wp2_with fail
  refine (sm_begin1 O0.out).mono ?_
  rintro e w1 ⟨rfl, o1⟩
  have O1 := Lib.hid o1
  clear o1 O0
  go_wp2_with fail
  refine (sm_begin2 O1.out).mono ?_
  rintro e w2 ⟨rfl, o2⟩
  have O2 := Lib.hid o2
  clear o2 O1
  go_wp2_with fail
  refine (sm_put1 O2.out).mono ?_
  rintro e w3 ⟨rfl, o3⟩
  have O3 := Lib.hid o3
  clear o3 O2
  go_wp2_with fail
  refine (sm_get1 O3.out).mono ?_
  rintro e w4 ⟨rfl, o4⟩
  have O4 := Lib.hid o4
  clear o4 O3
  go_wp2_with fail
  refine (sm_put2 O4.out).mono ?_
  rintro e w5 ⟨rfl, o5⟩
  have O5 := Lib.hid o5
  clear o5 O4
  go_wp2_with fail
  refine (sm_get2 O5.out).mono ?_
  rintro e w6 ⟨rfl, o6⟩
  have O6 := Lib.hid o6
  clear o6 O5
  go_wp2_with fail
  refine (sm_get3 O6.out).mono ?_
  rintro e w7 ⟨rfl, o7⟩
  have O7 := Lib.hid o7
  clear o7 O6
  go_wp2_with fail
  refine (sm_valid1 O7.out).mono ?_
  rintro e w8 ⟨rfl, o8⟩
  have O8 := Lib.hid o8
  clear o8 O7
  go_wp2_with fail
  refine (sm_valid2 O8.out).mono ?_
  rintro e w9 ⟨rfl, o9⟩
  have O9 := Lib.hid o9
  clear o9 O8
  go_wp2_with fail
  refine (sm_put3 O9.out).mono ?_
  rintro e w10 ⟨rfl, o10⟩
  have O10 := Lib.hid o10
  clear o10 O9
  go_wp2_with fail
  refine (O10.out.calls (fun F G hC => sm_keys1 hC)).mono ?_
  rintro e w10a ⟨⟨v10, rfl, ho10⟩, o10⟩
  have HO := Lib.hid ho10
  have OA := Lib.hid o10
  clear ho10 o10 O10
  go_wp2_with fail
  have k10 : Keeps [] w10a (w10a.alloc (.cells #[.string ⟨#[97]⟩, .string ⟨#[97, 98]⟩] 9)) := (Keeps.refl [] _).alloc _
  have hs10 := sm_same2 (own_keep HO.out k10 (by simp)) (Blk.new _ _ _)
  have OB := Lib.hid (OA.out.keep0 k10)
  clear HO OA k10
  refine hs10.mono ?_
  clear hs10
  rintro e w11 ⟨rfl, k10⟩
  have O11 := Lib.hid (OB.out.keep0 k10)
  clear OB k10
  go_wp2_with fail
  refine (O11.out.calls (fun F G hC => sm_keys2 hC)).mono ?_
  rintro e w11a ⟨⟨v11, rfl, ho11⟩, o11⟩
  have HO := Lib.hid ho11
  have OA := Lib.hid o11
  clear ho11 o11 O11
  go_wp2_with fail
  have k11 : Keeps [] w11a (w11a.alloc (.cells #[.string ⟨#[97]⟩] 9)) := (Keeps.refl [] _).alloc _
  have hs11 := sm_same1 (own_keep HO.out k11 (by simp)) (Blk.new _ _ _)
  have OB := Lib.hid (OA.out.keep0 k11)
  clear HO OA k11
  refine hs11.mono ?_
  clear hs11
  rintro e w12 ⟨rfl, k11⟩
  have O12 := Lib.hid (OB.out.keep0 k11)
  clear OB k11
  go_wp2_with fail
  go_ret
  exact ⟨rfl, O12.out.k⟩
end Go.Proofs.YtbllmpcpfmlemaaGreat
namespace Go.Proofs.YtbllmpcpfmlemaaGreat
open Go.RowKit

/-- The cells c lie behind the blocks of a; the blocks S (which others write) and T (which are read) are apart from them. -/
def Sta (a W : World) (c : Nat) (C : St) (S T : List Nat) : Prop :=
  ∃ F G, Cs W c F G C ∧ (∀ g ∈ F, a.heap.size ≤ g) ∧ Keeps [] a W ∧ (∀ g ∈ S, a.heap.size ≤ g ∧ g < W.heap.size ∧ g ∉ F ∧ g ∉ G) ∧ ∀ g ∈ T, g < W.heap.size ∧ g ∉ F
/-- The blocks T are as they were. -/
def Kept (T : List Nat) (W W' : World) : Prop := ∃ K, Keeps K W W' ∧ ∀ g ∈ T, g ∉ K
theorem Kept.mono {T U : List Nat} {W W' : World} (h : Kept T W W') (hs : ∀ g ∈ U, g ∈ T) : Kept U W W' := by
  obtain ⟨K, h1, h2⟩ := h
  exact ⟨K, h1, fun g hg => h2 g (hs g hg)⟩
theorem Kept.own {T : List Nat} {W W' : World} (h : Kept T W W') {e size n : Nat} {v : Value} {xs : List Value} (ho : W.ownsRow 0 e size v n xs) (hv : ∀ g ∈ fp v, g ∈ T) : W'.ownsRow 0 e size v n xs := by
  obtain ⟨K, h1, h2⟩ := h
  exact own_keep ho h1 (fun g hg => h2 g (hv g hg))
section
variable {a W W' : World} {c : Nat} {C D : St} {S T : List Nat} {P : List Str}
theorem Sta.k (h : Sta a W c C S T) : Keeps [] a W := by obtain ⟨_, _, _, _, h, _⟩ := h; exact h
theorem Sta.of (h : Own0 a W c C) : Sta a W c C [] [] := by
  obtain ⟨F, G, h1, h2, h3⟩ := h
  exact ⟨F, G, h1, h2, h3, by simp, by simp⟩
theorem Sta.own (h : Sta a W c C S T) : Own0 a W c C := by
  obtain ⟨F, G, h1, h2, h3, _⟩ := h
  exact ⟨F, G, h1, h2, h3⟩
theorem Sta.keep0 (h : Sta a W c C S T) (hk : Keeps [] W W') : Sta a W' c C S T := by
  obtain ⟨F, G, h1, h2, h3, h4, h5⟩ := h
  have := hk.size
  exact ⟨F, G, h1.keep0 hk, h2, h3.trans hk (by simp), fun g hg => ⟨(h4 g hg).1, by have := (h4 g hg).2.1; omega, (h4 g hg).2.2⟩, fun g hg => ⟨by have := (h5 g hg).1; omega, (h5 g hg).2⟩⟩
theorem Sta.addT (h : Sta a W c C S T) (hk : Keeps [] W W') {U : List Nat} (hU : ∀ g ∈ U, W.heap.size ≤ g ∧ g < W'.heap.size) : Sta a W' c C S (U ++ T) := by
  have h' := h.keep0 hk
  obtain ⟨F, G, h1, h2, h3, h4, h5⟩ := h
  obtain ⟨_, _, k1, _, _, _, _⟩ := h'
  have := hk.size
  refine ⟨F, G, h1.keep0 hk, h2, h3.trans hk (by simp), fun g hg => ⟨(h4 g hg).1, by have := (h4 g hg).2.1; omega, (h4 g hg).2.2⟩, fun g hg => ?_⟩
  rcases List.mem_append.1 hg with hg | hg
  · exact ⟨(hU g hg).2, fun h' => by have := h1.ltF g h'; have := (hU g hg).1; omega⟩
  · exact ⟨by have := (h5 g hg).1; omega, (h5 g hg).2⟩
/-- A row that is written. -/
theorem Sta.write (h : Sta a W c C S T) {K : List Nat} (hk : Keeps K W W') (hK : ∀ g ∈ K, g ∈ S) {U : List Nat} (hU : ∀ g ∈ U, g ∈ S ∨ (W.heap.size ≤ g ∧ g < W'.heap.size)) : Sta a W' c C U T := by
  obtain ⟨F, G, h1, h2, h3, h4, h5⟩ := h
  have hs := hk.size
  have hs3 := h3.size
  refine ⟨F, G, h1.keep hk (fun g hg => (h4 g (hK g hg)).2.2.1) (fun g hg => (h4 g (hK g hg)).2.2.2), h2, h3.trans hk (fun g hg => .inr (h4 g (hK g hg)).1), fun g hg => ?_, fun g hg => ⟨by have := (h5 g hg).1; omega, (h5 g hg).2⟩⟩
  rcases hU g hg with h | ⟨h, h'⟩
  · exact ⟨(h4 g h).1, by have := (h4 g h).2.1; omega, (h4 g h).2.2⟩
  · exact ⟨by omega, h', fun e => by have := h1.ltF g e; omega, fun e => by have := h1.ltG g e; omega⟩
theorem Sta.sub (h : Sta a W c C S T) {S' T' : List Nat} (hS : ∀ g ∈ S', g ∈ S) (hT : ∀ g ∈ T', g ∈ T ∨ g ∈ S) : Sta a W c C S' T' := by
  obtain ⟨F, G, h1, h2, h3, h4, h5⟩ := h
  exact ⟨F, G, h1, h2, h3, fun g hg => h4 g (hS g hg), fun g hg => (hT g hg).elim (fun h => h5 g h) (fun h => ⟨(h4 g h).2.1, (h4 g h).2.2.1⟩)⟩
theorem Sta.calls (h : Sta a W c C S T) {f : Nat} {args : Array Value} {R : Ending → World → Prop} (hc : ∀ F G, Cs W c F G C → Calls Tryz.prog f args W fun e w' => R e w' ∧ Turned W w' c F G D) :
    Calls Tryz.prog f args W fun e w' => R e w' ∧ Sta a w' c D S T ∧ Kept (S ++ T) W w' := by
  obtain ⟨F, G, h1, h2, h3, h4, h5⟩ := h
  refine (hc F G h1).mono ?_
  rintro e w' ⟨hr, F', G', k1, k2, k3, k4⟩
  have hs := k4.size
  refine ⟨hr, ⟨F', G', k1, fun g hg => ?_, h3.trans k4 (fun g hg => .inr (h2 g hg)), fun g hg => ?_, fun g hg => ?_⟩, F, k4, fun g hg => ?_⟩
  · rcases k2.2 g hg with h | h
    · exact h2 g h
    · exact Nat.le_trans h3.size h
  · obtain ⟨q1, q2, q3, q4⟩ := h4 g hg
    refine ⟨q1, by omega, fun e => ?_, fun e => ?_⟩
    · rcases k2.2 g e with h | h
      · exact q3 h
      · omega
    · rcases k3.2 g e with h | h
      · exact q4 h
      · omega
  · obtain ⟨q1, q2⟩ := h5 g hg
    refine ⟨by omega, fun e => ?_⟩
    rcases k2.2 g e with h | h
    · exact q2 h
    · omega
  · rcases List.mem_append.1 hg with hg | hg
    · exact (h4 g hg).2.2.1
    · exact (h5 g hg).2
end
def TyRow (w : World) (t : TypeId) (g : Nat) : Prop := ∃ cs fr, w.heap[g]? = some (.cells cs t fr)
theorem own_ty {w : World} {t size : Nat} {v : Value} {n : Nat} {xs : List Value} (h : w.ownsRow 0 t size v n xs) : ∀ g ∈ fp v, TyRow w t g := by
  intro g hg
  rcases h.2 with ⟨rfl, _⟩ | ⟨g', cap, cur, rfl, _, hh, _⟩
  · simp at hg
  · simp at hg
    subst hg
    exact ⟨_, _, hh⟩
/-- No row of another kind lies in the cells' blocks, if these are told sparingly. -/
theorem Cs.slim {W : World} {c : Nat} {F G : List Nat} {C : St} (h : Cs W c F G C) : ∃ F2, (∀ g ∈ F2, g ∈ F) ∧ Cs W c F2 G C ∧ ∀ e size v n xs, W.ownsRow 0 e size v n xs → e ≠ 65 → e ≠ 77 → e ≠ 34 → ∀ g ∈ fp v, g ∉ F2 := by
  obtain ⟨m, Mo, L, h⟩ := h
  have hsub : ∀ g ∈ c :: m :: C.flatMap (fun x => (Mo x.id).blocks), g ∈ F := by
    intro g hg
    simp only [List.mem_cons] at hg
    rcases hg with rfl | rfl | hg
    · exact h.inF _ (by rw [h.lc]; rfl)
    · exact h.inF _ (by rw [h.lm]; rfl)
    · obtain ⟨x, hx, hg⟩ := List.mem_flatMap.1 hg
      exact h.blkF hx hg
  have hin : ∀ x ∈ C, ∀ g ∈ (Mo x.id).blocks, g ∈ c :: m :: C.flatMap (fun x => (Mo x.id).blocks) := fun x hx g hg => by
    simp only [List.mem_cons]
    exact .inr (.inr (List.mem_flatMap.2 ⟨x, hx, hg⟩))
  refine ⟨c :: m :: C.flatMap (fun x => (Mo x.id).blocks), hsub, ⟨m, Mo, fun g => if g ∈ c :: m :: C.flatMap (fun x => (Mo x.id).blocks) then L g else none, h.cb, h.all, h.one, fun x hx => ?_, ?_, ?_, fun g hg => ?_, h.inG, fun g hg => h.ltF g (hsub g hg), h.ltG, fun g hg hg' => h.apart g hg (hsub g hg')⟩, ?_⟩
  · have k := h.lab x hx
    have i := hin x hx
    refine ⟨?_, ?_, ?_, ?_, ?_, fun g hg => ?_⟩
    · rw [if_pos (i _ (by simp [Mem.blocks]))]; exact k.b
    · rw [if_pos (i _ (by simp [Mem.blocks]))]; exact k.mw
    · rw [if_pos (i _ (by simp [Mem.blocks]))]; exact k.ml
    · rw [if_pos (i _ (by simp [Mem.blocks]))]; exact k.mv
    · rw [if_pos (i _ (by simp [Mem.blocks]))]; exact k.mq
    · rw [if_pos (i _ (by simp [Mem.blocks, hg]))]; exact k.row g hg
  · rw [if_pos (by simp)]; exact h.lc
  · rw [if_pos (by simp)]; exact h.lm
  · split at hg
    · assumption
    · cases hg
  · intro e size v n xs ho h1 h2 h3 g hg
    have hty := own_ty ho g hg
    have blk : ∀ {b : Nat} {t : TypeId} {cs : Array Value}, Blk W b t cs → e ≠ t → g ≠ b := by
      rintro b t cs hb hne rfl
      obtain ⟨cs', fr, hh⟩ := hty
      unfold Blk at hb
      rw [hb] at hh
      injection hh with hh
      injection hh with _ ht
      exact hne ht.symm
    intro hF
    simp only [List.mem_cons] at hF
    rcases hF with h' | h' | hF
    · exact blk h.cb h1 h'
    · exact h.all.off ho (h' ▸ hg)
    · obtain ⟨x, hx, hF⟩ := List.mem_flatMap.1 hF
      have o := h.one x hx
      simp only [Mem.blocks, List.mem_cons] at hF
      rcases hF with h' | h' | h' | h' | h' | hF
      · exact blk o.b h2 h'
      · exact o.wm.off ho (h' ▸ hg)
      · exact o.l.off ho (h' ▸ hg)
      · exact o.v.off ho (h' ▸ hg)
      · exact o.k.off ho (h' ▸ hg)
      · obtain ⟨cs', fr, hh⟩ := hty
        obtain ⟨cs2, fr2, hh2⟩ := own_ty o.o g hF
        rw [hh] at hh2
        injection hh2 with hh2
        injection hh2 with _ ht
        exact h3 ht
theorem Sta.addRow {a W : World} {c : Nat} {C : St} {S T : List Nat} (h : Sta a W c C S T) {e size n : Nat} {v : Value} {xs : List Value} (ho : W.ownsRow 0 e size v n xs) (h1 : e ≠ 65) (h2 : e ≠ 77) (h3 : e ≠ 34) : Sta a W c C S (fp v ++ T) := by
  obtain ⟨F, G, k1, k2, k3, k4, k5⟩ := h
  obtain ⟨F2, j1, j2, j3⟩ := k1.slim
  refine ⟨F2, G, j2, fun g hg => k2 g (j1 g hg), k3, fun g hg => ⟨(k4 g hg).1, (k4 g hg).2.1, fun h' => (k4 g hg).2.2.1 (j1 g h'), (k4 g hg).2.2.2⟩, fun g hg => ?_⟩
  rcases List.mem_append.1 hg with hg | hg
  · exact ⟨own_lt ho hg, j3 _ _ _ _ _ ho h1 h2 h3 g hg⟩
  · exact ⟨(k5 g hg).1, fun h' => (k5 g hg).2 (j1 g h')⟩
/-- All strings of the operations. -/
def poolL (L : List Oq) : List Str := L.flatMap (fun q => pool q.x)
theorem few_spec {L : List Oq} {n : Int} (h : fewB L n = true) : (L.length : Int) ≤ n ∧ ∀ q ∈ L, q.x.val.length ≤ 30 ∧ q.x.r.list.length ≤ 10 ∧ ∀ k ∈ pool q.x, k.length ≤ 30 := by
  unfold fewB at h
  rw [Bool.and_eq_true, List.all_eq_true, decide_eq_true_eq] at h
  refine ⟨h.2, fun q hq => ?_⟩
  have h1 := h.1 q hq
  unfold fewO at h1
  simp only [Bool.and_eq_true, decide_eq_true_eq, List.all_eq_true] at h1
  obtain ⟨⟨⟨⟨⟨h3, h4⟩, h6⟩, h7⟩, h8⟩, h9⟩ := h1
  refine ⟨h4, h8, fun k hk => ?_⟩
  unfold pool at hk
  simp only [List.mem_cons] at hk
  rcases hk with rfl | rfl | hk
  · exact h3
  · exact h6
  · exact h9 k hk
theorem poolL_len {L : List Oq} (h : ∀ q ∈ L, q.x.r.list.length ≤ 10) : (poolL L).length ≤ 12 * L.length := by
  induction L with
  | nil => simp [poolL]
  | cons q L ih =>
    have h1 := ih (fun q hq => h q (by simp [hq]))
    have h2 := h q (by simp)
    unfold poolL at h1 ⊢
    rw [List.flatMap_cons, List.length_append]
    have h3 : (pool q.x).length = q.x.r.list.length + 2 := by simp [pool]
    simp only [List.length_cons]
    omega
theorem poolL_short {L : List Oq} {n : Int} (h : fewB L n = true) : ∀ s ∈ poolL L, s.length ≤ 30 := by
  intro s hs
  obtain ⟨q, hq, hs⟩ := List.mem_flatMap.1 hs
  exact ((few_spec h).2 q hq).2.2 s hs
theorem PoolOk.mk' {P : List Str} (h : ∀ s ∈ P, s.length ≤ 30) (hn : P.length ≤ 1000000) : PoolOk P := ⟨fun s hs => kS_ok (by have := h s hs; unfold maxLen; omega), hn⟩
/-- The operations are in order: their strings are of the pool P. -/
def OkL (P : List Str) (L : List Oq) : Prop := ∀ q ∈ L, OkO P q.x ∧ q.x.r.list.length ≤ 1000
theorem OkL.of {w : World} {A : Option Addr} {L : List Oq} {n : Int} {P : List Str} (hA : AtO w A L) (hf : fewB L n = true) (hs : ∀ k ∈ poolL L, k ∈ P) : OkL P L := by
  intro q hq
  obtain ⟨h1, h2, h3, h4⟩ := hA.nn q hq
  obtain ⟨h5, h6, h7⟩ := (few_spec hf).2 q hq
  exact ⟨⟨h1, h2, h3, h4, fun k hk => hs k (List.mem_flatMap.2 ⟨q, hq, hk⟩), by omega⟩, by omega⟩
theorem Fit.hl {P : List Str} {n : Nat} {C : St} (h : Fit P n C) (hn : n ≤ 100000) : C.length ≤ 1000000 := by have := h.len; omega
theorem Fit.hlg {P : List Str} {n : Nat} {C : St} (h : Fit P n C) (hn : n ≤ 100000) : lgSize C ≤ 400000000 := by have := h.lg; omega
theorem Fit.ask {P : List Str} {n : Nat} {C : St} (h : Fit P n C) (i : Int) {k : Str} (hk : k ∈ P) : Fit P n (askP C i k) := ⟨h.wf.ask i hk, by rw [len_ask]; exact h.len, by rw [lgSize_ask]; exact h.lg⟩
theorem Fit.askK {P : List Str} {n : Nat} {C : St} (h : Fit P n C) (i : Int) {k : Str} (hk : k ∈ P) : Fit P n (askKP C i k) := ⟨h.wf.askK i hk, by rw [len_askK]; exact h.len, by rw [lgSize_askK]; exact h.lg⟩
section
variable {a W : World} {c n : Nat} {C : St} {S T : List Nat} {P : List Str}
theorem do_sta (h : Sta a W c C S T) (hf : Fit P n C) (hn : n ≤ 100000) (hP : PoolOk P) (x : Opn) (hx : OkO P x) (A : Option Addr) (cc : Nat) (hA : AtS W A x.r.list) :
    Calls Tryz.prog 11 #[.pointer (some ⟨c, 0, none⟩), .agg #[.int .i64 x.dw, .int .i64 x.who, .int .i64 x.n, sv x.key, sv x.val, .int .i64 x.r.kind, sv x.r.key, sv x.r.val, .slice A x.r.list.length cc]] W fun e w' =>
      (∃ v, e = .returned (.tuple #[sv (doP C x).1.1, v, .int .i64 (doP C x).1.2.2]) ∧ w'.ownsRow 0 9 1 v (doP C x).1.2.1.length (vs (doP C x).1.2.1) ∧ ∀ g ∈ fp v, W.heap.size ≤ g) ∧ Sta a w' c (doP C x).2 S T ∧ Kept (S ++ T) W w' :=
  h.calls (fun F G hC => by
    refine (do_any hC hf.wf hP (hf.hl hn) (hf.hlg hn) x hx A cc hA).mono ?_
    rintro e w' ⟨v, h1, h2, h3, h4⟩
    exact ⟨⟨v, h1, h2, h3⟩, h4⟩)
theorem get_sta (h : Sta a W c C S T) (hf : Fit P n C) (hP : PoolOk P) {i : Int} (hi : I64 i) (k : Str) (hk : k ∈ P) :
    Calls Tryz.prog 38 #[.pointer (some ⟨c, 0, none⟩), .int .i64 i, sv k] W fun e w' => e = .returned (sv (sees (askP C i k) i k)) ∧ Sta a w' c (askP C i k) S T ∧ Kept (S ++ T) W w' :=
  h.calls (fun _ _ hC => get_any hC hf.wf hP hi k hk)
theorem keys_sta (h : Sta a W c C S T) (hf : Fit P n C) (hP : PoolOk P) {i : Int} (hi : I64 i) (k : Str) (hk : k ∈ P) :
    Calls Tryz.prog 39 #[.pointer (some ⟨c, 0, none⟩), .int .i64 i, sv k] W fun e w' =>
      (∃ v, e = .returned v ∧ w'.ownsRow 0 9 1 v (seesKeys (askKP C i k) i k).length (vs (seesKeys (askKP C i k) i k)) ∧ ∀ g ∈ fp v, W.heap.size ≤ g) ∧ Sta a w' c (askKP C i k) S T ∧ Kept (S ++ T) W w' :=
  h.calls (fun F G hC => by
    refine (keysOp_any hC hf.wf hP hi k hk).mono ?_
    rintro e w' ⟨v, h1, h2, h3, h4⟩
    exact ⟨⟨v, h1, h2, h3⟩, h4⟩)
theorem live_sta (h : Sta a W c C S T) (hf : Fit P n C) (hn : n ≤ 100000) :
    Calls Tryz.prog 20 #[.pointer (some ⟨c, 0, none⟩)] W fun e w' => (∃ v, e = .returned v ∧ w'.ownsRow 0 3 1 v (liveP C).length (zs (liveP C)) ∧ ∀ g ∈ fp v, W.heap.size ≤ g) ∧ Keeps [] W w' := by
  obtain ⟨F, G, h1, _⟩ := h
  refine (live_any h1 hf.wf (hf.hl hn)).mono ?_
  rintro e w' ⟨v, h2, h3, h4, h5⟩
  exact ⟨⟨v, h2, h3, h5⟩, h4⟩
theorem writes_sta (h : Sta a W c C S T) (hf : Fit P n C) (hP : PoolOk P) {i : Int} (hi : I64 i) :
    Calls Tryz.prog 25 #[.pointer (some ⟨c, 0, none⟩), .int .i64 i] W fun e w' => (∃ v, e = .returned v ∧ w'.ownsRow 0 88 2 v (wrP C i).length (rw pc (wrP C i)) ∧ ∀ g ∈ fp v, W.heap.size ≤ g) ∧ Keeps [] W w' := by
  obtain ⟨F, G, h1, _⟩ := h
  refine (writes_any h1 hf.wf hP hi).mono ?_
  rintro e w' ⟨v, h2, h3, h4, h5⟩
  exact ⟨⟨v, h2, h3, h5⟩, h4⟩
theorem valid_sta (h : Sta a W c C S T) (hf : Fit P n C) (hP : PoolOk P) {i : Int} (hi : I64 i) :
    Calls Tryz.prog 14 #[.pointer (some ⟨c, 0, none⟩), .int .i64 i] W fun e w' => e = .returned (.bool (validP C i)) ∧ Keeps [] W w' := by
  obtain ⟨F, G, h1, _⟩ := h
  exact valid_any h1 hf.wf hP hi
end
end Go.Proofs.YtbllmpcpfmlemaaGreat
