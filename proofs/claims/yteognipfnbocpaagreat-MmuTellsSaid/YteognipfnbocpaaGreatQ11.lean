/- The reference's Used. -/
import Derived.Test.YteognipfnbocpaaGreatQ10
namespace Go.Proofs.YteognipfnbocpaaGreat
open Go.RowKit
open T12 (E TbRep RfRep ent ents cells5 mapM mapN wlkM wlkB wlkN unmM clrM clrB lookX)
open T13 (Tl En TlRep es Nd)

theorem RFoc.off {w w' : World} {F : List Nat} {p : Nat} {r : Rm} {x : Int} {G H : List Nat} {q : Nat} {m : Pg} (h : RFoc w F p r x G q m) (hk : Keeps H w w') (hF : ∀ g ∈ F, g ∉ H) (hG : ∀ g ∈ G, g ∉ H) : RFoc w' F p r x G q m := by
  obtain ⟨L, A1, A2, A3, c1, c2, c3, qs, cs, h, h0, h1⟩ := h
  exact ⟨L, A1, A2, A3, c1, c2, c3, qs, cs, h.keep hk (fun g l hl => hF g (h.inF g l hl)), h0.keep hk hG, h1⟩
/-- j entries are done; all blocks of the whole lie in F1. -/
def UR (w' wr : World) (F1 : List Nat) (p : Nat) (r : Rm) (x : Int) (q : Nat) (m : Pg) (E0 : List (Nat × E)) (j : Nat) : Prop :=
  ∃ F G, RFoc wr F p (r.setTab x (usedM (E0.take j) m)) x G q (usedM (E0.take j) m) ∧ Keeps F1 w' wr ∧ (∀ g ∈ F, g ∈ F1) ∧ ∀ g ∈ G, g ∈ F1
theorem UR.clear {w' wr : World} {F1 : List Nat} {p : Nat} {r : Rm} {x : Int} {q : Nat} {m : Pg} {E0 : List (Nat × E)} {j : Nat} (h : UR w' wr F1 p r x q m E0 j) (hj : j < E0.length) :
    Calls Tryz.prog 68 #[.pointer (some ⟨q, 0, none⟩), .int .i64 (E0[j].1 : Nat)] wr fun e w5 => e = .returned (.bool (clrB (usedM (E0.take j) m) E0[j].1)) ∧ UR w' w5 F1 p r x q m E0 (j + 1) ∧ Keeps F1 wr w5 := by
  obtain ⟨F, G, f, k, hF, hG⟩ := h
  refine (T12.rclear_any wr G q _ (E0[j].1 : Nat) f.rf).mono ?_
  rintro e w5 ⟨rfl, t1, k1⟩
  obtain ⟨F', f1, f2⟩ := f.turn k1 t1 (fun g hg => .inl hg)
  rw [rset_twice, ← usedM_snoc, ← List.take_succ_eq_append_getElem hj] at f1
  exact ⟨rfl, ⟨F', G, f1, k.trans k1 (fun g hg => .inl (hG g hg)), fun g hg => (f2 g hg).elim (hF g) (hG g), hG⟩, k1.mono hG⟩
set_option maxRecDepth 100000 in
set_option maxHeartbeats 1600000 in
theorem rused_any (w : World) (F : List Nat) (p : Nat) (r : Rm) (h : RmRep w F p r) (x : Int) :
    Calls Tryz.prog 36 #[.pointer (some ⟨p, 0, none⟩), .int .i64 x] w fun e w' => ∃ v, e = .returned v ∧ w'.ownsRow 0 3 1 v (usedL (ents (r.tab x) 256) (r.tab x)).length (iv (usedL (ents (r.tab x) 256) (r.tab x))) ∧ RmN w F w' p (r.setTab x (usedM (ents (r.tab x) 256) (r.tab x))) ∧ ∀ g ∈ fp v, w.heap.size ≤ g := by
  have HT := Lib.hid ((RmN.start h).table x)
  have HI := Lib.hid info42
  have HI3 := Lib.hid info3i
  have hle := ents_bd (r.tab x)
  obtain ⟨m, hm⟩ : ∃ m, r.tab x = m := ⟨_, rfl⟩
  rw [hm] at HT hle ⊢
  obtain ⟨E0, hE0⟩ : ∃ E0, ents m 256 = E0 := ⟨_, rfl⟩
  have HEE : Unit → ents m 256 = E0 := fun _ => hE0
  rw [hE0] at hle ⊢
  clear h hm hE0
  go_enter Tryz.func36, Tryz.ntmps36
  go_wp2_with fail
  refine HT.out.mono ?_
  rintro e w1 ⟨q, rfl, f1, k1⟩
  have hw1 := k1.size
  have f2 := f1.same ((Keeps.refl [] w1).alloc (.cells #[] 42))
  have hown : (w1.alloc (.cells #[] 42)).ownsRow 0 42 5 (.slice (some ⟨w1.heap.size, 0, none⟩) 0 0) 0 [] := own_of_blk (Blk.new w1 42 #[]) (by omega) (by omega) rfl rfl
  have HO := Lib.hid hown
  have HF1 := Lib.hid f1
  obtain ⟨G, g2, -⟩ := f2.get
  obtain ⟨A, cap, g2⟩ := g2
  have b1 := g2.b
  have o1 := g2.o
  rw [HEE ()] at b1 o1
  have c0 := b1.cell 0
  have HR := Lib.hid (reads_own o1)
  have H1 := Lib.hid (T12.cells5_one E0)
  clear f1 f2 hown g2 b1 o1 HT k1
  go_wp2_with (at_builtin; refine wpList_app _ rfl (.tmp 12) (.tmp 16) 46 rfl 42 (.agg #[.int .i64 0, .int .i64 0, .bool false, .bool false, .bool false]) 5 24 Tryz.underlying46 HI.out rfl (by omega) (.slice (some ⟨w1.heap.size, 0, none⟩) 0 0) 0 [] rfl HO.out _ A E0.length cap (cells5 E0) rfl HR.out H1.out (by unfold maxLen; omega) (by omega) ?_)
  intro v' w' ho' hk' hf'
  have kA : Keeps [] w1 w' := ((Keeps.refl [] w1).alloc _).trans hk' (fun g hg => .inr (by simp at hg; omega))
  have hz1 := kA.size
  obtain ⟨F1, hF1, f3, hback⟩ := HF1.out.rebase kA
  have hvF : ∀ g ∈ fp v', g ∉ F1 := fun g hg h => by
    have := hF1 g h
    rcases hf' g hg with h2 | h2
    · have h3 : g = w1.heap.size := by simpa using h2
      omega
    · have h3 : w1.heap.size + 1 ≤ g := by simpa using h2
      omega
  have hrm : UR w' w' F1 p r x q m E0 0 := by
    obtain ⟨F2, G2, f4, -, f5, f6⟩ := f3
    obtain ⟨F5, g5, g6⟩ := f4.turn (Keeps.refl G2 w') f4.rf (fun g hg => .inl hg)
    have hb : ∀ g, g ∈ F1 ∨ w'.heap.size ≤ g → g < w'.heap.size → g ∈ F1 := fun g h1 h2 => h1.elim id (fun h => by omega)
    exact ⟨F5, G2, g5, Keeps.refl _ _, fun g hg => (g6 g hg).elim (fun h => hb g (f5 g h) (f4.rep.lt g h)) (fun h => hb g (f6 g h) (f4.rf.lt g h)), fun g hg => hb g (f6 g hg) (f4.rf.lt g hg)⟩
  have HO' := Lib.hid ho'
  have HV := Lib.hid hvF
  have HB := Lib.hid hback
  have HR0 := Lib.hid hrm
  obtain ⟨Av, cv, rfl, -, -, hAv⟩ := own_shape ho'
  have HFL : Hid (∀ g ∈ F1, g < w'.heap.size) := Lib.hid (fun g hg => by have := hF1 g hg; omega)
  clear ho' hk' hf' kA hF1 f3 hback hvF hrm HF1 HO HR c0
  go_wp2_with fail
  go_loopw [5, 8] (fun v i wr => ∃ j : Nat, j ≤ E0.length ∧ i = .int .i64 j ∧ UR w' wr F1 p r x q m E0 j ∧ wr.ownsRow 0 3 1 v (usedL (E0.take j) m).length (iv (usedL (E0.take j) m)) ∧ ∀ g ∈ fp v, w'.heap.size ≤ g) (fun _ i _ => E0.length - (intOf i).toNat)
  case atStart => exact ⟨0, by omega, rfl, HR0.out, World.ownsRow_nil _ _ _ _, by simp⟩
  case round =>
    clear HR0
    obtain ⟨j, hj, rfl, I, ou, fu⟩ := hrel
    have hul := usedL_len (E0.take j) m
    have htl : (E0.take j).length ≤ E0.length := by rw [List.length_take]; omega
    obtain ⟨Au, cu, rfl, -, -, -⟩ := own_shape ou
    by_cases hlt : j < E0.length
    · obtain ⟨g, rfl⟩ := hAv (by omega)
      obtain ⟨F2, G2, -, k2, -, -⟩ := id I
      have ow := own_keep HO'.out k2 HV.out
      have y0 := own_cell ow (j := j * 5) (u := .int .i64 (E0[j].1 : Nat)) (by rw [show j * 5 = j * 5 + 0 by omega, cells5_at hlt (by omega)]; rfl)
      have HOW := Lib.hid ow
      have HC := Lib.hid (I.clear hlt)
      have HS := Lib.hid (show usedL (E0.take (j + 1)) m = usedL (E0.take j) m ++ cond (clrB (usedM (E0.take j) m) E0[j].1) [E0[j].2.fr] [] by rw [List.take_succ_eq_append_getElem hlt, usedL_snoc])
      have HOU := Lib.hid (And.intro ou fu)
      have HCE := Lib.hid (show (cells5 E0)[j * 5 + 1]? = some (.int .i64 E0[j].2.fr) by rw [cells5_at hlt (by omega)]; rfl)
      have hfF : ∀ g ∈ fp (.slice Au (usedL (E0.take j) m).length cu), g ∉ F1 := fun g hg h => by
        have h1 := HFL.out g h
        have h2 := HOU.out.2 g hg
        omega
      have HFF := Lib.hid hfF
      clear I k2 ow ou fu hfF
      generalize usedL (E0.take j) m = l at *
      generalize clrB (usedM (E0.take j) m) E0[j].1 = bc at *
      generalize E0[j].2.fr = f0 at *
      go_wp2_with fail
      refine HC.out.mono ?_
      rintro e w5 ⟨rfl, u5, k5⟩
      have y1 := own_cell (own_keep HOW.out k5 HV.out) HCE.out
      have o5 := own_keep HOU.out.1 k5 HFF.out
      cases bc with
      | false =>
        have HR5 := Lib.hid (And.intro u5 (And.intro o5 HOU.out.2))
        have HS2 := Lib.hid (show usedL (E0.take (j + 1)) m = l by rw [HS.out]; simp)
        clear u5 k5 o5 HC HS
        go_wp2_with fail
        go_roundw
        case rel => exact ⟨j + 1, by omega, by go_num, HR5.out.1, by rw [HS2.out]; exact HR5.out.2.1, HR5.out.2.2⟩
        case measure => simp [intOf]; omega
      | true =>
        have HS2 := Lib.hid (show usedL (E0.take (j + 1)) m = l ++ [f0] by rw [HS.out]; rfl)
        have HO5 := Lib.hid (own_keep o5 ((Keeps.refl [] _).alloc (.cells #[.int .i64 f0] 3)) (by simp))
        have HU5 := Lib.hid u5
        have hw5 : w'.heap.size ≤ w5.heap.size := by obtain ⟨_, _, _, k6, _, _⟩ := u5; exact k6.size
        have HW5 := Lib.hid hw5
        clear u5 k5 o5 HC HS hw5
        go_wp2_with (at_builtin; refine wpList_app _ rfl (.tmp 31) (.tmp 37) _ rfl 3 (.int .i64 0) 1 8 Tryz.underlying30 HI3.out rfl (by omega) (.slice Au l.length cu) _ _ rfl HO5.out _ _ _ _ [.int .i64 f0] rfl (reads_one _ _ 3) (by simp [Value.oneCell']) (by unfold maxLen; omega) (by omega) ?_)
        intro v6 w6 o6 k6 f6
        have U6 : UR w' w6 F1 p r x q m E0 (j + 1) := by
          obtain ⟨F3, G3, f3, k3, hF3, hG3⟩ := HU5.out
          have hoff : ∀ g ∈ F1, g ∉ fp (.slice Au l.length cu) := fun g hg h => HFF.out g h hg
          exact ⟨F3, G3, (f3.same ((Keeps.refl [] _).alloc (.cells #[.int .i64 f0] 3))).off k6 (fun g hg => hoff g (hF3 g hg)) (fun g hg => hoff g (hG3 g hg)), (k3.alloc _).trans k6 (fun g hg => .inr (HOU.out.2 g hg)), hF3, hG3⟩
        have HR6 : Hid (UR w' w6 F1 p r x q m E0 (j + 1) ∧ w6.ownsRow 0 3 1 v6 (l ++ [f0]).length (iv (l ++ [f0])) ∧ ∀ g ∈ fp v6, w'.heap.size ≤ g) := Lib.hid ⟨U6, by
          rw [List.length_append]; unfold iv; rw [List.map_append]; exact o6, fun g hg => (f6 g hg).elim (HOU.out.2 g) (fun h => by have h1 : w5.heap.size + 1 ≤ g := (by simpa using h); have := HW5.out; omega)⟩
        clear o6 k6 f6 U6 HO5 HU5
        go_wp2_with fail
        go_roundw
        case rel => exact ⟨j + 1, by omega, by go_num, HR6.out.1, by rw [HS2.out]; exact HR6.out.2.1, HR6.out.2.2⟩
        case measure => simp [intOf]; omega
    · obtain rfl : j = E0.length := by omega
      obtain ⟨F2, G2, f2, k2, hF2, hG2⟩ := I
      rw [List.take_length] at f2 ou fu ⊢
      have NF := Lib.hid (HB.out wr _ ⟨F2, f2.rep, k2, fun g hg => .inl (hF2 g hg)⟩)
      have HOU := Lib.hid (And.intro ou fu)
      have hzz : w.heap.size ≤ w'.heap.size := by omega
      have HZZ := Lib.hid hzz
      clear f2 ou k2 hF2 hG2 fu HB hzz HEE
      go_wp2
      go_ret
      exact ⟨.slice Au (usedL E0 m).length cu, rfl, HOU.out.1, NF.out, fun g hg => Nat.le_trans HZZ.out (HOU.out.2 g hg)⟩
end Go.Proofs.YteognipfnbocpaaGreat
