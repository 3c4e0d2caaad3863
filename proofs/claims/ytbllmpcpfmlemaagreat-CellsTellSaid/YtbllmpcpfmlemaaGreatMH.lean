/- Texts of the elder seat, turned to this one: W12 W13. -/
import Derived.Test.YtbllmpcpfmlemaaGreatMG
import Derived.Lib.SliceRun
import Derived.Sort.Walk0
import Derived.Test.YtbllmpcpfmlemaaGreatSh
namespace Go.Proofs.YtbllmpcpfmlemaaGreat
open Go.RowKit
theorem run_leqS (a b : Str) (w : World) : (binOp .leq 9 (sv a) (sv b)).run Tryz.prog w = .ok (.bool (decide (a ≤ b))) w := by
  have e : (Op.bytesLess (bs a).toList (bs b).toList || (bs a).toList == (bs b).toList) = decide (a ≤ b) := by
    rw [bs_toList, bs_toList, Proofs.bytesLess_eq]
    have h1 := str_le_iff a b
    by_cases h : a < b
    · simp [h, h1.2 (.inl h)]
    · by_cases h2 : a = b
      · simp [h2]
      · have : ¬ a ≤ b := fun h3 => (h1.1 h3).elim h h2
        simp [h, h2, this]
  have h2 : (Op.stringOp .leq (bs a) (bs b)).run Tryz.prog w = .ok (.bool (decide (a ≤ b))) w := by rw [← e]; rfl
  exact h2
theorem asc_adj {l : List Str} (h : ∀ j (hj : j + 1 < l.length), l[j] < l[j + 1]) : Asc l := by
  induction l with
  | nil => exact asc_nil
  | cons x l ih =>
    have h2 : Asc l := ih fun j hj => by
      have := h (j + 1) (by simp; omega)
      simpa using this
    refine asc_cons.2 ⟨fun y hy => ?_, h2⟩
    cases l with
    | nil => cases hy
    | cons z l =>
      have h0 : x < z := h 0 (by simp)
      rcases List.mem_cons.1 hy with rfl | hy
      · exact h0
      · exact str_lt_trans h0 ((asc_cons.1 h2).1 y hy)
theorem proper_true {p : Str} {l : List Str} (h : ∀ j (hj : j < l.length), pre p l[j] = true ∧ (∀ i (hi : i < l.length), j = i + 1 → l[i] < l[j])) : proper p l = true := by
  refine proper_iff.2 ⟨fun k hk => ?_, asc_adj fun j hj => (h (j + 1) hj).2 j (by omega) rfl⟩
  obtain ⟨j, hj, rfl⟩ := List.getElem_of_mem hk
  exact (h j hj).1
theorem proper_false1 {p : Str} {l : List Str} {j : Nat} (hj : j < l.length) (h : pre p l[j] = false) : proper p l = false := by
  rw [Bool.eq_false_iff]
  intro hh
  have := (proper_iff.1 hh).1 _ (List.getElem_mem hj)
  rw [h] at this
  cases this
theorem proper_false2 {p : Str} {l : List Str} {j : Nat} (hj : j + 1 < l.length) (h : l[j + 1] ≤ l[j]'(by omega)) : proper p l = false := by
  rw [Bool.eq_false_iff]
  intro hh
  have := List.pairwise_iff_getElem.1 (proper_iff.1 hh).2 j (j + 1) (by omega) hj (by omega)
  exact (List.not_le.2 this) h
set_option maxRecDepth 100000 in
set_option maxHeartbeats 3200000 in
theorem proper_any (w : World) (p : Str) (A : Option Addr) (l : List Str) (c : Nat) (ha : AtS w A l) :
    Calls Tryz.prog 81 #[sv p, .slice A l.length c] w fun e w' => e = .returned (.bool (proper p l)) ∧ w' = w := by
  have hm := ha.mx
  have HH := Lib.hid ha
  obtain ⟨V, hV⟩ : ∃ V, proper p l = V := ⟨_, rfl⟩
  rw [hV]
  have HV := Lib.hid hV
  clear ha hV
  go_enter Tryz.func81, Tryz.ntmps81
  go_wp2_with fail
  go_loop [9] (fun iv => ∃ k : Nat, k ≤ l.length ∧ iv = .int .i64 k ∧ ∀ j (hj : j < l.length), j < k → pre p l[j] = true ∧ (∀ i (hi : i < l.length), j = i + 1 → l[i] < l[j])) (fun iv => l.length - (intOf iv).toNat)
  case atStart => exact ⟨0, by omega, rfl, fun j hj h => absurd h (by omega)⟩
  case round =>
    obtain ⟨k, hk, rfl, hall⟩ := hrel
    have HALL := Lib.hid hall
    clear hall
    by_cases hlt : k < l.length
    · obtain ⟨bl, off, hAA, hbl, hc⟩ := HH.out.at_ (by omega)
      subst hAA
      have c0 := hc k hlt
      have i0 : (0 : Int) ≤ (k : Int) := by omega
      have i1 : (k : Int) < (l.length : Int) := by omega
      cases hp : pre p l[k] with
      | false =>
        have HF := Lib.hid (HV.out.symm.trans (proper_false1 hlt hp))
        have hcall := fun w => prefix_any l[k] p w
        rw [hp] at hcall
        generalize l[k] = y at c0 hcall
        clear hp hc
        go_wp2_with fail
        refine (hcall _).mono ?_
        rintro e w1 ⟨rfl, rfl⟩
        go_wp2_with fail
        go_ret
        exact ⟨ret_bool HF.out.symm, rfl⟩
      | true =>
        have hcall := fun w => prefix_any l[k] p w
        rw [hp] at hcall
        have HP := Lib.hid hp
        cases k with
        | zero =>
          have HN : Hid (∀ j (hj : j < l.length), j < 1 → pre p l[j] = true ∧ (∀ i (hi : i < l.length), j = i + 1 → l[i] < l[j])) := Lib.hid (fun j hj h => by
            obtain rfl : j = 0 := by omega
            exact ⟨HP.out, fun i _ e => absurd e (by omega)⟩)
          rw [Nat.add_zero] at c0
          generalize l[0] = y at c0 hcall
          clear hp hc HP
          go_wp2_with fail
          refine (hcall _).mono ?_
          rintro e w1 ⟨rfl, rfl⟩
          go_wp2_with fail
          exact ⟨⟨1, by omega, rfl, HN.out⟩, by simp only [intOf]; omega⟩
        | succ k =>
          have c1 := hc k (by omega)
          have i2 : (0 : Int) ≤ (k : Int) := by omega
          have i3 : (k : Int) < (l.length : Int) := by omega
          have hcmp := fun w => run_leqS l[k + 1] l[k] w
          have HF : Hid (decide (l[k + 1] ≤ l[k]) = true → V = false) := Lib.hid (fun h => HV.out.symm.trans (proper_false2 hlt (of_decide_eq_true h)))
          have HN : Hid (decide (l[k + 1] ≤ l[k]) = false → ∀ j (hj : j < l.length), j < k + 2 → pre p l[j] = true ∧ (∀ i (hi : i < l.length), j = i + 1 → l[i] < l[j])) := Lib.hid (fun h j hj h2 => by
            by_cases hjk : j < k + 1
            · exact HALL.out j hj hjk
            · obtain rfl : j = k + 1 := by omega
              refine ⟨HP.out, fun i hi e => ?_⟩
              obtain rfl : i = k := by omega
              exact List.not_le.1 (of_decide_eq_false h))
          generalize decide (l[k + 1] ≤ l[k]) = t at hcmp HF HN
          generalize l[k + 1] = y at c0 hcall hcmp
          generalize l[k] = z at c1 hcmp
          clear hp hc HP
          cases t with
          | true =>
            have HF2 := Lib.hid (HF.out rfl)
            go_wp2_with fail
            refine (hcall _).mono ?_
            rintro e w1 ⟨rfl, rfl⟩
            go_wp2_with fail
            go_ret
            exact ⟨ret_bool HF2.out.symm, rfl⟩
          | false =>
            have HN2 := Lib.hid (HN.out rfl)
            clear HN HF
            go_wp2_with fail
            refine (hcall _).mono ?_
            rintro e w1 ⟨rfl, rfl⟩
            go_wp2_with fail
            exact ⟨⟨k + 2, by omega, rfl, HN2.out⟩, by simp only [intOf]; omega⟩
    · obtain rfl : k = l.length := by omega
      have i1 : ¬ ((l.length : Int) < (l.length : Int)) := by omega
      have HT := Lib.hid (HV.out.symm.trans (proper_true (fun j hj => HALL.out j hj hj)))
      clear HALL
      go_wp2_with fail
      go_ret
      exact ⟨ret_bool HT.out.symm, rfl⟩
theorem info9 : (Tryz.prog.info? 9).map (fun i => (i.zero, i.size, i.bytes)) = some (some (.string ⟨#[]⟩), 1, 16) := by kernel_rfl
set_option maxRecDepth 100000 in
set_option maxHeartbeats 1600000 in
theorem cloneS_any (w : World) (A : Option Addr) (l : List Str) (c : Nat) (h : AtS w A l) :
    Calls Tryz.prog 72 #[.slice A l.length c] w fun e w' => ∃ v, e = .returned v ∧ w'.ownsRow 0 9 1 v l.length (vs l) ∧ Keeps [] w w' ∧ ∀ g ∈ fp v, w.heap.size ≤ g := by
  have hm := h.mx
  rcases A with _ | a
  · have hL : l = [] := by
      cases l with
      | nil => rfl
      | cons x r => obtain ⟨b, off, e, _⟩ := h.at_ (by simp); cases e
    subst hL
    have he := fun W => Lib.run_eql_slice_nil (P := Tryz.prog) W 29 9 none 0 c 0 0 Tryz.underlying29
    go_enter Tryz.func72, Tryz.ntmps72
    go_wp2
    go_ret
    exact ⟨_, rfl, World.ownsRow_nil _ _ _ _, Keeps.refl _ _, by simp [fp, Value.ownBlock]⟩
  · have he := fun W => Lib.run_eql_slice_nil (P := Tryz.prog) W 29 9 (some a) l.length c 0 0 Tryz.underlying29
    have HI := Lib.hid info9
    have HR := Lib.hid (h.keep ((Keeps.refl [] w).alloc (.cells #[] 9))).reads
    clear h
    go_enter Tryz.func72, Tryz.ntmps72
    go_wp2_with (at_builtin; refine wpList_app _ rfl (.tmp 5) (.tmp 6) _ rfl 9 (.string ⟨#[]⟩) 1 16 Tryz.underlying29 HI.out rfl (by omega) (.slice (some ⟨w.heap.size, 0, none⟩) 0 0) 0 [] rfl (own_of_blk (Blk.new w 9 #[]) (by omega) (by omega) rfl rfl) _ _ _ _ (vs l) rfl HR.out (vs_one l) (by unfold maxLen; omega) (by omega) ?_)
    intro v' w' ho' hk' hf'
    go_wp2
    go_ret
    have hk1 : Keeps [] w (w.alloc (.cells #[] 9)) := (Keeps.refl _ _).alloc _
    refine ⟨v', rfl, by simpa using ho', hk1.trans hk' (by simp), fun g hg => ?_⟩
    rcases hf' g hg with h2 | h2
    · have : g = w.heap.size := by simpa using h2
      omega
    · omega
end Go.Proofs.YtbllmpcpfmlemaaGreat
namespace Go.Proofs.YtbllmpcpfmlemaaGreat
open Go.RowKit
noncomputable def note8C : Code := ((Tryz.f45.body.bind (theRegion 8)).getD .skip)
set_option maxRecDepth 1000000 in
set_option maxHeartbeats 1600000 in
theorem note8_any (w : World) (c b rb mq : Nat) (c0 c2 : Value) (k : Str) (A : Option Addr) (l : List Str) (cc : Nat) (vv : Value) (t : Bool) (K : Exit → Act → World → Prop)
    (hS : ∀ W, Keeps [] w W → Blk W rb 34 #[c0, sv k, c2, .slice A l.length cc] ∧ W.cell? ⟨b, 6, none⟩ = some (.map (some mq)) ∧ (Instr.lookup 75 (.map (some mq)) (sv k) true).run Tryz.prog W = .ok (.tuple #[vv, .bool t]) W)
    (u1 u2 u3 u4 u7 u8 u9 u10 u11 u12 u13 u14 u15 u16 u17 u18 u19 u20 u21 u22 u23 u24 u25 u26 u27 u28 u29 u30 u31 u32 u33 u34 u35 u36 u37 u38 u39 u40 u41 u42 u43 u44 u45 u46 u47 u48 u49 u50 u51 u52 u53 u54 u55 u56 u57 u58 u59 u60 u61 u62 u63 u64 u65 u66 u67 : Value)
    (hK : ∀ (v41 v42 v43 v44 v45 v46 v47 v48 v49 v50 : Value) (W : World), Keeps [] w W → K .normal ⟨#[.pointer (some ⟨c, 0, none⟩), u1, u2, u3, u4, .pointer (some ⟨rb, 0, none⟩), .pointer (some ⟨b, 0, none⟩), vv, .bool t, u9, u10, u11, u12, u13, u14, u15, u16, u17, u18, u19, u20, u21, u22, u23, u24, u25, u26, u27, u28, u29, u30, u31, u32, u33, u34, u35, u36, u37, u38, u39, u40, v41, v42, v43, v44, v45, v46, v47, v48, v49, v50, u51, u52, u53, u54, u55, u56, u57, u58, u59, u60, u61, u62, u63, u64, u65, u66, u67], []⟩ W) :
    Code.wp Tryz.prog note8C K ⟨#[.pointer (some ⟨c, 0, none⟩), u1, u2, u3, u4, .pointer (some ⟨rb, 0, none⟩), .pointer (some ⟨b, 0, none⟩), u7, u8, u9, u10, u11, u12, u13, u14, u15, u16, u17, u18, u19, u20, u21, u22, u23, u24, u25, u26, u27, u28, u29, u30, u31, u32, u33, u34, u35, u36, u37, u38, u39, u40, u41, u42, u43, u44, u45, u46, u47, u48, u49, u50, u51, u52, u53, u54, u55, u56, u57, u58, u59, u60, u61, u62, u63, u64, u65, u66, u67], []⟩ w := by
  have HS := Lib.hid hS
  clear hS
  conv => arg 2; whnf
  dsimp only at hK ⊢
  refine wp_region_noPanic ?_
  refine wp_region_held_drew (S := fun W => Blk W rb 34 #[c0, sv k, c2, .slice A l.length cc] ∧ W.cell? ⟨b, 6, none⟩ = some (.map (some mq)) ∧ (Instr.lookup 75 (.map (some mq)) (sv k) true).run Tryz.prog W = .ok (.tuple #[vv, .bool t]) W) (by kernel_rfl) (HS.out _ ((Keeps.refl [] w).drew)) (fun hHeld => ?_)
  obtain ⟨w0, hw0⟩ : ∃ w0, w.drew = w0 := ⟨_, rfl⟩
  try rw [hw0] at hHeld
  rw [hw0]
  have K0 : Keeps [] w w0 := by rw [← hw0]; exact (Keeps.refl [] w).drew
  clear hw0
  refine wpAnyH_take (i := 0) (oi := ⟨some 42, .move (.tmp 6), 61, _, _, none⟩) (v := ?vq6) rfl (by kernel_rfl) (by kernel_rfl) (by kernel_rfl) (fun _ _ _ h => h) (Or.inl ⟨by rfl, fun W hW => ?_⟩) (by assumption) ?_
  rotate_left
  · go_simp
    with_reducible rfl
  try simp only [Act.put, lA, l0, lS]
  refine wpAnyH_take (i := 1) (oi := ⟨some 43, .nilCheck (.tmp 42), 0, _, _, none⟩) (v := ?vq7) rfl (by kernel_rfl) (by kernel_rfl) (by kernel_rfl) (fun _ _ _ h => h) (Or.inl ⟨by rfl, fun W hW => ?_⟩) (by assumption) ?_
  rotate_left
  · go_simp
    with_reducible rfl
  try simp only [Act.put, lA, l0, lS]
  refine wpAnyH_take (i := 2) (oi := ⟨some 44, .fieldAddr 77 (.tmp 43) 6, 0, _, _, none⟩) (v := ?vq8) rfl (by kernel_rfl) (by kernel_rfl) (by kernel_rfl) (fun _ _ _ h => h) (Or.inl ⟨by rfl, fun W hW => ?_⟩) (by assumption) ?_
  rotate_left
  · go_simp
    with_reducible rfl
  try simp only [Act.put, lA, l0, lS]
  refine wpAnyH_take (i := 3) (oi := ⟨some 45, .load 75 (.tmp 44), 75, _, _, none⟩) (v := .map (some mq)) rfl (by kernel_rfl) (by kernel_rfl) (by kernel_rfl) (fun _ _ _ h => h) (Or.inl ⟨by rfl, fun W hW => ?_⟩) (by assumption) ?_
  · (have a0 := hW.2.1; clear hW; go_simp)
  try simp only [Act.put, lA, l0, lS]
  refine wpAnyH_take (i := 4) (oi := ⟨some 46, .fieldAddr 34 (.tmp 5) 1, 0, _, _, none⟩) (v := ?vq9) rfl (by kernel_rfl) (by kernel_rfl) (by kernel_rfl) (fun _ _ _ h => h) (Or.inl ⟨by rfl, fun W hW => ?_⟩) (by assumption) ?_
  rotate_left
  · go_simp
    with_reducible rfl
  try simp only [Act.put, lA, l0, lS]
  refine wpAnyH_take (i := 5) (oi := ⟨some 47, .load 9 (.tmp 46), 9, _, _, none⟩) (v := sv k) rfl (by kernel_rfl) (by kernel_rfl) (by kernel_rfl) (fun _ _ _ h => h) (Or.inl ⟨by rfl, fun W hW => ?_⟩) (by assumption) ?_
  · (have a0 := hW.1.cell 1; clear hW; go_simp)
  try simp only [Act.put, lA, l0, lS]
  refine wpAnyH_take (i := 6) (oi := ⟨some 48, .lookup 75 (.tmp 45) (.tmp 47) true, 112, _, _, none⟩) (v := .tuple #[vv, .bool t]) rfl (by kernel_rfl) (by kernel_rfl) (by kernel_rfl) (fun _ _ _ h => h) (Or.inl ⟨by rfl, fun W hW => ?_⟩) (by assumption) ?_
  · (have a0 := hW.2.2; clear hW; go_simp)
  try simp only [Act.put, lA, l0, lS]
  refine wpAnyH_take (i := 7) (oi := ⟨some 41, .move (.tmp 48), 112, _, _, none⟩) (v := ?vq10) rfl (by kernel_rfl) (by kernel_rfl) (by kernel_rfl) (fun _ _ _ h => h) (Or.inl ⟨by rfl, fun W hW => ?_⟩) (by assumption) ?_
  rotate_left
  · go_simp
    with_reducible rfl
  try simp only [Act.put, lA, l0, lS]
  refine wpAnyH_take (i := 8) (oi := ⟨some 49, .extract (.tmp 41) 0, 29, _, _, none⟩) (v := ?vq11) rfl (by kernel_rfl) (by kernel_rfl) (by kernel_rfl) (fun _ _ _ h => h) (Or.inl ⟨by rfl, fun W hW => ?_⟩) (by assumption) ?_
  rotate_left
  · go_simp
    with_reducible rfl
  try simp only [Act.put, lA, l0, lS]
  refine wpAnyH_take (i := 9) (oi := ⟨some 50, .extract (.tmp 41) 1, 4, _, _, none⟩) (v := ?vq12) rfl (by kernel_rfl) (by kernel_rfl) (by kernel_rfl) (fun _ _ _ h => h) (Or.inl ⟨by rfl, fun W hW => ?_⟩) (by assumption) ?_
  rotate_left
  · go_simp
    with_reducible rfl
  try simp only [Act.put, lA, l0, lS]
  refine wpAnyH_take (i := 10) (oi := ⟨some 7, .assign (.tmp 49), 29, _, _, none⟩) (v := ?vq13) rfl (by kernel_rfl) (by kernel_rfl) (by kernel_rfl) (fun _ _ _ h => h) (Or.inl ⟨by rfl, fun W hW => ?_⟩) (by assumption) ?_
  rotate_left
  · go_simp
    with_reducible rfl
  try simp only [Act.put, lA, l0, lS]
  refine wpAnyH_take (i := 11) (oi := ⟨some 8, .assign (.tmp 50), 4, _, _, none⟩) (v := ?vq14) rfl (by kernel_rfl) (by kernel_rfl) (by kernel_rfl) (fun _ _ _ h => h) (Or.inl ⟨by rfl, fun W hW => ?_⟩) (by assumption) ?_
  rotate_left
  · go_simp
    with_reducible rfl
  try simp only [Act.put, lA, l0, lS]
  refine wpAnyH_done (by kernel_rfl) ?_ _
  refine NoPanic.normal ?_
  exact hK _ _ _ _ _ _ _ _ _ _ _ K0
noncomputable def noteKC : Code := ((Tryz.f45.body.bind (theRegion 10)).getD .skip)
set_option maxRecDepth 1000000 in
set_option maxHeartbeats 1600000 in
theorem noteK_any (w : World) (c b rb : Nat) (c0 c2 : Value) (k : Str) (A : Option Addr) (l : List Str) (cc : Nat) (R : World → Prop) (K : Exit → Act → World → Prop)
    (hS : ∀ W, Keeps [] w W → Blk W rb 34 #[c0, sv k, c2, .slice A l.length cc]) (hA : ∀ W, Keeps [] w W → AtS W A l)
    (hN : ∀ W As cs, Keeps [] w W → W.ownsRow 0 9 1 (.slice As l.length cs) l.length (vs l) → (∀ g ∈ fp (.slice As l.length cs), w.heap.size ≤ g) → Calls Tryz.prog 80 #[.pointer (some ⟨b, 0, none⟩), .agg #[.int .i64 1, sv k, .string ⟨#[]⟩, .slice As l.length cs]] W fun e w' => e = .returned (.tuple #[]) ∧ R w')
    (u1 u2 u3 u4 u7 u8 u9 u10 u11 u12 u13 u14 u15 u16 u17 u18 u19 u20 u21 u22 u23 u24 u25 u26 u27 u28 u29 u30 u31 u32 u33 u34 u35 u36 u37 u38 u39 u40 u41 u42 u43 u44 u45 u46 u47 u48 u49 u50 u51 u52 u53 u54 u55 u56 u57 u58 u59 u60 u61 u62 u63 u64 u65 u66 u67 : Value)
    (hK : ∀ (v60 v61 v62 v63 v64 v65 v66 v67 : Value) (W : World), R W → K .normal ⟨#[.pointer (some ⟨c, 0, none⟩), u1, u2, u3, u4, .pointer (some ⟨rb, 0, none⟩), .pointer (some ⟨b, 0, none⟩), u7, u8, u9, u10, u11, u12, u13, u14, u15, u16, u17, u18, u19, u20, u21, u22, u23, u24, u25, u26, u27, u28, u29, u30, u31, u32, u33, u34, u35, u36, u37, u38, u39, u40, u41, u42, u43, u44, u45, u46, u47, u48, u49, u50, u51, u52, u53, u54, u55, u56, u57, u58, u59, v60, v61, v62, v63, v64, v65, v66, v67], []⟩ W) :
    Code.wp Tryz.prog noteKC K ⟨#[.pointer (some ⟨c, 0, none⟩), u1, u2, u3, u4, .pointer (some ⟨rb, 0, none⟩), .pointer (some ⟨b, 0, none⟩), u7, u8, u9, u10, u11, u12, u13, u14, u15, u16, u17, u18, u19, u20, u21, u22, u23, u24, u25, u26, u27, u28, u29, u30, u31, u32, u33, u34, u35, u36, u37, u38, u39, u40, u41, u42, u43, u44, u45, u46, u47, u48, u49, u50, u51, u52, u53, u54, u55, u56, u57, u58, u59, u60, u61, u62, u63, u64, u65, u66, u67], []⟩ w := by
  have HS := Lib.hid hS
  have HA := Lib.hid hA
  have HN := Lib.hid hN
  clear hS hA hN
  conv => arg 2; whnf
  dsimp only at hK ⊢
  refine wp_region_noPanic ?_
  refine wp_region_last (S := fun W => Blk W rb 34 #[c0, sv k, c2, .slice A l.length cc]) 7 (by kernel_rfl) (HS.out _ ((Keeps.refl [] w).drew)) (fun hHeld => ?_)
  obtain ⟨w0, hw0⟩ : ∃ w0, w.drew = w0 := ⟨_, rfl⟩
  try rw [hw0] at hHeld
  rw [hw0]
  have K0 : Keeps [] w w0 := by rw [← hw0]; exact (Keeps.refl [] w).drew
  clear hw0
  refine wpG_take (nx := [7, 2, 6, 4, 5, 6, 7]) (i := 0) (oi := ⟨some 60, .move (.tmp 6), 61, _, _, none⟩) (v := ?vq1) (by kernel_rfl) rfl (by decide) (by kernel_rfl) (by kernel_rfl) (by kernel_rfl) (fun _ _ _ h => h) (Or.inl ⟨by rfl, fun W hW => ?_⟩) (by assumption) ?_
  rotate_left
  · go_simp
    with_reducible rfl
  try simp only [Act.put, lA, l0, lS]
  refine wpG_take (nx := [7, 2, 6, 4, 5, 6, 7]) (i := 1) (oi := ⟨some 61, .fieldAddr 34 (.tmp 5) 1, 0, _, _, none⟩) (v := ?vq2) (by kernel_rfl) rfl (by decide) (by kernel_rfl) (by kernel_rfl) (by kernel_rfl) (fun _ _ _ h => h) (Or.inl ⟨by rfl, fun W hW => ?_⟩) (by assumption) ?_
  rotate_left
  · go_simp
    with_reducible rfl
  try simp only [Act.put, lA, l0, lS]
  refine wpG_take (nx := [7, 2, 6, 4, 5, 6, 7]) (i := 2) (oi := ⟨some 62, .load 9 (.tmp 61), 9, _, _, none⟩) (v := sv k) (by kernel_rfl) rfl (by decide) (by kernel_rfl) (by kernel_rfl) (by kernel_rfl) (fun _ _ _ h => h) (Or.inl ⟨by rfl, fun W hW => ?_⟩) (by assumption) ?_
  · (have a0 := hW.cell 1; clear hW; go_simp)
  try simp only [Act.put, lA, l0, lS]
  refine wpG_take (nx := [7, 2, 6, 4, 5, 6, 7]) (i := 3) (oi := ⟨some 63, .fieldAddr 34 (.tmp 5) 3, 0, _, _, none⟩) (v := ?vq3) (by kernel_rfl) rfl (by decide) (by kernel_rfl) (by kernel_rfl) (by kernel_rfl) (fun _ _ _ h => h) (Or.inl ⟨by rfl, fun W hW => ?_⟩) (by assumption) ?_
  rotate_left
  · go_simp
    with_reducible rfl
  try simp only [Act.put, lA, l0, lS]
  refine wpG_take (nx := [7, 2, 6, 4, 5, 6, 7]) (i := 4) (oi := ⟨some 64, .load 29 (.tmp 63), 29, _, _, none⟩) (v := .slice A l.length cc) (by kernel_rfl) rfl (by decide) (by kernel_rfl) (by kernel_rfl) (by kernel_rfl) (fun _ _ _ h => h) (Or.inl ⟨by rfl, fun W hW => ?_⟩) (by assumption) ?_
  · (have a0 := hW.cell 3; clear hW; go_simp)
  try simp only [Act.put, lA, l0, lS]
  refine wpG_ready (rs := [5]) (by kernel_rfl) (by simp) ?_
  refine AllG.cons (o := ⟨some 65, .call { callee := .value (.func 72), args := #[.tmp 64], argTypes := #[29] }, 29, _, _, none⟩) rfl (fun KK hKK => ?_) AllG.nil
  refine step_callW (by rfl) 72 _ _ rfl #[.slice A l.length cc] (by first | (simp [Act.eval]; done) | (simp [Act.eval, Act.put]; done)) (enters_of Tryz.func72 (by kernel_rfl) rfl) (cloneS_any _ A l cc (HA.out _ K0)) ?_
  rintro e W4 ⟨vv, rfl, o2, k2, g2⟩
  refine ⟨_, rfl, ?_⟩
  have K5 : Keeps [] w W4 := K0.trans k2 (by simp)
  obtain ⟨As, cs, rfl, -, -, -⟩ := own_shape o2
  have ge2 : ∀ g ∈ fp (.slice As l.length cs), w.heap.size ≤ g := fun g hg => Nat.le_trans K0.size (g2 g hg)
  refine hKK.out _ _ (HS.out _ K5) (fun hHeld => ?_)
  clear hKK KK
  try simp only [Act.put, lA, l0, lS]
  refine wpG_take (nx := [7, 2, 6, 4, 5, 6, 7]) (i := 6) (oi := ⟨some 66, .build 34 #[(0, .const (Value.int IntKind.i64 1)), (1, .tmp 62), (3, .tmp 65)], 34, _, _, none⟩) (v := .agg #[.int .i64 1, sv k, .string ⟨#[]⟩, .slice As l.length cs]) (by kernel_rfl) rfl (by decide) (by kernel_rfl) (by kernel_rfl) (by kernel_rfl) (fun _ _ _ h => h) (Or.inl ⟨by rfl, fun W hW => ?_⟩) (by assumption) ?_
  · go_simp
  try simp only [Act.put, lA, l0, lS]
  refine wpG_ready (rs := [7]) (by kernel_rfl) (by simp) ?_
  refine AllG.last (o := ⟨some 67, .call { callee := .value (.func 80), args := #[.tmp 60, .tmp 66], argTypes := #[61, 34] }, 0, _, _, none⟩) rfl (fun KK hKK => ?_)
  refine step_callW (by rfl) 80 _ _ rfl #[.pointer (some ⟨b, 0, none⟩), .agg #[.int .i64 1, sv k, .string ⟨#[]⟩, .slice As l.length cs]] (by first | (simp [Act.eval]; done) | (simp [Act.eval, Act.put]; done)) (enters_of Tryz.func80 (by kernel_rfl) rfl) (HN.out _ As cs K5 o2 ge2) ?_
  rintro e W9 ⟨rfl, hr⟩
  refine ⟨_, rfl, ?_⟩
  refine hKK.out _ _ ?_
  clear hKK KK hHeld
  try simp only [Act.put, lA, l0, lS]
  refine wpG_done (by kernel_rfl) ?_ _
  refine NoPanic.normal ?_
  exact hK _ _ _ _ _ _ _ _ _ hr
end Go.Proofs.YtbllmpcpfmlemaaGreat
