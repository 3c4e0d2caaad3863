/- Texts of the elder seat, turned to this one: W29 W30. -/
import Derived.Test.YtbllmpcpfmlemaaGreatMN
namespace Go.Proofs.YtbllmpcpfmlemaaGreat
open Go.RowKit
section
variable {w wr wq w' : World} {c m : Nat} {Mo : Int → Mem} {L : Nat → Option (Int × Nat)} {F G : List Nat} {C D : St} {P : List Str}
theorem stepOn_other {p i : Int} (hs : StepOn p w wr c m Mo F G D) {x : One} (hx : find D i = some x) (hp : i ≠ p) : OneAt wr (Mo i) (parOf Mo x) (kids D i) x := by
  obtain ⟨row, sl, L', F', G', h1, _⟩ := hs
  have := (h1.at_ hx).1
  rw [upMo_ne Mo row sl hp, parOf_upMo] at this
  exact this
theorem stepOn_ask {p : Int} (hs : StepOn p w wr c m Mo F G D) (hD : WF P D) (hP : PoolOk P) {y : One} (hy : find D p = some y) (k : Str) (hk : kS.ok k) : ∀ W, Keeps [] wr W →
    Calls Tryz.prog 76 #[.pointer (some ⟨(Mo p).b, 0, none⟩), sv k] W fun e w' => e = .returned (.tuple #[]) ∧ StepOn p w w' c m Mo F G (askP D p k) := by
  intro W hW
  obtain ⟨row, sl, L', F', G', h1, h2, h3, h4, h5⟩ := hs
  have h := ask_any (h1.keep0 hW) hD hP hy k hk
  rw [upMo_b] at h
  refine h.mono ?_
  rintro e w' ⟨rfl, hs2⟩
  exact ⟨rfl, (hs2.before hW).next h2 h3 h4 h5⟩
theorem stepOn_askK {p : Int} (hs : StepOn p w wr c m Mo F G D) (hD : WF P D) (hP : PoolOk P) {y : One} (hy : find D p = some y) (k : Str) (hk : kS.ok k) : ∀ W, Keeps [] wr W →
    Calls Tryz.prog 77 #[.pointer (some ⟨(Mo p).b, 0, none⟩), sv k] W fun e w' => e = .returned (.tuple #[]) ∧ StepOn p w w' c m Mo F G (askKP D p k) := by
  intro W hW
  obtain ⟨row, sl, L', F', G', h1, h2, h3, h4, h5⟩ := hs
  have h := askKeys_any (h1.keep0 hW) hD hP hy k hk
  rw [upMo_b] at h
  refine h.mono ?_
  rintro e w' ⟨rfl, hs2⟩
  exact ⟨rfl, (hs2.before hW).next h2 h3 h4 h5⟩
theorem find_setWr (D : St) (p : Int) (f : List (Str × Str) → List (Str × Str)) {o : One} (h : find D p = some o) : find (upd D p (setWr f)) p = some (setWr f o) := by rw [find_wr, if_pos rfl, h]; rfl
theorem find_setLg (D : St) (p : Int) (f : List (Str × Str) → List (Str × Str)) {o : One} (h : find D p = some o) : find (upd D p (setLg f)) p = some (setLg f o) := by rw [find_lg, if_pos rfl, h]; rfl
theorem put_round {p : Int} {o : One} {wr' : List (Str × Str)} (hr : RepM wq c m Mo L F G (upd D p (setWr fun _ => wr'))) (hT : Tree D) (ho : find D p = some o) (ha : AscK wr') (hl : wr'.length < maxLen) (k v : Str) (hk : kS.ok k) :
    Calls Tryz.prog 78 #[.pointer (some ⟨(Mo p).b, 0, none⟩), sv k, sv v] wq fun e w' => e = .returned (.tuple #[]) ∧ (∃ L', RepM w' c m Mo L' (fp (Mo p).row ++ F) G (upd D p (setWr fun _ => wrPut p k v wr'))) ∧ Keeps [(Mo p).mw] wq w' := by
  have hf := find_setWr D p (fun _ => wr') ho
  have hT2 : Tree (upd D p (setWr fun _ => wr')) := hT.updT (fun _ => rfl) (fun _ => rfl) (fun _ _ => rfl)
  obtain ⟨h1, h2⟩ := hr.at_ hf
  have hid : (setWr (fun _ => wr') o).id = p := (find_mem hf).2
  refine (put_any h1 h2 parOf_iff (show AscK wr' from ha) (show wr'.length < maxLen from hl) k v hk).mono ?_
  rintro e w' ⟨rfl, o1, k1⟩
  refine ⟨rfl, ?_, k1⟩
  rw [hid] at o1
  obtain ⟨L', hr2⟩ := hr.wrote' hT2 hf k1 (by simp [Mem.blocks]) (g := setWr (wrPut p k v)) (fun _ => rfl) (fun _ => rfl) (fun _ => rfl) o1
  refine ⟨L', ?_⟩
  rw [upd_upd (f := setWr fun _ => wr') (fun _ => rfl)] at hr2
  exact hr2
theorem log_round {p : Int} {o : One} {lg' : List (Str × Str)} {n : Nat} (hr : RepM wq c m Mo L F G (upd D p (setLg fun _ => lg'))) (hT : Tree D) (ho : find D p = some o) (ha : AscK lg') (k v : Str)
    (hm : GMap kS eS w' (Mo p).ml n (updG (mget lg') k (some ((mget lg' k).getD [] ++ v)))) (hk : Keeps [(Mo p).ml] wq w') : ∃ L', RepM w' c m Mo L' (fp (Mo p).row ++ F) G (upd D p (setLg fun _ => lgAdd k v lg')) := by
  have hf := find_setLg D p (fun _ => lg') ho
  have hT2 : Tree (upd D p (setLg fun _ => lg')) := hT.updT (fun _ => rfl) (fun _ => rfl) (fun _ _ => rfl)
  obtain ⟨h1, h2⟩ := hr.at_ hf
  have e1 : updG (mget lg') k (some ((mget lg' k).getD [] ++ v)) = mget (lgAdd k v lg') := by
    funext j
    unfold updG
    rw [mget_lgAdd ha]
    by_cases hj : j = k <;> simp [hj]
  rw [e1] at hm
  obtain ⟨L', hr2⟩ := hr.wrote' hT2 hf hk (by simp [Mem.blocks]) (g := setLg (lgAdd k v)) (fun _ => rfl) (fun _ => rfl) (fun _ => rfl) (h1.logged h2 (lgAdd k v) (GMap.asList hm) hk)
  refine ⟨L', ?_⟩
  rw [upd_upd (f := setLg fun _ => lg') (fun _ => rfl)] at hr2
  exact hr2
theorem keys_take {l : List Rd} (k : Nat) : (∀ s ∈ cellKeys (l.take k), s ∈ cellKeys l) ∧ ∀ s ∈ prefixes (l.take k), s ∈ prefixes l := by
  have h1 := cellKeys_append (l.take k) (l.drop k)
  have h2 := prefixes_append (l.take k) (l.drop k)
  rw [List.take_append_drop] at h1 h2
  exact ⟨fun s hs => by rw [h1]; exact List.mem_append_left _ hs, fun s hs => by rw [h2]; exact List.mem_append_left _ hs⟩
end
end Go.Proofs.YtbllmpcpfmlemaaGreat
namespace Go.Proofs.YtbllmpcpfmlemaaGreat
open Go.RowKit
section
variable {w : World} {c : Nat} {F G : List Nat} {C : St} {P : List Str}
theorem commit_none {C : St} {i : Int} (h : has C i = false) : commitP C i = (4, C) := by unfold commitP; rw [find_none.2 h]
set_option maxRecDepth 100000 in
set_option maxHeartbeats 6400000 in
theorem commitOp_any (h : Cs w c F G C) (hW : WF P C) (hP : PoolOk P) (hl : C.length ≤ 1000000) (hlg : lgSize C ≤ 400000000) {i : Int} (hi : I64 i) :
    Calls Tryz.prog 43 #[.pointer (some ⟨c, 0, none⟩), .int .i64 i] w fun e w' => e = .returned (.int .i64 (commitP C i).1) ∧ Turned w w' c F G (commitP C i).2 := by
  obtain ⟨m, Mo, L, h⟩ := h
  have f0 : w.cell? ⟨c, 0, none⟩ = some (.map (some m)) := h.cb.cell 0
  have l0 := h.look hi.1 hi.2
  cases hh : has C i with
  | false =>
    rw [commit_none hh]
    simp only [hh] at l0
    have l0' : (Instr.lookup 63 (.map (some m)) (.int .i64 i) false).run Tryz.prog w = .ok (.pointer none) w := l0
    have HR := Lib.hid h
    clear h l0 hh hi
    go_enter Tryz.func43, Tryz.ntmps43
    go_wp2_with fail
    go_ret
    exact ⟨rfl, Turned.same ⟨m, Mo, L, HR.out⟩ (Keeps.refl _ _)⟩
  | true =>
    obtain ⟨x, hx⟩ := has_find hh
    obtain ⟨hxC, hxi⟩ := find_mem hx
    obtain ⟨o, hlab⟩ := h.at_ hx
    simp only [hh, if_true] at l0
    have l0' : (Instr.lookup 63 (.map (some m)) (.int .i64 i) false).run Tryz.prog w = .ok (.pointer (some ⟨(Mo i).b, 0, none⟩)) w := l0
    have g0 : w.cell? ⟨(Mo i).b, 0, none⟩ = some (pv (parOf Mo x)) := o.b.cell 0
    have g1 : w.cell? ⟨(Mo i).b, 1, none⟩ = some (.int .i64 (kids C i)) := o.b.cell 1
    have HE : Hid (commitP C i = if i = 0 then (4, C) else if 0 < kids C i then (8, C) else (0, dropP (give C x) i)) := Lib.hid (by unfold commitP; rw [hx])
    by_cases h0 : i = 0
    · have e := HE.out
      rw [if_pos h0] at e
      rw [e]
      rw [parOf_iff.2 (hxi.trans h0)] at g0
      have g0' : w.cell? ⟨(Mo i).b, 0, none⟩ = some (.pointer none) := g0
      have HR := Lib.hid h
      clear h l0 hh hi g0 o hlab hxi hx hW e h0
      go_enter Tryz.func43, Tryz.ntmps43
      go_wp2_with fail
      go_ret
      exact ⟨rfl, Turned.same ⟨m, Mo, L, HR.out⟩ (Keeps.refl _ _)⟩
    · have hpp : parOf Mo x = some (Mo x.par).b := by unfold parOf; rw [if_neg (by rw [hxi]; exact h0)]
      rw [hpp] at g0
      have g0' : w.cell? ⟨(Mo i).b, 0, none⟩ = some (.pointer (some ⟨(Mo x.par).b, 0, none⟩)) := g0
      by_cases hk : 0 < kids C i
      · have e := HE.out
        rw [if_neg h0, if_pos hk] at e
        rw [e]
        have hk2 : (0 : Int) < (kids C i : Int) := by omega
        have HR := Lib.hid h
        clear h l0 hh hi g0 o hlab hxi hx hW e hpp hk
        generalize (kids C i : Int) = kk at g1 hk2
        go_enter Tryz.func43, Tryz.ntmps43
        go_wp2_with fail
        go_ret
        exact ⟨rfl, Turned.same ⟨m, Mo, L, HR.out⟩ (Keeps.refl _ _)⟩
      · have e := HE.out
        rw [if_neg h0, if_neg hk] at e
        rw [e]
        have hk0 : kids C i = 0 := by omega
        have hnk := noKids_iff.1 hk0
        have hpi : x.par ≠ i := hnk x hxC (by rw [hxi]; exact h0)
        obtain ⟨y, hy⟩ := has_find (hW.tree.par hxC (by rw [hxi]; exact h0))
        rw [hk0] at g1
        have g1' : w.cell? ⟨(Mo i).b, 1, none⟩ = some (.int .i64 0) := g1
        obtain ⟨A, cap, hrow, -, -, hA⟩ := own_shape o.o
        have g4 : w.cell? ⟨(Mo i).b, 4, none⟩ = some (.slice A x.rd.length cap) := by
          have : w.cell? ⟨(Mo i).b, 4, none⟩ = some (Mo i).row := o.b.cell 4
          rw [hrow] at this
          exact this
        have HROW := Lib.hid hrow
        have HA := Lib.hid hA
        have hrd := rd_le hW hP hxC
        have HOX := Lib.hid (hW.ok x hxC)
        have HR := Lib.hid h
        have HW := Lib.hid hW
        have HP := Lib.hid hP
        have HX := Lib.hid hx
        have HY := Lib.hid hy
        have HPI := Lib.hid hpi
        have HXI := Lib.hid hxi
        clear h l0 hh g0 g1 o hlab hxi hx hW e hpp hk hk0 hnk hy hpi hrow hA HE hP
        obtain ⟨n, hn⟩ : ∃ n, x.rd.length = n := ⟨_, rfl⟩
        rw [hn] at g4 hrd HROW HA
        have HN := Lib.hid hn
        clear hn
        obtain ⟨p, hp⟩ : ∃ p, x.par = p := ⟨_, rfl⟩
        have HPX := Lib.hid hp
        rw [hp] at g0' HY HPI
        clear hp
        go_enter Tryz.func43, Tryz.ntmps43
        go_wp2_with fail
        go_loopw [39] (fun iv wr => ∃ k : Nat, k ≤ n ∧ iv = .int .i64 k ∧ StepOn p w wr c m Mo F G (reAsk C p (x.rd.take k))) (fun iv _ => n - (intOf iv).toNat)
        case atStart => exact ⟨0, by omega, rfl, by rw [List.take_zero]; exact StepOn.same HR.out (Keeps.refl _ _)⟩
        case round =>
          obtain ⟨k, hk, rfl, hs⟩ := hrel
          have HS := Lib.hid hs
          have hxD := find_reAsk_off HX.out HPI.out (x.rd.take k)
          have ho := stepOn_other hs hxD (Ne.symm HPI.out)
          have hpp : parOf Mo x = some (Mo p).b := by unfold parOf; rw [if_neg (by rw [HXI.out]; exact h0), HPX.out]
          have q0 : wr.cell? ⟨(Mo i).b, 0, none⟩ = some (.pointer (some ⟨(Mo p).b, 0, none⟩)) := by
            have : wr.cell? ⟨(Mo i).b, 0, none⟩ = some (pv (parOf Mo x)) := ho.b.cell 0
            rw [hpp] at this
            exact this
          have HWD : Hid (WF P (reAsk C p (x.rd.take k))) := Lib.hid (HW.out.reAsk p _ (fun s hs => HOX.out.cp s ((keys_take k).1 s hs)) (fun s hs => HOX.out.pp s ((keys_take k).2 s hs)))
          have HYD : Hid (∃ y, find (reAsk C p (x.rd.take k)) p = some y) := Lib.hid (has_find (by rw [(grow_reAsk p _ C).1, ← find_has, HY.out]; rfl))
          have HO := Lib.hid ho
          have i0 : (0 : Int) ≤ (k : Int) := by omega
          clear hs hxD ho hpp
          by_cases hlt : k < n
          · have hkl : k < x.rd.length := by rw [HN.out]; exact hlt
            obtain ⟨b, hAb⟩ := HA.out (by omega)
            subst hAb
            have i1 : (k : Int) < (n : Int) := by omega
            have hor := HO.out.o
            rw [HROW.out, HN.out] at hor
            have HTK := Lib.hid (reAsk_snoc C p x.rd k hkl)
            have hmem := List.getElem_mem hkl
            have hcell : ∀ j (_ : j < 4) u, (rdC (Mo i).sl x.rd[k])[j]? = some u → wr.cell? ⟨b, k * 4 + j, none⟩ = some u := fun j hj u hu => own_cell hor (by rw [rw_at (rdC_len _) hkl hj]; exact hu)
            cases hr : x.rd[k] with
            | cell ky v =>
              rw [hr] at hcell HTK hmem
              have c0 : wr.cell? ⟨b, k * 4, none⟩ = some (.int .i64 0) := hcell 0 (by omega) _ rfl
              have c1 : wr.cell? ⟨b, k * 4 + 1, none⟩ = some (sv ky) := hcell 1 (by omega) _ rfl
              have c2 : wr.cell? ⟨b, k * 4 + 2, none⟩ = some (sv v) := hcell 2 (by omega) _ rfl
              have c3 : wr.cell? ⟨b, k * 4 + 3, none⟩ = some (.slice none 0 0) := hcell 3 (by omega) _ rfl
              have hok := HP.out.k ky (HOX.out.cp ky (mem_cellKeys hmem))
              have KA : Hid (Keeps [] wr (wr.alloc (.cells #[.int .i64 0, sv ky, sv v, .slice none 0 0] 34))) := Lib.hid ((Keeps.refl [] wr).alloc _)
              have BA := Lib.hid (Blk.new wr 34 #[.int .i64 0, sv ky, sv v, .slice none 0 0])
              have Q0 := Lib.hid q0
              have HC : Hid (∀ W, Keeps [] wr W → Calls Tryz.prog 76 #[.pointer (some ⟨(Mo p).b, 0, none⟩), sv ky] W fun e w' => e = .returned (.tuple #[]) ∧ StepOn p w w' c m Mo F G (askP (reAsk C p (x.rd.take k)) p ky)) := Lib.hid (by
                obtain ⟨y', hy'⟩ := HYD.out
                exact stepOn_ask HS.out HWD.out HP.out hy' ky hok)
              clear hcell hr hor hmem q0
              go_upto_region 9 with fail
              generalize wr.alloc (.cells #[.int .i64 0, sv ky, sv v, .slice none 0 0] 34) = w1 at KA BA ⊢
              generalize wr.heap.size = rb at BA ⊢
              have b0 : w1.cell? ⟨rb, 0, none⟩ = some (.int .i64 0) := BA.out.cell 0
              go_upto_region 10 with fail
              refine com10_any w1 (Mo i).b (Mo p).b rb ky (fun w' => StepOn p w w' c m Mo F G (askP (reAsk C p (x.rd.take k)) p ky)) _ (fun W hW => ⟨((KA.out.trans hW (by simp)).cell (p := ⟨(Mo i).b, 0, none⟩) (cell_lt Q0.out) (by simp)).trans Q0.out, (hW.cell (p := ⟨rb, 1, none⟩) BA.out.lt (by simp)).trans (BA.out.cell 1)⟩) (fun W hW => HC.out W (KA.out.trans hW (by simp))) _ _ _ _ _ _ _ _ _ _ _ _ _ _ _ _ _ _ _ _ _ _ _ _ _ _ _ _ _ _ _ _ _ _ _ _ _ _ _ _ _ _ _ _ _ _ _ _ _ _ _ _ _ _ _ _ _ _ _ _ _ _ _ _ _ _ _ _ _ _ _ _ _ _ _ _ _ _ _ _ _ _ _ _ _ _ _ _ _ _ _ _ _ _ _ _ _ _ _ _ _ ?_
              intro v46 v47 v48 v49 v50 v51 v52 W hsW
              have HSW : Hid (StepOn p w W c m Mo F G (reAsk C p (x.rd.take (k + 1)))) := Lib.hid (by rw [HTK.out]; exact hsW)
              clear hsW
              go_wp2_with fail
              (repeat apply Exists.intro)
              go_roundw
              case rel => exact ⟨k + 1, by omega, rfl, HSW.out⟩
              case measure => simp only [intOf]; omega
            | keys ky v =>
              rw [hr] at hcell HTK hmem
              have c0 : wr.cell? ⟨b, k * 4, none⟩ = some (.int .i64 1) := hcell 0 (by omega) _ rfl
              have c1 : wr.cell? ⟨b, k * 4 + 1, none⟩ = some (sv ky) := hcell 1 (by omega) _ rfl
              have c2 : wr.cell? ⟨b, k * 4 + 2, none⟩ = some (sv []) := hcell 2 (by omega) _ rfl
              have c3 : wr.cell? ⟨b, k * 4 + 3, none⟩ = some ((Mo i).sl ky).v := hcell 3 (by omega) _ rfl
              obtain ⟨sA, sn, sc, hsl⟩ : ∃ A n c, ((Mo i).sl ky).v = .slice A n c := ⟨_, _, _, rfl⟩
              rw [hsl] at c3
              have hok := HP.out.k ky (HOX.out.pp ky (mem_prefixes hmem))
              have KA : Hid (Keeps [] wr (wr.alloc (.cells #[.int .i64 1, sv ky, sv [], .slice sA sn sc] 34))) := Lib.hid ((Keeps.refl [] wr).alloc _)
              have BA := Lib.hid (Blk.new wr 34 #[.int .i64 1, sv ky, sv [], .slice sA sn sc])
              have Q0 := Lib.hid q0
              have HC : Hid (∀ W, Keeps [] wr W → Calls Tryz.prog 77 #[.pointer (some ⟨(Mo p).b, 0, none⟩), sv ky] W fun e w' => e = .returned (.tuple #[]) ∧ StepOn p w w' c m Mo F G (askKP (reAsk C p (x.rd.take k)) p ky)) := Lib.hid (by
                obtain ⟨y', hy'⟩ := HYD.out
                exact stepOn_askK HS.out HWD.out HP.out hy' ky hok)
              clear hcell hr hor hmem q0 hsl
              go_upto_region 9 with fail
              generalize wr.alloc (.cells #[.int .i64 1, sv ky, sv [], .slice sA sn sc] 34) = w1 at KA BA ⊢
              generalize wr.heap.size = rb at BA ⊢
              have b0 : w1.cell? ⟨rb, 0, none⟩ = some (.int .i64 1) := BA.out.cell 0
              go_upto_region 11 with fail
              refine com11_any w1 (Mo i).b (Mo p).b rb ky (fun w' => StepOn p w w' c m Mo F G (askKP (reAsk C p (x.rd.take k)) p ky)) _ (fun W hW => ⟨((KA.out.trans hW (by simp)).cell (p := ⟨(Mo i).b, 0, none⟩) (cell_lt Q0.out) (by simp)).trans Q0.out, (hW.cell (p := ⟨rb, 1, none⟩) BA.out.lt (by simp)).trans (BA.out.cell 1)⟩) (fun W hW => HC.out W (KA.out.trans hW (by simp))) _ _ _ _ _ _ _ _ _ _ _ _ _ _ _ _ _ _ _ _ _ _ _ _ _ _ _ _ _ _ _ _ _ _ _ _ _ _ _ _ _ _ _ _ _ _ _ _ _ _ _ _ _ _ _ _ _ _ _ _ _ _ _ _ _ _ _ _ _ _ _ _ _ _ _ _ _ _ _ _ _ _ _ _ _ _ _ _ _ _ _ _ _ _ _ _ _ _ _ _ _ ?_
              intro v53 v54 v55 v56 v57 v58 v59 W hsW
              have HSW : Hid (StepOn p w W c m Mo F G (reAsk C p (x.rd.take (k + 1)))) := Lib.hid (by rw [HTK.out]; exact hsW)
              clear hsW
              go_wp2_with fail
              (repeat apply Exists.intro)
              go_roundw
              case rel => exact ⟨k + 1, by omega, rfl, HSW.out⟩
              case measure => simp only [intOf]; omega
          · obtain rfl : k = n := by omega
            have i1 : ¬ ((k : Int) < (k : Int)) := by omega
            have etk : x.rd.take k = x.rd := List.take_of_length_le (by rw [HN.out]; exact Nat.le_refl _)
            rw [etk] at HS HWD HYD
            obtain ⟨D, hD⟩ : ∃ D, reAsk C p x.rd = D := ⟨_, rfl⟩
            have hxD := find_reAsk_off HX.out HPI.out x.rd
            have hlgD := lgSize_reAsk p x.rd C
            have hlD := len_reAsk p x.rd C
            have hgive : give C x = upd (upd D p (setWr (wrAll p x.wr))) p (setLg (lgAll x.lg)) := by
              unfold give
              rw [HPX.out, hD, putAll_eq, logAll_eq]
            have HGIVE := Lib.hid hgive
            rw [hD] at HS HWD HYD hxD hlgD hlD
            have HXD := Lib.hid hxD
            have hlgD2 : lgSize D ≤ 400000000 := by omega
            have hlD2 : D.length ≤ 1000000 := by omega
            clear hxD etk hgive hD hlgD hlD
            obtain ⟨ws, hws⟩ : ∃ ws, ws = wr := ⟨_, rfl⟩
            subst hws
            obtain ⟨row, sl, L1, F1, G1, h1, h2, h3, h4, h5⟩ := HS.out
            have HM := Lib.hid h2
            have HMG := Lib.hid h3
            have HSUB : Hid (∀ b ∈ (upMo Mo p row sl p).blocks, b ∈ (Mo p).blocks ∨ w.heap.size ≤ b) := Lib.hid (fun b hb => by
              rw [upMo_eq] at hb
              simp only [Mem.blocks, List.mem_cons] at hb ⊢
              rcases hb with hb | hb | hb | hb | hb | hb
              · exact .inl (.inl hb)
              · exact .inl (.inr (.inl hb))
              · exact .inl (.inr (.inr (.inl hb)))
              · exact .inl (.inr (.inr (.inr (.inl hb))))
              · exact .inl (.inr (.inr (.inr (.inr (.inl hb)))))
              · exact (h4 b hb).imp (fun h => .inr (.inr (.inr (.inr (.inr h))))) id)
            have HK5 := Lib.hid h5
            have HR1 := Lib.hid h1
            have hMi : upMo Mo p row sl i = Mo i := upMo_ne Mo row sl (Ne.symm HPI.out)
            have hMp : (upMo Mo p row sl p).b = (Mo p).b := upMo_b _ _ _ _ _
            have HMI := Lib.hid hMi
            have HMP := Lib.hid hMp
            clear h1 h2 h3 h4 h5 hMi hMp HS HO
            generalize upMo Mo p row sl = M1 at HR1 HMI HMP HSUB
            have hpp1 : parOf M1 x = some (Mo p).b := by unfold parOf; rw [if_neg (by rw [HXI.out]; exact h0), HPX.out, HMP.out]
            have HPP1 := Lib.hid hpp1
            obtain ⟨y1, hy1⟩ := HYD.out
            have HY1 := Lib.hid hy1
            have hxat := (HR1.out.at_ HXD.out).1
            rw [HMI.out, hpp1] at hxat
            have q2 : ws.cell? ⟨(Mo i).b, 2, none⟩ = some (.map (some (Mo i).mw)) := hxat.b.cell 2
            have HWM := Lib.hid hxat.wm
            have hwx := HOX.out.wr
            have hy1ok := HWD.out.ok y1 (find_mem hy1).1
            have HYOK := Lib.hid hy1ok
            clear hpp1 hy1 hxat hwx hy1ok HYD
            go_wp2_with (at_range; refine wpList_rangeG rfl _ _ rfl Tryz.underlying74 rfl HWM.out ?_; intro w3 cnt0 hc0 hr0 k0 hz0)
            have HR0 := Lib.hid hr0
            have K0 := Lib.hid k0
            have hmlt : (Mo i).mw < ws.heap.size := HWM.out.lt
            have HR3 := Lib.hid (HR1.out.keep0 k0)
            clear hr0 k0
            have e00 : upd D p (setWr fun _ => y1.wr) = D := upd_id (fun z hz => by rw [HY1.out] at hz; injection hz with hz; subst hz; rfl) HWD.out.tree
            have E00 := Lib.hid e00
            clear e00
            have hz3 : ws.heap.size < w3.heap.size := by omega
            go_loopw [8] (fun _ wq => ∃ (left : Str → Prop) (cnt : Nat) (wr' : List (Str × Str)) (L' : Nat → Option (Int × Nat)) (F' : List Nat), GRng kS eS wq (Mo i).mw ws.heap.size x.wr.length (mget x.wr) left cnt ∧ PutAt P p x.wr y1.wr left wr' ∧ RepM wq c m M1 L' F' G1 (upd D p (setWr fun _ => wr')) ∧ More w3 F1 F' ∧ Keeps (M1 p).blocks ws wq) (fun _ wq => wq.rangeLeft (Mo i).mw ws.heap.size)
            case atStart => exact ⟨_, cnt0, y1.wr, L1, F1, HR0.out, PutAt.start HYOK.out.wr HYOK.out.wp, by rw [E00.out]; exact HR3.out, More.refl _ _, K0.out.mono (by simp)⟩
            case round =>
              obtain ⟨left, cnt, wr', L', F', hr, hpa, hrep, hmo, hkq⟩ := hrel
              have HRG := Lib.hid hr
              have HPA := Lib.hid hpa
              have HREP := Lib.hid hrep
              have HMO := Lib.hid hmo
              have HKQ := Lib.hid hkq
              have hle := hr.left_eq
              have hsz : w3.heap.size ≤ wr.heap.size ∨ ws.heap.size ≤ wr.heap.size := .inr hkq.size
              clear hr hpa hrep hmo hkq HR0 HR3
              go_wp2_with (at_next; refine wpList_nextG rfl _ rfl rfl HRG.out ?_ ?_)
              · intro hdone
                have hwe := HPA.out.end_ HP.out HOX.out.wr HOX.out.wp HYOK.out.wr HYOK.out.wp hdone
                have HD2 : Hid (upd D p (setWr fun _ => wr') = upd D p (setWr (wrAll p x.wr))) := Lib.hid (upd_congr (fun z hz => by rw [HY1.out] at hz; injection hz with hz; subst hz; rw [hwe]; rfl) HWD.out.tree)
                have HREP2 := HREP
                rw [HD2.out] at HREP2
                have hfx : find (upd D p (setWr (wrAll p x.wr))) i = some x := by rw [find_wr, if_neg (Ne.symm HPI.out)]; exact HXD.out
                have HFX := Lib.hid hfx
                have hfy := find_setWr D p (wrAll p x.wr) HY1.out
                have HFY := Lib.hid hfy
                have hT2 : Tree (upd D p (setWr (wrAll p x.wr))) := HWD.out.tree.updT (fun _ => rfl) (fun _ => rfl) (fun _ _ => rfl)
                have HT2 := Lib.hid hT2
                have hxat := (HREP2.out.at_ hfx).1
                rw [HMI.out, HPP1.out] at hxat
                have q3 : wr.cell? ⟨(Mo i).b, 3, none⟩ = some (.map (some (Mo i).ml)) := hxat.b.cell 3
                have HLM := Lib.hid hxat.l
                have hlml : (Mo i).ml < wr.heap.size := hxat.l.lt
                clear hdone hwe hfx hfy hT2 hxat HREP HRG HPA HD2 q0 q2
                generalize hD2 : upd D p (setWr (wrAll p x.wr)) = D2 at HREP2 HGIVE HFX HFY HT2
                clear hD2
                obtain ⟨wd, hwd⟩ : ∃ wd, wd = wr := ⟨_, rfl⟩
                subst hwd
                go_wp2_with (at_range; refine wpList_rangeG rfl _ _ rfl Tryz.underlying74 rfl HLM.out ?_; intro w5 cnt5 hc5 hr5 k5 hz5)
                go_frame
                have HR5 := Lib.hid hr5
                have K5 := Lib.hid k5
                have HRE5 := Lib.hid (HREP2.out.keep0 k5)
                have hz5' : wd.heap.size < w5.heap.size := by omega
                clear hr5 k5
                have e00 : upd D2 p (setLg fun _ => y1.lg) = D2 := upd_id (fun z hz => by rw [HFY.out] at hz; injection hz with hz; subst hz; rfl) HT2.out
                have E02 := Lib.hid e00
                clear e00
                go_loopw [10] (fun _ wq => ∃ (left : Str → Prop) (cnt : Nat) (lg' : List (Str × Str)) (L' : Nat → Option (Int × Nat)) (F2 : List Nat), GRng kS eS wq (Mo i).ml wd.heap.size x.lg.length (mget x.lg) left cnt ∧ LogAt P x.lg y1.lg left lg' ∧ RepM wq c m M1 L' F2 G1 (upd D2 p (setLg fun _ => lg')) ∧ More w5 F' F2 ∧ Keeps (M1 p).blocks wd wq) (fun _ wq => wq.rangeLeft (Mo i).ml wd.heap.size)
                case atStart => exact ⟨_, cnt5, y1.lg, L', F', HR5.out, LogAt.start HYOK.out.lg HYOK.out.lp, by rw [E02.out]; exact HRE5.out, More.refl _ _, K5.out.mono (by simp)⟩
                case round =>
                  obtain ⟨left3, cnt3, lg', L3, F2, hr, hla, hrep, hmo, hkq⟩ := hrel
                  have HRG := Lib.hid hr
                  have HLA := Lib.hid hla
                  have HREP := Lib.hid hrep
                  have HMO2 := Lib.hid hmo
                  have HKQ2 := Lib.hid hkq
                  have hle3 := hr.left_eq
                  clear hr hla hrep hmo hkq HR5 HRE5
                  go_wp2_with (at_next; refine wpList_nextG rfl _ rfl rfl HRG.out ?_ ?_)
                  · intro hdone
                    have hwe := HLA.out.end_ HP.out HOX.out.lg HOX.out.lp HYOK.out.lg HYOK.out.lp hdone
                    have hD3 : upd D2 p (setLg fun _ => lg') = give C x := by
                      rw [HGIVE.out]
                      exact upd_congr (fun z hz => by rw [HFY.out] at hz; injection hz with hz; subst hz; rw [hwe]; rfl) HT2.out
                    have HREP3 := HREP
                    rw [hD3] at HREP3
                    have hgT := tree_give HW.out.tree x
                    have hgl := len_give C x
                    have hgf : find (give C x) i = some x := by
                      rcases find_give HX.out with h1 | h1
                      · exact h1
                      · rw [HPX.out] at h1; exact absurd h1 HPI.out
                    have hdrop := drop_any HREP3.out hgT (by omega) hi hgf h0
                    rw [HMI.out, HPX.out] at hdrop
                    have HTUR : Hid (∀ w9, RepM w9 c m M1 L3 F2 G1 (dropP (give C x) i) → Keeps [(M1 p).b, m] wr w9 → Turned w w9 c F G (dropP (give C x) i)) := Lib.hid (fun w9 h9 k9 => by
                      have hw3 : w.heap.size ≤ w3.heap.size := by have := HK5.out.size; omega
                      have hw5 : w.heap.size ≤ w5.heap.size := by have := HK5.out.size; have := HKQ.out.size; omega
                      have hpF : ∀ g ∈ (Mo p).blocks, g ∈ F := fun g hg => HR.out.blkFi HY.out hg
                      have k1 := HK5.out.mono hpF
                      have k2 : Keeps F w wd := k1.trans HKQ.out (fun g hg => (HSUB.out g hg).imp (hpF g) id)
                      have k3 : Keeps F w wr := k2.trans HKQ2.out (fun g hg => (HSUB.out g hg).imp (hpF g) id)
                      refine ⟨F2, G1, ⟨m, M1, L3, h9⟩, (HM.out.trans HMO.out hw3).trans HMO2.out hw5, HMG.out, k3.trans k9 (fun g hg => .inl ?_)⟩
                      simp only [List.mem_cons, List.not_mem_nil, or_false] at hg
                      rcases hg with rfl | rfl
                      · rw [HMP.out]; exact hpF _ (by simp [Mem.blocks])
                      · exact HR.out.mF)
                    clear hdone hwe hD3 hgT hgl hgf HREP HRG HLA
                    go_wp2_with fail
                    refine hdrop.mono ?_
                    rintro e w9 ⟨rfl, h9, k9⟩
                    have HFIN := Lib.hid (HTUR.out w9 h9 k9)
                    clear h9 k9 hdrop
                    go_wp2_with fail
                    go_ret
                    exact ⟨rfl, HFIN.out⟩
                  · intro ky v w6 cnt' hok hfx hlx hr2 hlt2 k2 hz2 hen
                    have hen' : (Instr.entry (.pointer (some ⟨wd.heap.size, 0, none⟩))).run Tryz.prog w6 = .ok (.tuple #[sv ky, sv v]) w6 := hen
                    have hG1 : ∀ g ∈ G1, g < wd.heap.size := fun g hg => HREP2.out.ltG g hg
                    have hF1 : ∀ g ∈ F', g < wd.heap.size := fun g hg => HREP2.out.ltF g hg
                    have hF' : ∀ g ∈ F2, g ≠ wd.heap.size := fun g hg e => by
                      rcases HMO2.out.2 g hg with h1 | h1
                      · have := hF1 g h1; omega
                      · omega
                    have hrep4 := HREP.out.keep k2 (fun g hg hgF => hF' g hgF (List.mem_singleton.1 hg)) (fun g hg hgG => by have := hG1 g hgG; have := List.mem_singleton.1 hg; omega)
                    have HREP4 := Lib.hid hrep4
                    have hfx4 : find (upd D2 p (setLg fun _ => lg')) i = some x := by rw [find_lg, if_neg (Ne.symm HPI.out)]; exact HFX.out
                    have hxat := hrep4.at_ hfx4
                    rw [HMI.out] at hxat
                    have hxo := hxat.1
                    rw [HPP1.out] at hxo
                    have q0' : w6.cell? ⟨(Mo i).b, 0, none⟩ = some (.pointer (some ⟨(Mo p).b, 0, none⟩)) := hxo.b.cell 0
                    have hpat := hrep4.at_ (find_setLg D2 p (fun _ => lg') HFY.out)
                    have q3' : w6.cell? ⟨(Mo p).b, 3, none⟩ = some (.map (some (M1 p).ml)) := by
                      have : w6.cell? ⟨(M1 p).b, 3, none⟩ = some (.map (some (M1 p).ml)) := hpat.1.b.cell 3
                      rw [HMP.out] at this
                      exact this
                    have hlabp := hpat.2
                    have HGM : Hid (GMap kS eS w6 (M1 p).ml lg'.length (mget lg')) := Lib.hid hpat.1.l
                    have l3 := hpat.1.l.look1 hok Tryz.underlying74 (zero9 w6)
                    have hne1 : (Mo i).ml ≠ (M1 p).ml := labNe hxat.2.ml hlabp.ml (fun e => by injection e with e _; exact HPI.out e.symm)
                    have hne2 : wd.heap.size ≠ (M1 p).ml := fun e => hF' _ (HREP.out.inF _ (by rw [hlabp.ml]; rfl)) e.symm
                    have hkyP : ky ∈ P := HOX.out.lp _ (mem_of_mget hfx)
                    obtain ⟨u, hu⟩ : ∃ u, (mget lg' ky).getD [] = u := ⟨_, rfl⟩
                    have l3' : (Instr.lookup 74 (.map (some (M1 p).ml)) (sv ky) false).run Tryz.prog w6 = .ok (sv u) w6 := by
                      rw [← hu]
                      have e : ((mget lg' ky).map eS.val).getD (Value.string ⟨#[]⟩) = sv ((mget lg' ky).getD []) := by cases mget lg' ky <;> rfl
                      rw [← e]
                      exact l3
                    have hul : u.length ≤ lgSize D := by
                      rw [← hu, (HLA.out.g ky hok).1 hlx]
                      cases hm : mget y1.lg ky with
                      | none => exact Nat.zero_le _
                      | some s => exact Nat.le_trans (lgLen_get hm) (lgSize_mem (find_mem HY1.out).1)
                    have hvl : v.length ≤ lgSize D := Nat.le_trans (lgLen_get hfx) (lgSize_mem (find_mem HXD.out).1)
                    have hsz2 : ¬ (9223372036854775807 < u.length + v.length) := by omega
                    have hll := HP.out.leK HLA.out.a HLA.out.p
                    have HLA4 := Lib.hid (HLA.out.step hkyP hok hlx hfx)
                    have HLAA := Lib.hid HLA.out.a
                    have HU := Lib.hid hu
                    have HR4 := Lib.hid hr2
                    have hle4 := hr2.left_eq
                    have K4 : Hid (Keeps (M1 p).blocks wd w6) := Lib.hid (HKQ2.out.trans k2 (fun g hg => .inr (by rw [List.mem_singleton.1 hg]; exact Nat.le_refl _)))
                    have HROWF : Hid (∀ g ∈ fp (M1 p).row, g ∈ F2) := Lib.hid (fun g hg => HREP.out.inF g (by rw [hlabp.row g hg]; rfl))
                    have HOK := Lib.hid hok
                    clear hen hr2 k2 hok hfx hlx hrep4 hfx4 hxat hxo hlabp hkyP HRG HLA HREP HKQ2 hG1 hF1 hF' hz2 l3 hu hul hvl hpat
                    go_wp2_with (refine wpList_updG rfl rfl _ _ _ 74 rfl Tryz.underlying74 (M1 p).ml _ _ rfl HGM.out (by unfold maxLen; omega) ky (u ++ v) rfl (by show Value.string (bs u ++ bs v) = sv (u ++ v); rw [bs_append]) HOK.out ?_; intro w7 h7 k7)
                    rw [← HU.out] at h7
                    obtain ⟨L5, h5⟩ := log_round HREP4.out HT2.out HFY.out HLAA.out ky v h7 k7
                    have H5 := Lib.hid h5
                    have HR5 := Lib.hid (HR4.out.keep k7 (fun hg => hne1 (List.mem_singleton.1 hg)) (fun hg => hne2 (List.mem_singleton.1 hg)))
                    have hle5 := HR5.out.left_eq
                    have K5' := Lib.hid (K4.out.trans k7 (fun g hg => .inl (by rw [List.mem_singleton.1 hg]; simp [Mem.blocks])))
                    have MO5 : Hid (More w5 F' (fp (M1 p).row ++ F2)) := Lib.hid ⟨fun g hg => List.mem_append_right _ (HMO2.out.1 g hg), fun g hg => by
                      rcases List.mem_append.1 hg with h1 | h1
                      · exact HMO2.out.2 g (HROWF.out g h1)
                      · exact HMO2.out.2 g h1⟩
                    clear h5 k7 h7 HR4 K4 HGM
                    first
                      | (go_wp2_with fail
                         (repeat apply Exists.intro)
                         go_roundw
                         case rel => exact ⟨_, cnt', _, L5, _, HR5.out, HLA4.out, H5.out, MO5.out, K5'.out⟩
                         case measure => rw [hle5, hle3]; omega)
                      | exact ⟨⟨_, cnt', _, L5, _, HR5.out, HLA4.out, H5.out, MO5.out, K5'.out⟩, by rw [hle5, hle3]; omega⟩
              · intro ky v w4 cnt' hok hfx hlx hr2 hlt2 k2 hz2 hen
                have hen' : (Instr.entry (.pointer (some ⟨ws.heap.size, 0, none⟩))).run Tryz.prog w4 = .ok (.tuple #[sv ky, sv v]) w4 := hen
                have hG1 : ∀ g ∈ G1, g < ws.heap.size := fun g hg => HR1.out.ltG g hg
                have hF1 : ∀ g ∈ F1, g < ws.heap.size := fun g hg => HR1.out.ltF g hg
                have hF' : ∀ g ∈ F', g ≠ ws.heap.size := fun g hg e => by
                  rcases HMO.out.2 g hg with h1 | h1
                  · have := hF1 g h1; omega
                  · omega
                have hrep4 := HREP.out.keep k2 (fun g hg hgF => hF' g hgF (List.mem_singleton.1 hg)) (fun g hg hgG => by have := hG1 g hgG; have := List.mem_singleton.1 hg; omega)
                have HREP4 := Lib.hid hrep4
                have hfx4 : find (upd D p (setWr fun _ => wr')) i = some x := by rw [find_wr, if_neg (Ne.symm HPI.out)]; exact HXD.out
                have hxat := hrep4.at_ hfx4
                rw [HMI.out] at hxat
                have hxo := hxat.1
                rw [HPP1.out] at hxo
                have q0' : w4.cell? ⟨(Mo i).b, 0, none⟩ = some (.pointer (some ⟨(Mo p).b, 0, none⟩)) := hxo.b.cell 0
                have hlabp := (hrep4.at_ (find_setWr D p (fun _ => wr') HY1.out)).2
                have hne1 : (Mo i).mw ≠ (M1 p).mw := labNe hxat.2.mw hlabp.mw (fun e => by injection e with e _; exact HPI.out e.symm)
                have hne2 : ws.heap.size ≠ (M1 p).mw := fun e => hF' _ (HREP.out.inF _ (by rw [hlabp.mw]; rfl)) e.symm
                have hkyP : ky ∈ P := HOX.out.wp _ (mem_of_mget hfx)
                have hput := put_round hrep4 HWD.out.tree HY1.out HPA.out.a (by have := HP.out.leK HPA.out.a HPA.out.q; unfold maxLen; omega) ky v hok
                rw [HMP.out] at hput
                have HPA4 := Lib.hid (HPA.out.step hkyP hfx)
                have HR4 := Lib.hid hr2
                have hle4 := hr2.left_eq
                have K4 : Hid (Keeps (M1 p).blocks ws w4) := Lib.hid (HKQ.out.trans k2 (fun g hg => .inr (by rw [List.mem_singleton.1 hg]; exact Nat.le_refl _)))
                have HROWF : Hid (∀ g ∈ fp (M1 p).row, g ∈ F') := Lib.hid (fun g hg => HREP.out.inF g (by rw [hlabp.row g hg]; rfl))
                clear hen hr2 k2 hok hfx hlx hrep4 hfx4 hxat hxo hlabp hkyP HRG HPA HREP HKQ hG1 hF1 hF' hz2 q0
                go_wp2_with fail
                refine hput.mono ?_
                rintro e w5 ⟨rfl, ⟨L5, h5⟩, k5⟩
                have H5 := Lib.hid h5
                have HR5 := Lib.hid (HR4.out.keep k5 (fun hg => hne1 (List.mem_singleton.1 hg)) (fun hg => hne2 (List.mem_singleton.1 hg)))
                have hle5 := HR5.out.left_eq
                have K5 := Lib.hid (K4.out.trans k5 (fun g hg => .inl (by rw [List.mem_singleton.1 hg]; simp [Mem.blocks])))
                have MO5 : Hid (More w3 F1 (fp (M1 p).row ++ F')) := Lib.hid ⟨fun g hg => List.mem_append_right _ (HMO.out.1 g hg), fun g hg => by
                  rcases List.mem_append.1 hg with h1 | h1
                  · exact HMO.out.2 g (HROWF.out g h1)
                  · exact HMO.out.2 g h1⟩
                clear h5 k5 hput HR4 K4
                go_wp2_with fail
                (repeat apply Exists.intro)
                go_roundw
                case rel => exact ⟨_, cnt', _, L5, _, HR5.out, HPA4.out, H5.out, MO5.out, K5.out⟩
                case measure => rw [hle5, hle]; omega
end
end Go.Proofs.YtbllmpcpfmlemaaGreat
