/- Texts of elder seats, turned to this one. -/
import Derived.Test.YteognipfnbocpaaGreatW15
import Derived.Test.YteognipfnbocpaaGreatSrt
namespace Go.Proofs.YteognipfnbocpaaGreat
open Go.RowKit
open T12 (E TbRep ent ents cells5)
open T13 (Tl En TlRep es)

theorem run_entries (w : World) (F : List Nat) (p : Nat) (s : Mm) (h : MmRep w F p s) (x : Int) (h1 : -9223372036854775808 ≤ x) (h2 : x ≤ 9223372036854775807) :
    Calls Tryz.prog 16 #[.pointer (some ⟨p, 0, none⟩), .int .i64 x] w fun e w' => ∃ v, e = .returned v ∧ w'.ownsRow 0 42 5 v (ents (s.tab x) 256).length (cells5 (ents (s.tab x) 256)) ∧ Keeps [] w w' ∧ ∀ g ∈ fp v, w.heap.size ≤ g := by
  have HT := Lib.hid (table_any w F p s h x h1 h2)
  clear h
  go_enter Tryz.func16, Tryz.ntmps16
  go_wp2_with fail
  refine HT.out.mono ?_
  rintro e w1 ⟨G, r, rfl, t1, -, k1⟩
  have HE := Lib.hid (T12.entries_any w1 G r _ t1)
  have HK := Lib.hid k1
  clear t1 k1 HT
  go_wp2_with fail
  refine HE.out.mono ?_
  rintro e w2 ⟨v, rfl, o2, k2, f2⟩
  have hz := HK.out.size
  have HR := Lib.hid (And.intro o2 (And.intro (HK.out.trans k2 (by simp)) (fun g hg => Nat.le_trans hz (f2 g hg))))
  obtain ⟨A2, c2, rfl, -, -, -⟩ := own_shape o2
  clear o2 k2 f2 hz
  go_wp2_with fail
  go_ret
  exact ⟨_, rfl, HR.out.1, HR.out.2.1, HR.out.2.2⟩
theorem ents_pg0_nil : ∀ n, ents pg0 n = []
  | 0 => rfl
  | n + 1 => by rw [T12.ents_none rfl]; exact ents_pg0_nil n
/-- The spaces that have entries. -/
def hasE (s : Mm) (x : Int) : Bool := decide (0 < (ents (s.tab x) 256).length)
theorem filter_take_succ {α : Type} (p : α → Bool) (l : List α) {k : Nat} (h : k < l.length) : (l.take (k + 1)).filter p = (l.take k).filter p ++ if p l[k] then [l[k]] else [] := by
  rw [List.take_succ_eq_append_getElem h, List.filter_append]
  congr 1
  cases hp : p l[k] <;> simp [hp]
set_option maxRecDepth 100000 in
set_option maxHeartbeats 3200000 in
theorem spaces_any (w : World) (F : List Nat) (p : Nat) (s : Mm) (h : MmRep w F p s) (hk : s.k ≤ 1000000) :
    Calls Tryz.prog 11 #[.pointer (some ⟨p, 0, none⟩)] w fun e w' => ∃ v l, e = .returned v ∧ Asc l ∧ (∀ x, x ∈ l ↔ hasE s x = true) ∧ w'.ownsRow 0 3 1 v l.length (iv l) ∧ Keeps [] w w' ∧ (∀ g ∈ fp v, w.heap.size ≤ g) ∧ l.length ≤ 1000000 ∧ ∀ x ∈ l, -9223372036854775808 ≤ x ∧ x ≤ 9223372036854775807 := by
  obtain ⟨L, b, nb, q, A, cap, c, h, hnb⟩ := h
  have c0 := h.bp.cell 0
  have hbl := h.bp.lt
  have kb : Keeps [] w (w.alloc (.cells #[.map (some b)] 57)) := (Keeps.refl _ _).alloc _
  have B1 : Blk (w.alloc (.cells #[.map (some b)] 57)) w.heap.size 57 #[.map (some b)] := Blk.new w 57 _
  have HS := Lib.hid (sorted_pm _ b nb w.heap.size q (h.bm.keep kb (by simp)) (by omega) B1)
  have HK := Lib.hid kb
  have HH := Lib.hid h
  have HI3 := Lib.hid info3i
  have HN := Lib.hid (And.intro hnb hk)
  clear kb B1 h hnb hk
  go_enter Tryz.func11, Tryz.ntmps11
  go_wp2_with fail
  refine (keys_any _ _).mono ?_
  rintro e w1 ⟨rfl, rfl⟩
  go_wp2_with fail
  refine HS.out.mono ?_
  rintro e w2 ⟨v, ss, rfl, ha, hm, hl, ho, k2, f2⟩
  obtain ⟨A2, cap2, rfl, -, -, hA⟩ := own_shape ho
  have hlen : ss.length ≤ 1000000 := by have := HN.out; omega
  have KW := Lib.hid (HK.out.trans k2 (by simp))
  have HO := Lib.hid ho
  have HA := Lib.hid ha
  have HM := Lib.hid hm
  have hz : w.heap.size ≤ w2.heap.size := KW.out.size
  have HZ := Lib.hid hz
  clear ho ha hm hl k2 f2 HS HK hz c0
  go_wp2_with fail
  go_loopw [3, 13] (fun v i wr => ∃ k : Nat, k ≤ ss.length ∧ i = .int .i64 k ∧ wr.ownsRow 0 3 1 v ((ss.take k).filter (hasE s)).length (iv ((ss.take k).filter (hasE s))) ∧ Keeps [] w2 wr ∧ ∀ g ∈ fp v, w2.heap.size ≤ g) (fun _ i _ => ss.length - (intOf i).toNat)
  case atStart => exact ⟨0, by omega, rfl, World.ownsRow_nil _ _ _ _, Keeps.refl _ _, by simp⟩
  case round =>
    obtain ⟨k, hk, rfl, ho3, k3, f3⟩ := hrel
    by_cases hlt : k < ss.length
    rotate_left
    · obtain rfl : k = ss.length := by omega
      rw [List.take_length] at ho3
      obtain ⟨A3, cap3, rfl, -, -, -⟩ := own_shape ho3
      have hf := List.length_filter_le (hasE s) ss
      have HR : Hid (Asc (ss.filter (hasE s)) ∧ ∀ x, x ∈ ss.filter (hasE s) ↔ hasE s x = true) := Lib.hid ⟨HA.out.sublist List.filter_sublist, fun x => by
        rw [List.mem_filter]
        refine ⟨fun h => h.2, fun h => ⟨(HM.out x).2 ?_, h⟩⟩
        rw [HH.out.qsome x]
        cases hs : s.t x with
        | some m => rfl
        | none =>
          unfold hasE at h
          have he : s.tab x = pg0 := by unfold Mm.tab; rw [hs]; rfl
          rw [he, ents_pg0_nil] at h
          simp at h⟩
      have HK3 := Lib.hid (KW.out.trans k3 (by simp))
      have HF3 := Lib.hid (fun g hg => Nat.le_trans HZ.out (f3 g hg))
      have HX : Hid (∀ x ∈ ss.filter (hasE s), -9223372036854775808 ≤ x ∧ x ≤ 9223372036854775807) := Lib.hid (fun x hx => HH.out.ix x ((HM.out x).1 (List.mem_filter.1 hx).1))
      have HO3 := Lib.hid ho3
      clear ho3 k3 f3 HM HA HO
      go_wp2_with fail
      go_ret
      exact ⟨_, _, rfl, HR.out.1, HR.out.2, HO3.out, HK3.out, HF3.out, by omega, HX.out⟩
    · obtain ⟨g2, rfl⟩ := hA (by omega)
      have kw := KW.out.trans k3 (by simp)
      have hx := HH.out.keep kw (by simp)
      have e0 := hx.bp.cell 0
      have hso := (HM.out ss[k]).1 (List.getElem_mem hlt)
      obtain ⟨r, hr⟩ := Option.isSome_iff_exists.1 hso
      have hb := HH.out.ix _ hso
      have hlk := hx.bm.look1 hb.1 hb.2 Tryz.underlying57 zero64
      rw [hr] at hlk
      simp only [Option.map_some] at hlk
      have ow := own_keep HO.out k3 (by simp)
      have y0 := own_cell ow (j := k) (u := .int .i64 ss[k]) (by rw [List.getElem?_map, List.getElem?_eq_getElem hlt]; rfl)
      obtain ⟨m, hm⟩ : ∃ m, s.t ss[k] = some m := Option.isSome_iff_exists.1 (by rw [← HH.out.qsome]; exact hso)
      obtain ⟨G, r', hr', ht, -⟩ := hx.qs _ m hm
      obtain rfl : r = r' := by rw [hr] at hr'; injection hr'
      have HE := Lib.hid (T12.entries_any wr G r m ht)
      have hfs := filter_take_succ (hasE s) ss hlt
      have hE : hasE s ss[k] = decide (0 < (ents m 256).length) := by unfold hasE Mm.tab; rw [hm]; rfl
      have hfl : ((ss.take k).filter (hasE s)).length ≤ 1000000 := Nat.le_trans (List.length_filter_le _ _) (by rw [List.length_take]; omega)
      have HFS := Lib.hid hfs
      have HHE := Lib.hid hE
      have HO3 := Lib.hid ho3
      have HK3 := Lib.hid k3
      have HF3 := Lib.hid f3
      obtain ⟨A3, cap3, rfl, -, -, -⟩ := own_shape ho3
      generalize (ss.take k).filter (hasE s) = l3 at *
      generalize ss[k] = x at *
      generalize ents m 256 = E0 at *
      clear hfs hE ho3 k3 f3 ow hr hr' ht hm hso hx kw hb
      go_wp2_with fail
      refine HE.out.mono ?_
      rintro e w5 ⟨v5, rfl, o5, k5, f5⟩
      obtain ⟨A5, cap5, rfl, -, -, -⟩ := own_shape o5
      have KK := Lib.hid (HK3.out.trans k5 (by simp))
      have OO := Lib.hid (own_keep HO3.out k5 (by simp))
      clear o5 k5 f5 HE HK3 HO3 hlk
      by_cases hp : 0 < E0.length
      · have hq := HFS.out
        rw [HHE.out, decide_eq_true hp, if_pos rfl] at hq
        have HQ := Lib.hid hq
        have HO5 := Lib.hid (own_keep OO.out ((Keeps.refl [] _).alloc (.cells #[.int .i64 x] 3)) (by simp))
        clear HFS HHE hq
        go_wp2_with (at_builtin; refine wpList_app _ rfl (.tmp 26) (.tmp 28) _ rfl 3 (.int .i64 0) 1 8 Tryz.underlying30 HI3.out rfl (by omega) (.slice A3 l3.length cap3) _ _ rfl HO5.out _ _ _ _ [.int .i64 x] rfl (reads_one _ _ 3) (by simp [Value.oneCell']) (by unfold maxLen; omega) (by omega) ?_)
        intro v6 w6 o6 k6 f6
        have hz5 := KK.out.size
        have HR : Hid (w6.ownsRow 0 3 1 v6 (l3 ++ [x]).length (iv (l3 ++ [x])) ∧ Keeps [] w2 w6 ∧ ∀ g ∈ fp v6, w2.heap.size ≤ g) := Lib.hid ⟨by
          rw [List.length_append]; unfold iv; rw [List.map_append]; exact o6, (KK.out.alloc _).trans k6 (fun g hg => .inr (HF3.out g hg)), fun g hg => (f6 g hg).elim (HF3.out g) (fun h => by have h1 : w5.heap.size + 1 ≤ g := (by simpa using h); omega)⟩
        clear o6 k6 f6 HO5 OO KK HF3 hz5
        go_wp2_with fail
        go_roundw
        case rel => exact ⟨k + 1, by omega, by go_num, by rw [HQ.out]; exact HR.out.1, HR.out.2.1, HR.out.2.2⟩
        case measure => simp [intOf]; omega
      · have hq := HFS.out
        rw [HHE.out, decide_eq_false hp, if_neg (by simp), List.append_nil] at hq
        have HQ := Lib.hid hq
        clear HFS HHE hq
        go_wp2_with fail
        go_roundw
        case rel => exact ⟨k + 1, by omega, by go_num, by rw [HQ.out]; exact OO.out, KK.out, HF3.out⟩
        case measure => simp [intOf]; omega
end Go.Proofs.YteognipfnbocpaaGreat
