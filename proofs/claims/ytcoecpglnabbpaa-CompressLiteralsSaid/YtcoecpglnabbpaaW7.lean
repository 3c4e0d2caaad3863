/- Unpack. -/
import Derived.Test.YtcoecpglnabbpaaW6
namespace Go.Proofs.Ytcoecpglnabbpaa
open Go.RowKit

/-- Unpack's two results. -/
def unpackR (l : Bs) : Bs × Bool := match unpackP l with
  | some x => (x, true)
  | none => ([], false)
theorem str_list (s : ByteArray) : s.toList = bys s := ByteArray.toList_eq s
theorem byte_lt (x : UInt8) : (x.toNat : Int) < 256 := by have := x.toNat_lt; omega
theorem drop_at (s : ByteArray) (i : Nat) (h : i < s.size) : (bys s).drop i = s[i] :: (bys s).drop (i + 1) := by
  have : i < (bys s).length := by simpa using h
  rw [List.drop_eq_getElem_cons this]
  rfl
/-- How far the reading has come. -/
structure UI (w : World) (s : ByteArray) (i : Nat) (out : Bs) (W : World) : Prop where
  b : Lib.IsBuilderF 34 5 w.heap.size w.heap.size (Lib.byteCells out) W
  k : Below w.heap.size w W
  d : dec (bys s) = (dec ((bys s).drop i)).map (out ++ ·)
  l : out.length ≤ i * 128
theorem UI.run {w W W' : World} {s : ByteArray} {i : Nat} {out : Bs} (h : UI w s i out W) (hi : i + 1 < s.size) (hn : 128 ≤ (s[i]'(by omega)).toNat)
    (hb : Lib.IsBuilderF 34 5 w.heap.size w.heap.size (Lib.byteCells (out ++ List.replicate ((s[i]'(by omega)).toNat - 128) s[i + 1])) W') (hk : Below w.heap.size w W') :
    UI w s (i + 2) (out ++ List.replicate ((s[i]'(by omega)).toNat - 128) s[i + 1]) W' := by
  refine ⟨hb, hk, ?_, ?_⟩
  · rw [h.d, drop_at s i (by omega), drop_at s (i + 1) hi, dec_run hn, Option.map_map]
    congr 1
    funext x
    simp
  · have := h.l
    have := (s[i]'(by omega)).toNat_lt
    simp only [List.length_append, List.length_replicate]
    omega
theorem UI.lit_ {w W W' : World} {s : ByteArray} {i : Nat} {out : Bs} (h : UI w s i out W) (hi : i < s.size) (hn : (s[i]).toNat < 128) (hl : i + 1 + (s[i]).toNat ≤ s.size)
    (hb : Lib.IsBuilderF 34 5 w.heap.size w.heap.size (Lib.byteCells (out ++ ((bys s).drop (i + 1)).take (s[i]).toNat)) W') (hk : Below w.heap.size w W') :
    UI w s (i + 1 + (s[i]).toNat) (out ++ ((bys s).drop (i + 1)).take (s[i]).toNat) W' := by
  refine ⟨hb, hk, ?_, ?_⟩
  · rw [h.d, drop_at s i hi, dec_lit hn (by simp; omega), Option.map_map, List.drop_drop]
    congr 1
    funext x
    simp
  · have := h.l
    simp only [List.length_append, List.length_take]
    omega
theorem UI.bad1 {w W : World} {s : ByteArray} {i : Nat} {out : Bs} (h : UI w s i out W) (hi : i + 1 = s.size) (hn : 128 ≤ (s[i]'(by omega)).toNat) : unpackR (bys s) = ([], false) := by
  have e : dec (bys s) = none := by
    rw [h.d, drop_at s i (by omega), List.drop_of_length_le (by simp; omega), dec_end hn]; rfl
  unfold unpackR unpackP
  rw [e]
  split <;> simp_all
theorem UI.bad2 {w W : World} {s : ByteArray} {i : Nat} {out : Bs} (h : UI w s i out W) (hi : i < s.size) (hn : (s[i]).toNat < 128) (hl : s.size < i + 1 + (s[i]).toNat) : unpackR (bys s) = ([], false) := by
  have e : dec (bys s) = none := by
    rw [h.d, drop_at s i hi, dec_bad hn (by simp; omega)]; rfl
  unfold unpackR unpackP
  rw [e]
  split <;> simp_all
theorem UI.done {w W : World} {s : ByteArray} {out : Bs} (h : UI w s s.size out W) : dec (bys s) = some out := by
  rw [h.d, List.drop_of_length_le (by simp), dec_nil]; simp

theorem isB_below {B b : Nat} {bs : List Value} {W W' : World} (h : Lib.IsBuilderF 34 5 B b bs W) (hk : Below W.heap.size W W') : Lib.IsBuilderF 34 5 B b bs W' := by
  have key : ∀ p, Lib.BuilderAtF 34 5 B b p bs W → Lib.BuilderAtF 34 5 B b p bs W' := by
    rintro p ⟨hB, v, hb, ho, hne⟩
    refine ⟨hB, v, (hk.block b (Array.getElem?_eq_some_iff.1 hb).1).trans hb, ⟨ho.1, ?_⟩, hne⟩
    rcases ho.2 with h1 | ⟨g, cap, cur, fz, rfl, hBg, hgg, r⟩
    · exact .inl h1
    · exact .inr ⟨g, cap, cur, fz, rfl, hBg, (hk.block g (Array.getElem?_eq_some_iff.1 hgg).1).trans hgg, r⟩
  exact h.imp (key _) (key _)
theorem packR_some {x t : Bs} (h : packP x = some t) : packR x = (t, true) := by unfold packR; rw [h]
theorem packR_none {x : Bs} (h : packP x = none) : packR x = ([], false) := by unfold packR; rw [h]

set_option maxHeartbeats 3200000 in
set_option maxRecDepth 100000 in
theorem unpack_any (w : World) (s : ByteArray) : Calls Try.prog 10 #[.string s] w fun e w' => e = .returned (.tuple #[.string ⟨(unpackR (bys s)).1.toArray⟩, .bool (unpackR (bys s)).2]) ∧ Below w.heap.size w w' := by
  by_cases hs : 47 < s.size
  · have hr : unpackR (bys s) = ([], false) := by
      unfold unpackR unpackP
      rw [if_neg (by simp; omega)]
    have HR := Lib.hid hr
    have ts : decide ((47 : Int) < s.size) = true := by simp; omega
    clear hr hs
    go_enter Try.func10, Try.ntmps10
    go_wp2
    go_ret2
    show _ = Ending.returned (.tuple #[.string ⟨(unpackR (bys s)).1.toArray⟩, .bool (unpackR (bys s)).2]) ∧ _
    rw [HR.out]
    exact ⟨rfl, Below.refl _ _⟩
  have hs47 : s.size ≤ 47 := by omega
  have I0 : UI w s 0 [] (w.alloc (.cells #[.pointer none, .slice none 0 0] 34)) := by
    refine ⟨.inl ⟨Nat.le_refl _, .slice none 0 0, World.alloc_heap_new w _, World.ownsRowF_nil _ _ _ _, by simp [Value.ownBlock]⟩, (Below.refl _ w).alloc (Nat.le_refl _) _, ?_, by simp⟩
    simp
  clear hs
  go_enter Try.func10, Try.ntmps10
  go_wp2_with fail
  go_loopw [5] (fun a wr => ∃ (i : Nat) (out : Bs), a = .int .i64 i ∧ i ≤ s.size ∧ UI w s i out wr) (fun a _ => s.size - (intOf a).toNat)
  case atStart => exact ⟨0, [], rfl, by omega, I0⟩
  case round =>
    clear I0
    obtain ⟨i, out, rfl, hi, I⟩ := hrel
    by_cases hlt : i < s.size
    rotate_left
    · obtain rfl : i = s.size := by omega
      have hdec := I.done
      have hb := I.b
      have hk := I.k
      have hW := hk.size
      have HB := Lib.hid hb
      have HN : Hid (packP out ≠ some (bys s) → unpackR (bys s) = ([], false)) := Lib.hid (fun h => by
        unfold unpackR unpackP
        rw [hdec, Option.bind_some, if_neg h]
        split <;> simp_all)
      have HY : Hid (packP out = some (bys s) → unpackR (bys s) = (out, true)) := Lib.hid (fun h => by
        unfold unpackR unpackP
        rw [hdec, Option.bind_some, if_pos h, if_pos (by simp; omega)])
      clear I hdec hb
      go_wp2_with fail
      refine (String_any_k w.heap.size w.heap.size out wr HB.out hW).mono ?_
      rintro e w1 ⟨rfl, hb1, hB1, -⟩
      have hk1 := hk.trans hB1
      have HB1 := Lib.hid hb1
      clear hb1 hB1 hk HB
      go_wp2_with fail
      refine (pack_any w1 ⟨out.toArray⟩).mono ?_
      rintro e w2 ⟨rfl, hB2⟩
      have HB2 := Lib.hid (isB_below HB1.out hB2)
      have hk2 := hk1.trans (hB2.mono hk1.size)
      have hW2 := hk2.size
      show _
      have hbo : bys ⟨out.toArray⟩ = out := rfl
      rw [hbo]
      clear hbo HB1 hB2 hk1
      cases hp : packP out with
      | none =>
        have HR := Lib.hid (HN.out (by rw [hp]; simp))
        rw [packR_none hp]
        clear hp HN HY
        go_wp2_with fail
        go_ret2
        show _ = Ending.returned (.tuple #[.string ⟨(unpackR (bys s)).1.toArray⟩, .bool (unpackR (bys s)).2]) ∧ _
        rw [HR.out]
        exact ⟨rfl, hk2⟩
      | some t =>
        rw [packR_some hp]
        by_cases ht : t = bys s
        · have HR := Lib.hid (HY.out (by rw [hp, ht]))
          have te : (t == s.toList) = true := by rw [str_list, ht]; simp
          clear hp HN HY ht
          go_wp2_with fail
          refine (String_any_k w.heap.size w.heap.size out w2 HB2.out hW2).mono ?_
          rintro e w3 ⟨rfl, -, hB3, -⟩
          have hk3 := hk2.trans hB3
          go_wp2_with fail
          go_ret2
          show _ = Ending.returned (.tuple #[.string ⟨(unpackR (bys s)).1.toArray⟩, .bool (unpackR (bys s)).2]) ∧ _
          rw [HR.out]
          exact ⟨rfl, hk3⟩
        · have HR := Lib.hid (HN.out (by rw [hp]; intro h; injection h with h; exact ht h))
          have te : (t == s.toList) = false := by rw [str_list]; simpa using ht
          clear hp HN HY ht
          go_wp2_with fail
          go_ret2
          show _ = Ending.returned (.tuple #[.string ⟨(unpackR (bys s)).1.toArray⟩, .bool (unpackR (bys s)).2]) ∧ _
          rw [HR.out]
          exact ⟨rfl, hk2⟩
    have hb1 := byte_lt s[i]
    have hout := I.l
    by_cases hn : 128 ≤ (s[i]).toNat
    · by_cases h2 : i + 1 < s.size
      · have hW := I.k.size
        have ji : ((i : Int) + 1).toNat = i + 1 := by omega
        have jo : (0 : Int) ≤ (i : Int) + 1 := by omega
        have jd : decide ((i : Int) + 1 < s.size) = true := by simp; omega
        have HI := Lib.hid I
        have HUN := Lib.hid hout
        obtain ⟨q, hq⟩ : ∃ q : Nat, (s[i]).toNat = q + 128 := ⟨(s[i]).toNat - 128, by omega⟩
        have hq2 : ((s[i]).toNat : Int) - 128 = q := by omega
        have hqb : q ≤ 127 := by omega
        have HQ := Lib.hid hq
        clear hq hout
        go_wp2_with fail
        clear hq2
        have hib := I.b
        have hik := I.k
        clear I
        go_loopw [33] (fun c wz => ∃ k : Nat, k ≤ q ∧ c = .int .i64 k ∧ Lib.IsBuilderF 34 5 w.heap.size w.heap.size (Lib.byteCells (out ++ List.replicate k s[i + 1])) wz ∧ Below w.heap.size w wz) (fun c _ => q - (intOf c).toNat)
        case atStart => exact ⟨0, by omega, rfl, by simpa using hib, hik⟩
        case round =>
          clear hib hik
          obtain ⟨k, hk, rfl, hb, hkk⟩ := hrel
          have hWr := hkk.size
          by_cases hkq : k < q
          · have hL : (Lib.byteCells (out ++ List.replicate k s[i + 1])).length + 1 ≤ 140737488355328 := by
              rw [Lib.byteCells_length, List.length_append, List.length_replicate]
              have := HUN.out
              omega
            have HC := Lib.hid (WriteByte_k w.heap.size w.heap.size _ (s[i + 1].toNat) wr hb hL hWr)
            clear hb hL
            go_wp2_with fail
            refine HC.out.mono ?_
            rintro e w3 ⟨rfl, h3, hB3, -⟩
            clear HC
            go_wp2_with fail
            go_roundw
            case rel => exact ⟨k + 1, by omega, by go_num, .inr (by rw [List.replicate_succ', ← List.append_assoc, Lib.byteCells_append]; exact h3), hkk.trans hB3⟩
            case measure => simp [intOf]; omega
          · obtain rfl : q = k := by omega
            have hfin := HI.out.run h2 hn (by rw [HQ.out]; exact hb) hkk
            clear hb hkk
            go_wp2_with fail
            go_roundw
            case rel => exact ⟨i + 2, _, by go_num, by omega, hfin⟩
            case measure => simp [intOf]; omega
      · have HR := Lib.hid (I.bad1 (by omega) hn)
        have hk := I.k
        clear I hout
        go_wp2_with fail
        go_ret2
        show _ = Ending.returned (.tuple #[.string ⟨(unpackR (bys s)).1.toArray⟩, .bool (unpackR (bys s)).2]) ∧ _
        rw [HR.out]
        exact ⟨rfl, hk⟩
    · by_cases h2 : i + 1 + (s[i]).toNat ≤ s.size
      · have hW := I.k.size
        have hcut := cut_str s (i + 1) (s[i]).toNat
        have ji : ((i : Int) + 1).toNat = i + 1 := by omega
        have jo : (0 : Int) ≤ (i : Int) + 1 := by omega
        have jn : ((i : Int) + 1 + (s[i]).toNat).toNat = i + 1 + (s[i]).toNat := by omega
        have jl : (i : Int) + 1 + (s[i]).toNat ≤ s.size := by omega
        have HC := Lib.hid (WriteString_k w.heap.size w.heap.size _ (s.extract (i + 1) (i + 1 + (s[i]).toNat)) wr I.b (by
          rw [Lib.byteCells_length, hcut]
          have : (⟨(((bys s).drop (i + 1)).take (s[i]).toNat).toArray⟩ : ByteArray).size = (((bys s).drop (i + 1)).take (s[i]).toNat).length := List.size_toArray
          rw [this, List.length_take]
          omega) hW)
        have HI := Lib.hid I
        have HCUT := Lib.hid hcut
        clear hcut I hout
        go_wp2_with fail
        refine HC.out.mono ?_
        rintro e w3 ⟨rfl, h3, hB3, -⟩
        have hfin := HI.out.lit_ hlt (by omega) h2 (.inr (by rw [Lib.byteCells_append]; rw [HCUT.out] at h3; exact h3)) (HI.out.k.trans hB3)
        clear HC h3
        go_wp2_with fail
        go_roundw
        case rel => exact ⟨i + 1 + (s[i]).toNat, _, by go_num, h2, hfin⟩
        case measure => simp [intOf]; omega
      · have HR := Lib.hid (I.bad2 hlt (by omega) (by omega))
        have hk := I.k
        clear I hout
        go_wp2_with fail
        go_ret2
        show _ = Ending.returned (.tuple #[.string ⟨(unpackR (bys s)).1.toArray⟩, .bool (unpackR (bys s)).2]) ∧ _
        rw [HR.out]
        exact ⟨rfl, hk⟩
end Go.Proofs.Ytcoecpglnabbpaa
