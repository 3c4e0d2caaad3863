/- Texts of the elder seat, turned to this one: Srt. -/
import Derived.Test.YtbllmpcpfmlemaaGreatLay
import Derived.Test.YtbllmpcpfmlemaaGreatGr
import Derived.Test.YtbllmpcpfmlemaaGreatMB
namespace Go.Proofs.YtbllmpcpfmlemaaGreat
open Go.RowKit Go.Maps Go.Sort Go.Shelf

def zs (L : List Int) : List Value := L.map (fun x => .int .i64 x)
theorem sortsA (m : Nat) : AnyZI.SortsIn Tryz.prog sortedA_ren Fence.wide m :=
  ⟨fun blk off cap ss W hH hblk hsz => callsIn_wide.2 (AnyM.slices_Sort_int sortA blk off cap ss W hH hblk hsz),
   fun p cap W => callsIn_wide.2 (AnyM.slices_Sort_int_none sortA p cap W)⟩
theorem keys_any (mb : Option Nat) (w : World) : Calls Tryz.prog 67 #[.map mb] w fun e w' => e = .returned (.func (.func 95) #[] #[.pointer (some ⟨w.heap.size, 0, none⟩)]) ∧ w' = w.alloc (.cells #[.map mb] 63) :=
  (callsIn_wide (n := 6)).1 (AnyZI.keys_in keysA Fence.wide 6 trivial rfl mb w)
theorem kI_lit {x : Int} (h : kI.ok x) : kI.lit x = .int .i64 x := by
  have h1 := KeyS.of h
  have e : kI.val x = .int .i64 x := rfl
  rw [e] at h1
  generalize kI.lit x = l at h1 ⊢
  obtain ⟨y, hy, hl, _⟩ := Maps.keyOf_int_inv Tryz.underlying3 h1
  simp only [Value.int.injEq, true_and] at hy
  subst hy
  exact hl
theorem ok_lit {v : Value} {l : Lit} (h : keyOf Tryz.prog 3 v = some l) : ∃ x, kI.ok x ∧ l = .int .i64 x := by
  obtain ⟨x, rfl, hx, hl⟩ := KeyS.okOf (S := kI) h
  exact ⟨x, hx, hl.trans (kI_lit hx)⟩
/-- The keys of the datum, told apart. -/
theorem mem_intKeys {D : DataW Unit} {w : World} {b n : Nat} {R : Value → Option (DataW Unit × List MemPlace)} (hown : w.ownsMap Tryz.prog 3 R b n D) : (intKeys D).Nodup ∧ (∀ x ∈ intKeys D, kI.ok x) ∧ (intKeys D).length = Maps.size D ∧ ∀ x, x ∈ intKeys D ↔ Maps.has D (.int .i64 x) = true := by
  obtain ⟨es, hD, hpw, _⟩ := hown.entries kI.K
  obtain ⟨es', hD', hko⟩ := hown.keysOf
  obtain rfl : es = es' := by rw [hD] at hD'; simpa using hD'
  subst hD
  have hk : ∀ p ∈ es, ∃ x, kI.ok x ∧ p.1 = .int .i64 x := fun p hp => by obtain ⟨v, hv⟩ := hko p hp; exact ok_lit hv
  refine ⟨?_, fun x hx => ?_, ?_, fun x => ?_⟩
  · show (es.map fun p => Go.intOf p.1).Nodup
    refine List.pairwise_map.2 (hpw.imp_of_mem fun {p q} hp' hq' hne e => hne ?_)
    obtain ⟨a, -, ha⟩ := hk p hp'
    obtain ⟨b, -, hb⟩ := hk q hq'
    rw [ha, hb] at e ⊢
    exact congrArg _ e
  · obtain ⟨p, hp, rfl⟩ := List.mem_map.1 hx
    obtain ⟨a, hok, ha⟩ := hk p hp
    rw [ha]
    exact hok
  · show (es.map fun p => Go.intOf p.1).length = es.length
    rw [List.length_map]
  · rw [has_eq, List.any_eq_true]
    show x ∈ es.map (fun p => Go.intOf p.1) ↔ _
    rw [List.mem_map]
    constructor
    · rintro ⟨p, hp', rfl⟩
      obtain ⟨a, -, ha⟩ := hk p hp'
      exact ⟨p, hp', by rw [ha]; simp [Lit.sameKey, Go.intOf]⟩
    · rintro ⟨p, hp', hs⟩
      obtain ⟨a, -, ha⟩ := hk p hp'
      rw [ha] at hs
      exact ⟨p, hp', by rw [ha]; simpa [Lit.sameKey, Go.intOf] using hs⟩
/-- A list of ints that is sorted and tells its elements apart. -/
def AscI (l : List Int) : Prop := l.Pairwise (· < ·)
def srt (l : List Int) : List Int := l.mergeSort fun x y => decide (x ≤ y)
theorem srt_len (l : List Int) : (srt l).length = l.length := List.length_mergeSort _
theorem asc_sorted {l : List Int} (h : l.Nodup) : AscI (srt l) ∧ ∀ x, x ∈ srt l ↔ x ∈ l := by
  have hp := List.mergeSort_perm l (fun x y => decide (x ≤ y))
  have hs := List.pairwise_mergeSort (le := fun x y : Int => decide (x ≤ y)) (fun a b c h1 h2 => by simp only [decide_eq_true_eq] at *; omega) (fun a b => by simp only [Bool.or_eq_true, decide_eq_true_eq]; omega) l
  have hn : (l.mergeSort fun x y => decide (x ≤ y)).Nodup := hp.nodup_iff.2 h
  refine ⟨?_, fun x => hp.mem_iff⟩
  unfold AscI srt
  refine (hs.and hn).imp (fun {a b} h => ?_)
  have h1 := h.1
  have h2 := h.2
  simp only [decide_eq_true_eq] at h1
  omega
set_option maxHeartbeats 1000000 in
theorem sorted_gm {V : Type} {E : ElS V} (w : World) (b n g : Nat) (f : Int → Option V) (h : GMap kI E w b n f) (hn : n ≤ 1000000000) (hg : Blk w g 63 #[.map (some b)]) :
    Calls Tryz.prog 66 #[.func (.func 95) #[] #[.pointer (some ⟨g, 0, none⟩)]] w fun e w' => ∃ (v : Value) (ss : List Int), e = .returned v ∧ AscI ss ∧ (∀ x, x ∈ ss ↔ kI.ok x ∧ (f x).isSome = true) ∧ ss.length ≤ n ∧ w'.ownsRow 0 3 1 v ss.length (zs ss) ∧ Keeps [] w w' ∧ ∀ k ∈ fp v, w.heap.size ≤ k := by
  obtain ⟨D, hown, hD⟩ := h
  have hsz := hown.size_le
  have hseq : SeqGives Fence.wide 3 Tryz.prog 95 #[.pointer (some ⟨g, 0, none⟩)] encZ (fun ss => ss.Perm (intKeys D)) (Maps.size D) w :=
    AnyZI.keys_gives (ρ := keysA_ren) { keysA with } Fence.wide _ trivial rfl (by omega) g b n D w hg.lt (hg.cell 0) hown
  have cS := AnyZI.sorted_in sortedA Fence.wide 6 trivial trivial trivial trivial rfl (by omega) (sortsA _) (enters_of Tryz.func94 (by kernel_rfl) rfl) 95 #[.pointer (some ⟨g, 0, none⟩)] trivial (enters_of Tryz.func95 (by kernel_rfl) rfl) _ _ (by unfold maxLen; omega) (by omega) _ hseq
  refine ((callsIn_wide (n := 6)).1 cS).mono ?_
  rintro e w' ⟨v, ss, rfl, hS, hrow, hnil, hb⟩
  obtain ⟨m1, m2, m3, m4⟩ := mem_intKeys hown
  have hnd : ss.Nodup := hS.nodup_iff.2 m1
  have ha := asc_sorted hnd
  refine ⟨v, srt ss, rfl, ha.1, fun x => ?_, by rw [srt_len, hS.length_eq, m3]; exact hsz, by rw [srt_len]; exact ownsRow_base_a hrow (Nat.zero_le _), Keeps.of_below hb _, ?_⟩
  · rw [ha.2, hS.mem_iff]
    constructor
    · intro hx
      refine ⟨m2 x hx, ?_⟩
      rw [← GMap.has (S := kI) (E := E) D hD (m2 x hx), kI_lit (m2 x hx)]
      exact (m4 x).1 hx
    · rintro ⟨hok, hx⟩
      rw [← GMap.has (S := kI) (E := E) D hD hok, kI_lit hok] at hx
      exact (m4 x).2 hx
  · intro k hk
    rcases hrow.2 with ⟨rfl, _⟩ | ⟨g', cap, cur, rfl, hbase, _⟩
    · simp at hk
    · simp at hk
      subst hk
      exact hbase

/-! Strings. -/
theorem sortsS (m : Nat) : AnyZ.SortsIn Tryz.prog sortedS_ren Fence.wide m :=
  ⟨fun blk off cap ss W hH hblk hsz => callsIn_wide.2 (AnyM.slices_Sort_string sortS blk off cap ss W hH hblk hsz),
   fun p cap W => callsIn_wide.2 (AnyM.slices_Sort_string_none sortS p cap W)⟩
def vs (L : List Str) : List Value := L.map sv
/-- The keys of the datum, told apart. -/
theorem mem_strKeys {D : DataW Unit} {w : World} {b n : Nat} {R : Value → Option (DataW Unit × List MemPlace)} (hown : w.ownsMap Tryz.prog 9 R b n D) : (strKeys D).Nodup ∧ (∀ x ∈ strKeys D, kS.ok x) ∧ (strKeys D).length = Maps.size D ∧ ∀ x, x ∈ strKeys D ↔ Maps.has D (.string x) = true := by
  obtain ⟨es, hD, hpw, _⟩ := hown.entries kS.K
  obtain ⟨es', hD', hko⟩ := hown.keysOf
  obtain rfl : es = es' := by rw [hD] at hD'; simpa using hD'
  subst hD
  have hk : ∀ p ∈ es, ∃ x, kS.ok x ∧ p.1 = .string x := fun p hp => by
    obtain ⟨v, hv⟩ := hko p hp
    obtain ⟨x, rfl, hx, hl⟩ := KeyS.okOf (S := kS) hv
    exact ⟨x, hx, hl.trans (kS_lit hx).1⟩
  refine ⟨?_, fun x hx => ?_, ?_, fun x => ?_⟩
  · show (es.map fun p => Go.strOf p.1).Nodup
    refine List.pairwise_map.2 (hpw.imp_of_mem fun {p q} hp' hq' hne e => hne ?_)
    obtain ⟨a, -, ha⟩ := hk p hp'
    obtain ⟨b, -, hb⟩ := hk q hq'
    rw [ha, hb] at e ⊢
    exact congrArg _ e
  · obtain ⟨p, hp, rfl⟩ := List.mem_map.1 hx
    obtain ⟨a, hok, ha⟩ := hk p hp
    rw [ha]
    exact hok
  · show (es.map fun p => Go.strOf p.1).length = es.length
    rw [List.length_map]
  · rw [has_eq, List.any_eq_true]
    show x ∈ es.map (fun p => Go.strOf p.1) ↔ _
    rw [List.mem_map]
    constructor
    · rintro ⟨p, hp', rfl⟩
      obtain ⟨a, -, ha⟩ := hk p hp'
      exact ⟨p, hp', by rw [ha]; simp [Lit.sameKey, Go.strOf]⟩
    · rintro ⟨p, hp', hs⟩
      obtain ⟨a, -, ha⟩ := hk p hp'
      rw [ha] at hs
      exact ⟨p, hp', by rw [ha]; simpa [Lit.sameKey, Go.strOf] using hs⟩
def srtS (l : List Str) : List Str := l.mergeSort fun x y => decide (x ≤ y)
theorem srtS_len (l : List Str) : (srtS l).length = l.length := List.length_mergeSort _
theorem asc_sortedS {l : List Str} (h : l.Nodup) : Asc (srtS l) ∧ ∀ x, x ∈ srtS l ↔ x ∈ l := by
  have hp := List.mergeSort_perm l (fun x y => decide (x ≤ y))
  have hs := List.pairwise_mergeSort (le := fun x y : Str => decide (x ≤ y)) (fun a b c h1 h2 => by simp only [decide_eq_true_eq] at *; exact List.le_trans h1 h2) (fun a b => by simp only [Bool.or_eq_true, decide_eq_true_eq]; exact List.le_total a b) l
  have hn : (l.mergeSort fun x y => decide (x ≤ y)).Nodup := hp.nodup_iff.2 h
  refine ⟨?_, fun x => hp.mem_iff⟩
  unfold Asc srtS
  refine (hs.and hn).imp (fun {a b} h => ?_)
  have h1 := h.1
  have h2 := h.2
  simp only [decide_eq_true_eq] at h1
  rcases (str_le_iff a b).1 h1 with h3 | h3
  · exact h3
  · exact absurd h3 h2
theorem keysS_any (mb : Option Nat) (w : World) : Calls Tryz.prog 70 #[.map mb] w fun e w' => e = .returned (.func (.func 98) #[] #[.pointer (some ⟨w.heap.size, 0, none⟩)]) ∧ w' = w.alloc (.cells #[.map mb] 74) :=
  (callsIn_wide (n := 6)).1 (AnyZ.keys_in keysS Fence.wide 6 trivial rfl mb w)
set_option maxHeartbeats 1000000 in
theorem sortedGS {V : Type} {E : ElS V} (w : World) (b n g : Nat) (f : Str → Option V) (h : GMap kS E w b n f) (hn : n ≤ 1000000000) (hg : Blk w g 74 #[.map (some b)]) :
    Calls Tryz.prog 69 #[.func (.func 98) #[] #[.pointer (some ⟨g, 0, none⟩)]] w fun e w' => ∃ (v : Value) (ss : List Str), e = .returned v ∧ Asc ss ∧ (∀ x, x ∈ ss ↔ kS.ok x ∧ (f x).isSome = true) ∧ ss.length ≤ n ∧ w'.ownsRow 0 9 1 v ss.length (vs ss) ∧ Keeps [] w w' ∧ ∀ k ∈ fp v, w.heap.size ≤ k := by
  obtain ⟨D, hown, hD⟩ := h
  have hsz := hown.size_le
  have hseq : SeqGives Fence.wide 3 Tryz.prog 98 #[.pointer (some ⟨g, 0, none⟩)] encStr (fun ss => ss.Perm (strKeys D)) (Maps.size D) w :=
    AnyZ.keys_gives (ρ := keysS_ren) { keysS with } Fence.wide _ trivial rfl (by omega) g b n D w hg.lt (hg.cell 0) hown
  have cS := AnyZ.sorted_in sortedS Fence.wide 6 trivial trivial trivial trivial rfl (by omega) (sortsS _) (enters_of Tryz.func97 (by kernel_rfl) rfl) 98 #[.pointer (some ⟨g, 0, none⟩)] trivial (enters_of Tryz.func98 (by kernel_rfl) rfl) _ _ (by unfold maxLen; omega) (by omega) _ hseq
  refine ((callsIn_wide (n := 6)).1 cS).mono ?_
  rintro e w' ⟨v, ss, rfl, hS, hrow, hnil, hb⟩
  obtain ⟨m1, m2, m3, m4⟩ := mem_strKeys hown
  have hnd : ss.Nodup := hS.nodup_iff.2 m1
  have ha := asc_sortedS hnd
  refine ⟨v, srtS ss, rfl, ha.1, fun x => ?_, by rw [srtS_len, hS.length_eq, m3]; exact hsz, by rw [srtS_len]; exact ownsRow_base_a hrow (Nat.zero_le _), Keeps.of_below hb _, ?_⟩
  · rw [ha.2, hS.mem_iff]
    constructor
    · intro hx
      refine ⟨m2 x hx, ?_⟩
      rw [← GMap.has (S := kS) (E := E) D hD (m2 x hx), (kS_lit (m2 x hx)).1]
      exact (m4 x).1 hx
    · rintro ⟨hok, hx⟩
      rw [← GMap.has (S := kS) (E := E) D hD hok, (kS_lit hok).1] at hx
      exact (m4 x).2 hx
  · intro k hk
    rcases hrow.2 with ⟨rfl, _⟩ | ⟨g', cap, cur, rfl, hbase, _⟩
    · simp at hk
    · simp at hk
      subst hk
      exact hbase
theorem keysB_any (mb : Option Nat) (w : World) : Calls Tryz.prog 90 #[.map mb] w fun e w' => e = .returned (.func (.func 101) #[] #[.pointer (some ⟨w.heap.size, 0, none⟩)]) ∧ w' = w.alloc (.cells #[.map mb] 115) :=
  (callsIn_wide (n := 6)).1 (AnyZ.keys_in keysB Fence.wide 6 trivial rfl mb w)
set_option maxHeartbeats 1000000 in
theorem sortedGB {V : Type} {E : ElS V} (w : World) (b n g : Nat) (f : Str → Option V) (h : GMap kS E w b n f) (hn : n ≤ 1000000000) (hg : Blk w g 115 #[.map (some b)]) :
    Calls Tryz.prog 69 #[.func (.func 101) #[] #[.pointer (some ⟨g, 0, none⟩)]] w fun e w' => ∃ (v : Value) (ss : List Str), e = .returned v ∧ Asc ss ∧ (∀ x, x ∈ ss ↔ kS.ok x ∧ (f x).isSome = true) ∧ ss.length ≤ n ∧ w'.ownsRow 0 9 1 v ss.length (vs ss) ∧ Keeps [] w w' ∧ ∀ k ∈ fp v, w.heap.size ≤ k := by
  obtain ⟨D, hown, hD⟩ := h
  have hsz := hown.size_le
  have hseq : SeqGives Fence.wide 3 Tryz.prog 101 #[.pointer (some ⟨g, 0, none⟩)] encStr (fun ss => ss.Perm (strKeys D)) (Maps.size D) w :=
    AnyZ.keys_gives (ρ := keysB_ren) { keysB with } Fence.wide _ trivial rfl (by omega) g b n D w hg.lt (hg.cell 0) hown
  have cS := AnyZ.sorted_in sortedS Fence.wide 6 trivial trivial trivial trivial rfl (by omega) (sortsS _) (enters_of Tryz.func97 (by kernel_rfl) rfl) 101 #[.pointer (some ⟨g, 0, none⟩)] trivial (enters_of Tryz.func101 (by kernel_rfl) rfl) _ _ (by unfold maxLen; omega) (by omega) _ hseq
  refine ((callsIn_wide (n := 6)).1 cS).mono ?_
  rintro e w' ⟨v, ss, rfl, hS, hrow, hnil, hb⟩
  obtain ⟨m1, m2, m3, m4⟩ := mem_strKeys hown
  have hnd : ss.Nodup := hS.nodup_iff.2 m1
  have ha := asc_sortedS hnd
  refine ⟨v, srtS ss, rfl, ha.1, fun x => ?_, by rw [srtS_len, hS.length_eq, m3]; exact hsz, by rw [srtS_len]; exact ownsRow_base_a hrow (Nat.zero_le _), Keeps.of_below hb _, ?_⟩
  · rw [ha.2, hS.mem_iff]
    constructor
    · intro hx
      refine ⟨m2 x hx, ?_⟩
      rw [← GMap.has (S := kS) (E := E) D hD (m2 x hx), (kS_lit (m2 x hx)).1]
      exact (m4 x).1 hx
    · rintro ⟨hok, hx⟩
      rw [← GMap.has (S := kS) (E := E) D hD hok, (kS_lit hok).1] at hx
      exact (m4 x).2 hx
  · intro k hk
    rcases hrow.2 with ⟨rfl, _⟩ | ⟨g', cap, cur, rfl, hbase, _⟩
    · simp at hk
    · simp at hk
      subst hk
      exact hbase
end Go.Proofs.YtbllmpcpfmlemaaGreat
