/- slices.Sorted(maps.Keys(m)) at a map from ints to pointers. -/
import Derived.Test.YteognipfnbocpaaGreatLay
import Derived.Test.YteognipfnbocpaaGreatMpp
namespace Go.Proofs.YteognipfnbocpaaGreat
open Go.RowKit Go.Maps Go.Sort Go.Shelf

theorem sortsA (m : Nat) : AnyZI.SortsIn Tryz.prog sortedA_ren Fence.wide m :=
  ⟨fun blk off cap ss W hH hblk hsz => callsIn_wide.2 (AnyM.slices_Sort_int sortA blk off cap ss W hH hblk hsz),
   fun p cap W => callsIn_wide.2 (AnyM.slices_Sort_int_none sortA p cap W)⟩
theorem keys_any (mb : Option Nat) (w : World) : Calls Tryz.prog 38 #[.map mb] w fun e w' => e = .returned (.func (.func 71) #[] #[.pointer (some ⟨w.heap.size, 0, none⟩)]) ∧ w' = w.alloc (.cells #[.map mb] 57) :=
  (callsIn_wide (n := 6)).1 (AnyZI.keys_in keysA Fence.wide 6 trivial rfl mb w)
/-- The keys of the datum, told apart. -/
theorem mem_intKeys {D : DataW Unit} {w : World} {b n : Nat} {R : Value → Option (DataW Unit × List MemPlace)} (hown : w.ownsMap Tryz.prog 3 R b n D) : (intKeys D).Nodup ∧ ∀ x, x ∈ intKeys D ↔ has D (.int .i64 x) = true := by
  obtain ⟨es, hD, hpw, _⟩ := hown.entries keyedI
  obtain ⟨es', hD', hko⟩ := hown.keysOf
  obtain rfl : es = es' := by rw [hD] at hD'; simpa using hD'
  subst hD
  have hk : ∀ p ∈ es, ∃ x, p.1 = .int .i64 x := fun p hp => by obtain ⟨v, hv⟩ := hko p hp; obtain ⟨x, _, hx, _⟩ := Maps.keyOf_i64 Tryz.underlying3 hv; exact ⟨x, hx⟩
  refine ⟨?_, fun x => ?_⟩
  · show (es.map fun p => Go.intOf p.1).Nodup
    refine List.pairwise_map.2 (hpw.imp_of_mem fun {p q} hp' hq' hne e => hne ?_)
    obtain ⟨a, ha⟩ := hk p hp'
    obtain ⟨b, hb⟩ := hk q hq'
    rw [ha, hb] at e ⊢
    exact congrArg _ e
  · rw [has_eq, List.any_eq_true]
    show x ∈ es.map (fun p => Go.intOf p.1) ↔ _
    rw [List.mem_map]
    constructor
    · rintro ⟨p, hp', rfl⟩
      obtain ⟨a, ha⟩ := hk p hp'
      exact ⟨p, hp', by rw [ha]; simp [Lit.sameKey, Go.intOf]⟩
    · rintro ⟨p, hp', hs⟩
      obtain ⟨a, ha⟩ := hk p hp'
      rw [ha] at hs
      exact ⟨p, hp', by rw [ha]; simpa [Lit.sameKey, Go.intOf] using hs⟩
theorem intKeys_len {D : DataW Unit} {w : World} {b n : Nat} {R : Value → Option (DataW Unit × List MemPlace)} (hown : w.ownsMap Tryz.prog 3 R b n D) : (intKeys D).length = Maps.size D := by
  obtain ⟨es, hD, _⟩ := hown.entries keyedI
  subst hD
  show (es.map fun p => Go.intOf p.1).length = es.length
  rw [List.length_map]
/-- A list of ints that is sorted and tells its elements apart. -/
def Asc (l : List Int) : Prop := l.Pairwise (· < ·)
theorem asc_sorted {l : List Int} (h : l.Nodup) : Asc (l.mergeSort fun x y => decide (x ≤ y)) ∧ ∀ x, x ∈ (l.mergeSort fun x y => decide (x ≤ y)) ↔ x ∈ l := by
  have hp := List.mergeSort_perm l (fun x y => decide (x ≤ y))
  have hs := List.pairwise_mergeSort (le := fun x y : Int => decide (x ≤ y)) (fun a b c h1 h2 => by simp only [decide_eq_true_eq] at *; omega) (fun a b => by simp only [Bool.or_eq_true, decide_eq_true_eq]; omega) l
  have hn : (l.mergeSort fun x y => decide (x ≤ y)).Nodup := hp.nodup_iff.2 h
  refine ⟨?_, fun x => hp.mem_iff⟩
  unfold Asc
  refine (hs.and hn).imp (fun {a b} h => ?_)
  have h1 := h.1
  have h2 := h.2
  simp only [decide_eq_true_eq] at h1
  omega
set_option maxHeartbeats 1000000 in
theorem sorted_pm (w : World) (b n g : Nat) (f : Int → Option Nat) (h : PMap w b n f) (hn : n ≤ 1000000) (hg : Blk w g 57 #[.map (some b)]) :
    Calls Tryz.prog 37 #[.func (.func 71) #[] #[.pointer (some ⟨g, 0, none⟩)]] w fun e w' => ∃ (v : Value) (ss : List Int), e = .returned v ∧ Asc ss ∧ (∀ x, x ∈ ss ↔ (f x).isSome) ∧ ss.length ≤ n ∧ w'.ownsRow 0 3 1 v ss.length (ss.map (Value.int .i64)) ∧ Keeps [] w w' ∧ ∀ k ∈ fp v, w.heap.size ≤ k := by
  obtain ⟨D, hown, hD⟩ := h
  have hsz := hown.size_le
  have hseq : SeqGives Fence.wide 3 Tryz.prog 71 #[.pointer (some ⟨g, 0, none⟩)] encZ (fun ss => ss.Perm (intKeys D)) (Maps.size D) w :=
    AnyZI.keys_gives (ρ := keysA_ren) { keysA with } Fence.wide _ trivial rfl (by omega) g b n D w hg.lt (hg.cell 0) hown
  have cS := AnyZI.sorted_in sortedA Fence.wide 6 trivial trivial trivial trivial rfl (by omega) (sortsA _) (enters_of Tryz.func70 (by kernel_rfl) rfl) 71 #[.pointer (some ⟨g, 0, none⟩)] trivial (enters_of Tryz.func71 (by kernel_rfl) rfl) _ _ (by unfold maxLen; omega) (by omega) _ hseq
  refine ((callsIn_wide (n := 6)).1 cS).mono ?_
  rintro e w' ⟨v, ss, rfl, hS, hrow, hnil, hb⟩
  have hm := mem_intKeys hown
  have hnd : ss.Nodup := hS.nodup_iff.2 hm.1
  have ha := asc_sorted hnd
  refine ⟨v, _, rfl, ha.1, fun x => ?_, by rw [List.length_mergeSort, hS.length_eq, intKeys_len hown]; exact hsz, by rw [List.length_mergeSort]; exact ownsRow_base_a hrow (Nat.zero_le _), Keeps.of_below hb _, ?_⟩
  · rw [ha.2, hS.mem_iff, hm.2]
    cases hf : f x with
    | none => rw [Maps.has_false_of_atKey (fun z => by rw [hD x z, hf]; rfl)]; simp
    | some p => rw [Maps.has_true_of_atKey (y := .lit (.int .i64 (p : Int))) (fun z => by rw [hD x z, hf]; rfl)]; simp
  · intro k hk
    rcases hrow.2 with ⟨rfl, _⟩ | ⟨g', cap, cur, rfl, hbase, _⟩
    · simp at hk
    · simp at hk
      subst hk
      exact hbase
end Go.Proofs.YteognipfnbocpaaGreat
