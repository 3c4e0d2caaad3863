/- Lists of areas in memory; Find and the reference's Find. -/
import Derived.Test.YtiffjaociblboaaW1
import Derived.Test.YtiffjaociblboaaSto
namespace Go.Proofs.Ytiffjaociblboaa
open Go.RowKit

def acs (x : Ar) : List Value := [.int .i64 x.a, .int .i64 x.n, .string x.o, .int .i64 x.f, .bool x.s, .bool x.w]
/-- The list lies at A. -/
structure AtL (w : World) (A : Option Addr) (L : List Ar) : Prop where
  at_ : 0 < L.length → ∃ b off, A = some ⟨b, off, none⟩ ∧ b < w.heap.size ∧ ∀ k (hk : k < L.length),
    w.cell? ⟨b, off + k * 6, none⟩ = some (.int .i64 L[k].a) ∧ w.cell? ⟨b, off + k * 6 + 1, none⟩ = some (.int .i64 L[k].n) ∧ w.cell? ⟨b, off + k * 6 + 2, none⟩ = some (.string L[k].o) ∧
    w.cell? ⟨b, off + k * 6 + 3, none⟩ = some (.int .i64 L[k].f) ∧ w.cell? ⟨b, off + k * 6 + 4, none⟩ = some (.bool L[k].s) ∧ w.cell? ⟨b, off + k * 6 + 5, none⟩ = some (.bool L[k].w)
  mx : L.length ≤ 1000000
theorem AtL.keep {w w' : World} {A : Option Addr} {L : List Ar} (h : AtL w A L) (hk : Keeps [] w w') : AtL w' A L := by
  refine ⟨fun h0 => ?_, h.mx⟩
  obtain ⟨b, off, h1, h2, h3⟩ := h.at_ h0
  have e : ∀ o, w'.cell? ⟨b, o, none⟩ = w.cell? ⟨b, o, none⟩ := fun o => hk.cell (p := ⟨b, o, none⟩) h2 (by simp)
  exact ⟨b, off, h1, Nat.lt_of_lt_of_le h2 hk.size, fun k hk => by simp only [e]; exact h3 k hk⟩
theorem acs_len (x : Ar) : (acs x).length = 6 := rfl
theorem acs_one (x : Ar) : ∀ u ∈ acs x, u.oneCell' = true := by intro u hu; simp [acs] at hu; rcases hu with rfl | rfl | rfl | rfl | rfl | rfl <;> rfl
/-- A row of the call's own. -/
theorem AtL.of_own {w : World} {A : Option Addr} {c : Nat} {L : List Ar} (h : w.ownsRow 0 24 6 (.slice A L.length c) L.length (rw acs L)) (hm : L.length ≤ 1000000) : AtL w A L := by
  refine ⟨fun h0 => ?_, hm⟩
  obtain ⟨_, _, hv, -, -, hA⟩ := own_shape h
  obtain ⟨g, hg⟩ := hA h0
  obtain ⟨rfl, -, rfl⟩ : A = _ ∧ L.length = _ ∧ c = _ := by injection hv with h1 h2 h3; exact ⟨h1, rfl, h3⟩
  subst hg
  have hc : ∀ k (hk : k < L.length) j (hj : j < 6) u, (acs L[k])[j]? = some u → w.cell? ⟨g, k * 6 + j, none⟩ = some u := fun k hk j hj u hu => own_cell h (by rw [rw_at acs_len hk hj]; exact hu)
  refine ⟨g, 0, rfl, own_lt h (by simp [fp, Value.ownBlock]), fun k hk => ?_⟩
  rw [Nat.zero_add]
  exact ⟨hc k hk 0 (by omega) _ rfl, hc k hk 1 (by omega) _ rfl, hc k hk 2 (by omega) _ rfl, hc k hk 3 (by omega) _ rfl, hc k hk 4 (by omega) _ rfl, hc k hk 5 (by omega) _ rfl⟩
/-- What Find tells where no area holds the page. -/
def zA : Ar := ⟨0, 0, ⟨#[]⟩, 0, false, false⟩
def fndV (L : List Ar) (p : Int) : Ar := (fnd L p).getD zA
/-- Valid up to here: what was looked at is valid. -/
def Vds (L : List Ar) : Prop := ∀ x ∈ L, Vd x
theorem fnd_take {L : List Ar} {p : Int} {k : Nat} (hk : k < L.length) (h : fnd (L.take k) p = none) : fnd (L.take (k + 1)) p = if inA p L[k] then some L[k] else none := by
  rw [List.take_succ_eq_append_getElem hk]
  unfold fnd at h ⊢
  rw [List.find?_append, h, Option.none_or]
  show [L[k]].find? (inA p) = _
  rw [List.find?_cons]
  split <;> simp_all
theorem fnd_hit {L : List Ar} {p : Int} {k : Nat} (hk : k < L.length) (h : fnd (L.take k) p = none) (hi : inA p L[k] = true) : fnd L p = some L[k] := by
  have h1 := fnd_take hk h
  rw [if_pos hi] at h1
  unfold fnd at h1 ⊢
  have e : (L.take (k + 1) ++ L.drop (k + 1)).find? (inA p) = some L[k] := by rw [List.find?_append, h1]; rfl
  rwa [List.take_append_drop] at e
set_option maxRecDepth 100000 in
set_option maxHeartbeats 3200000 in
theorem find_any (w : World) (A : Option Addr) (L : List Ar) (c : Nat) (p : Int) (h : AtL w A L) (hv : Vds L) :
    Calls Try.prog 12 #[.slice A L.length c, .int .i64 p] w fun e w' => e = .returned (.tuple #[(fndV L p).v, .bool (fnd L p).isSome]) ∧ Keeps [] w w' := by
  have hm := h.mx
  have HH := Lib.hid h
  have HV := Lib.hid hv
  obtain ⟨Z, hZ⟩ : ∃ Z, fndV L p = Z := ⟨_, rfl⟩
  obtain ⟨B, hB⟩ : ∃ B, (fnd L p).isSome = B := ⟨_, rfl⟩
  rw [hZ, hB]
  have HZ := Lib.hid (And.intro hZ hB)
  clear h hv hZ hB
  unfold Ar.v
  go_enter Try.func12, Try.ntmps12
  go_wp2_with fail
  have k0 : Keeps [] w (w.alloc (.cells #[.int .i64 0, .int .i64 0, .string ⟨#[]⟩, .int .i64 0, .bool false, .bool false] 24)) := (Keeps.refl _ _).alloc _
  have b0 := Blk.new w 24 #[.int .i64 0, .int .i64 0, .string ⟨#[]⟩, .int .i64 0, .bool false, .bool false]
  go_loopw [10] (fun i wr => ∃ k : Nat, k ≤ L.length ∧ i = .int .i64 k ∧ fnd (L.take k) p = none ∧ Blk wr w.heap.size 24 #[.int .i64 0, .int .i64 0, .string ⟨#[]⟩, .int .i64 0, .bool false, .bool false] ∧ Keeps [] w wr) (fun i _ => L.length - (intOf i).toNat)
  case atStart => exact ⟨0, by omega, rfl, rfl, b0, k0⟩
  case round =>
    clear k0 b0
    obtain ⟨k, hk, rfl, hf, b, kp⟩ := hrel
    have HF := Lib.hid hf
    have HB := Lib.hid b
    have HK := Lib.hid kp
    clear hf
    by_cases hlt : k < L.length
    · obtain ⟨bl, off, rfl, hbl, hc⟩ := (HH.out.keep kp).at_ (by omega)
      obtain ⟨c0, c1, c2, c3, c4, c5⟩ := hc k hlt
      have hvk := HV.out _ (List.getElem_mem hlt)
      have h1 := hvk.a0
      have h2 := hvk.n1
      have h3 := hvk.n2
      have h4 := hvk.an
      have HX := Lib.hid (fnd_take hlt HF.out)
      have HX2 := Lib.hid (fun hi => fnd_hit hlt HF.out hi)
      obtain ⟨x, hx⟩ : ∃ x, L[k] = x := ⟨_, rfl⟩
      rw [hx] at c0 c1 c2 c3 c4 c5 h1 h2 h3 h4 HX HX2
      clear hx hvk hc b kp
      by_cases hi : inA p x = true
      · have hi' := inA_iff.1 hi
        have h5 := hi'.1
        have h6 := hi'.2
        have hF := HX2.out hi
        have eZ : Z = x := by rw [← HZ.out.1]; unfold fndV; rw [hF]; rfl
        have eB : B = true := by rw [← HZ.out.2, hF]; rfl
        have HE := Lib.hid (And.intro eZ eB)
        have HB2 := Lib.hid (HB.out.alloc (.cells #[.int .i64 x.a, .int .i64 x.n, .string x.o, .int .i64 x.f, .bool x.s, .bool x.w] 24))
        clear hi hi' hF eZ eB
        go_wp2_with (refine wpList_store_blk rfl 24 _ _ rfl rfl w.heap.size rfl 24 _ #[.int .i64 x.a, .int .i64 x.n, .string x.o, .int .i64 x.f, .bool x.s, .bool x.w] HB2.out rfl rfl (by simp [Value.oneCell']) (by kernel_rfl) ?_; intro w3 b3 k3)
        have r0 := b3.cell 0
        have r1 := b3.cell 1
        have r2 := b3.cell 2
        have r3 := b3.cell 3
        have r4 := b3.cell 4
        have r5 := b3.cell 5
        have KF := Lib.hid ((HK.out.alloc (.cells #[.int .i64 x.a, .int .i64 x.n, .string x.o, .int .i64 x.f, .bool x.s, .bool x.w] 24)).trans k3 (fun g hg => .inr (by simp at hg; omega)))
        clear b3 k3
        go_wp2_with fail
        refine bodyPost_ret (v := .tuple #[.agg #[.int .i64 x.a, .int .i64 x.n, .string x.o, .int .i64 x.f, .bool x.s, .bool x.w], .bool true]) (by simp [results, Try.results12, go_sem, r0, r1, r2, r3, r4, r5]) rfl ?_
        rw [HE.out.1, HE.out.2]
        exact ⟨rfl, KF.out⟩
      · have hi' : ¬ (x.a ≤ p ∧ p < x.a + x.n) := fun h => hi (inA_iff.2 h)
        have hN : fnd (L.take (k + 1)) p = none := by rw [HX.out, if_neg hi]
        have HN := Lib.hid hN
        by_cases h5 : x.a ≤ p
        · have h6 : x.a + x.n ≤ p := by omega
          clear hi hi' hN
          go_wp2_with fail
          go_roundw
          case rel => exact ⟨k + 1, by omega, by go_num, HN.out, HB.out.alloc _, HK.out.alloc _⟩
          case measure => simp [intOf]; omega
        · have h6 : p < x.a := by omega
          clear hi hi' hN
          go_wp2_with fail
          go_roundw
          case rel => exact ⟨k + 1, by omega, by go_num, HN.out, HB.out.alloc _, HK.out.alloc _⟩
          case measure => simp [intOf]; omega
    · obtain rfl : k = L.length := by omega
      have hF := HF.out
      rw [List.take_length] at hF
      have eZ : Z = zA := by rw [← HZ.out.1]; unfold fndV; rw [hF]; rfl
      have eB : B = false := by rw [← HZ.out.2, hF]; rfl
      have HE := Lib.hid (And.intro eZ eB)
      clear eZ eB hF b kp
      go_wp2_with (refine wpList_store_blk rfl 24 _ _ rfl rfl w.heap.size rfl 24 _ #[.int .i64 0, .int .i64 0, .string ⟨#[]⟩, .int .i64 0, .bool false, .bool false] HB.out rfl rfl (by simp [Value.oneCell']) (by kernel_rfl) ?_; intro w3 b3 k3)
      have r0 := b3.cell 0
      have r1 := b3.cell 1
      have r2 := b3.cell 2
      have r3 := b3.cell 3
      have r4 := b3.cell 4
      have r5 := b3.cell 5
      have KF := Lib.hid (HK.out.trans k3 (fun g hg => .inr (by simp at hg; omega)))
      clear b3 k3
      go_wp2_with fail
      refine bodyPost_ret (v := .tuple #[.agg #[.int .i64 0, .int .i64 0, .string ⟨#[]⟩, .int .i64 0, .bool false, .bool false], .bool false]) (by simp [results, Try.results12, go_sem, r0, r1, r2, r3, r4, r5]) rfl ?_
      rw [HE.out.1, HE.out.2]
      exact ⟨rfl, KF.out⟩
end Go.Proofs.Ytiffjaociblboaa
