/- Look. -/
import Derived.Test.YteognipfnbocpaaT13W7
namespace Go.Proofs.Yteognipfnbocpaa.T13
open Go.RowKit

theorem es_erase (L : List En) (i : Nat) : es (L.eraseIdx i) = (es L).take (i * 4) ++ (es L).drop ((i + 1) * 4) := by
  rw [es_take, es_drop, ← es_append, List.eraseIdx_eq_take_drop_succ]
set_option maxRecDepth 100000 in
set_option maxHeartbeats 3200000 in
theorem look_any (w : World) (F : List Nat) (p : Nat) (s : Tl) (x y : Int) (b : Bool) (hn : s.n ≤ 1000) (h : TlRep 83 w F p s) :
    Calls Try.prog 42 #[.pointer (some ⟨p, 0, none⟩), .int .i64 x, .int .i64 y, .bool b] w fun e w' => e = .returned (.tuple #[.int .i64 (s.lookR x y b).1, .bool (s.lookR x y b).2]) ∧ Next 83 w w' F p (s.look x y b) := by
  have hrep := h
  obtain ⟨A, cap, h⟩ := h
  have hm := h.m
  have hpl := h.b.lt
  have c1 : w.cell? ⟨p, 1, none⟩ = some (.slice A s.L.length cap) := h.b.cell 1
  have kd : Keeps [] w w.drew := (Keeps.refl [] w).drew
  have HC : Hid (∀ W, Keeps [] w W → W.cell? ⟨p, 1, none⟩ = some (.slice A s.L.length cap)) := Lib.hid (fun W hk => (h.b.keep hk (by simp)).cell 1)
  obtain ⟨wa, hwa⟩ : ∃ W, W = (w.drew.alloc (.cells #[.int .i64 x] 3)).alloc (.cells #[.int .i64 y] 3) := ⟨_, rfl⟩
  have ka : Keeps [] w wa := by rw [hwa]; exact (kd.alloc _).alloc _
  obtain ⟨n1, n2⟩ := keepB hrep
  have pr : PB [] 64 #[.pointer (some ⟨w.heap.size, 0, none⟩), .pointer (some ⟨w.heap.size + 1, 0, none⟩)] (fun e => e.is x y) wa := by
    rw [hwa]
    exact at_pred [] _ w.heap.size (w.heap.size + 1) x y ((Blk.new w.drew 3 #[.int .i64 x]).alloc _) (by have := Blk.new (w.drew.alloc (.cells #[.int .i64 x] 3)) 3 #[.int .i64 y]; simpa using this) (by simp) (by simp)
  have hix := indexFunc_any wa A cap s.L 64 _ (fun e => e.is x y) enters64 (by omega) (own_keep h.o ka (by simp)) pr
  have HI := Lib.hid hix
  clear hix pr
  have hat := at_any w.drew x y
  rw [← hwa, show w.drew.heap.size = w.heap.size from rfl] at hat
  have HAT := Lib.hid hat
  clear hat
  have q0 := HC.out _ kd
  have q1 := HC.out _ ka
  have HR := Lib.hid hrep
  have HH := Lib.hid h
  have KA := Lib.hid ka
  cases hf : s.L.findIdx? (fun e => e.is x y) with
  | none =>
    have e1 : s.look x y b = s := by unfold Tl.look Tl.hit; rw [hf]
    have e2 : s.lookR x y b = (0, false) := by unfold Tl.lookR Tl.hit; rw [hf]
    have HE := Lib.hid (And.intro e1 e2)
    rw [fidx_none hf] at HI
    clear hf e1 e2 hrep h hwa ka
    go_enter Try.func42, Try.ntmps42
    go_wp2_with fail
    go_region_held3 (fun w' => w'.cell? ⟨p, 1, none⟩ = some (.slice A s.L.length cap))
      (first
        | rw [q2]
        | rw [q1]
        | rw [q0])
      ((first
        | (go_at_call 56; refine HAT.out.mono ?_; rintro e w1 ⟨rfl, rfl⟩)
        | (go_at_call 57; refine HI.out.mono ?_; rintro e w2 ⟨rfl, k2⟩; have K2 := KA.out.trans k2 (by simp); have q2 := HC.out _ K2)))
    go_wp2
    go_ret2
    obtain ⟨e1, e2⟩ := HE.out
    rw [e1, e2]
    exact ⟨rfl, .same (HR.out.keep K2 (by simp)) (K2.mono (by simp))⟩
  | some i =>
    have hil : i < s.L.length := by rw [List.findIdx?_eq_some_iff_getElem] at hf; exact hf.1
    have hgd : s.L.getD i en0 = s.L[i] := by simp [List.getD, hil]
    rw [fidx_some hf] at HI
    obtain ⟨_, _, hv, hcap, hmax, hA⟩ := own_shape h.o
    obtain ⟨rfl, -, rfl⟩ : A = _ ∧ s.L.length = _ ∧ cap = _ := by injection hv with h1 h2 h3; exact ⟨h1, rfl, h3⟩
    clear hv
    obtain ⟨g, rfl⟩ := hA (by omega)
    have HS : Hid (∀ W, Keeps [] w W → W.cell? ⟨g, i * 4, none⟩ = some (.int .i64 s.L[i].s) ∧ W.cell? ⟨g, i * 4 + 1, none⟩ = some (.int .i64 s.L[i].p) ∧ W.cell? ⟨g, i * 4 + 2, none⟩ = some (.int .i64 s.L[i].f) ∧ W.cell? ⟨g, i * 4 + 3, none⟩ = some (.bool s.L[i].w)) :=
      Lib.hid (fun W hk => by
        have o := own_keep h.o hk (by simp)
        exact ⟨own_cell o (by rw [show i * 4 = i * 4 + 0 by omega, es_at hil (by omega)]; rfl), own_cell o (by rw [es_at hil (by omega)]; rfl), own_cell o (by rw [es_at hil (by omega)]; rfl), own_cell o (by rw [es_at hil (by omega)]; rfl)⟩)
    cases hb : (b && !s.L[i].w) with
    | true =>
      have e1 : s.look x y b = s := by unfold Tl.look Tl.hit; rw [hf]; simp only [hgd, hb, if_true]
      have e2 : s.lookR x y b = (0, false) := by unfold Tl.lookR Tl.hit; rw [hf]; simp only [hgd, hb, if_true]
      have HE := Lib.hid (And.intro e1 e2)
      simp only [Bool.and_eq_true, Bool.not_eq_true'] at hb
      obtain ⟨rfl, hw⟩ := hb
      clear hf e1 e2 hrep h hwa ka hA hgd hcap hmax
      go_enter Try.func42, Try.ntmps42
      go_wp2_with fail
      go_region_held3 (fun w' => w'.cell? ⟨p, 1, none⟩ = some (.slice (some ⟨g, 0, none⟩) s.L.length cap))
        (first
          | rw [q2]
          | rw [q1]
          | rw [q0])
        ((first
          | (go_at_call 56; refine HAT.out.mono ?_; rintro e w1 ⟨rfl, rfl⟩)
          | (go_at_call 57; refine HI.out.mono ?_; rintro e w2 ⟨rfl, k2⟩; have K2 := KA.out.trans k2 (by simp); have q2 := HC.out _ K2)))
      obtain ⟨m0, m1, m2, m3⟩ := HS.out _ K2
      rw [hw] at m3
      go_wp2
      go_ret2
      obtain ⟨e1, e2⟩ := HE.out
      rw [e1, e2]
      exact ⟨rfl, .same (HR.out.keep K2 (by simp)) (K2.mono (by simp))⟩
    | false =>
      have e1 : s.look x y b = ⟨s.n, s.L[i] :: s.L.eraseIdx i⟩ := by unfold Tl.look Tl.hit; rw [hf]; simp only [hgd, hb, Bool.false_eq_true, if_false]
      have e2 : s.lookR x y b = (s.L[i].f, true) := by unfold Tl.lookR Tl.hit; rw [hf]; simp only [hgd, hb, Bool.false_eq_true, if_false]
      have HE := Lib.hid (And.intro e1 e2)
      have hwr : IntKind.i64.wrap ((i : Int) + 1) = i + 1 := by rw [IntKind.wrap_i64]; omega
      have hi0 : (0 : Int) ≤ i := by omega
      have hi1 : (i : Int) < s.L.length := by omega
      clear hf e1 e2 hrep h hwa ka hA hgd hcap hmax
      go_enter Try.func42, Try.ntmps42
      go_wp2_with fail
      go_region_held3 (fun w' => w'.cell? ⟨p, 1, none⟩ = some (.slice (some ⟨g, 0, none⟩) s.L.length cap))
        (first
          | rw [q2]
          | rw [q1]
          | rw [q0])
        ((first
          | (go_at_call 56; refine HAT.out.mono ?_; rintro e w1 ⟨rfl, rfl⟩)
          | (go_at_call 57; refine HI.out.mono ?_; rintro e w2 ⟨rfl, k2⟩; have K2 := KA.out.trans k2 (by simp); have q2 := HC.out _ K2)))
      obtain ⟨m0, m1, m2, m3⟩ := HS.out _ K2
      have hil2 : (s.L.eraseIdx i).length = s.L.length - 1 := List.length_eraseIdx_of_lt hil
      have G2 := HH.out.o
      have hpg : p ≠ g := by have := HH.out.off; simpa using this
      have hf := HH.out.f
      have ht := HH.out.t
      have hB := HH.out.b
      have hs2 : w.heap.size ≤ w2.heap.size := K2.size
      have hgl : g < w.heap.size := own_lt G2 (by simp)
      have hpl2 : p < w2.heap.size := by omega
      have hgl2 : g < w2.heap.size := by omega
      cases b with
      | false =>
        go_wp2_with fail
        refine (delete_any _ g s.L.length cap i _ (own_keep G2 (K2.alloc _) (by simp)) (es_one _) hil (by omega)).mono ?_
        rintro e w3 ⟨rfl, o3, k3⟩
        rw [← es_erase] at o3
        have bx := (Blk.new w2 41 #[.int .i64 s.L[i].s, .int .i64 s.L[i].p, .int .i64 s.L[i].f, .bool s.L[i].w]).keep k3 (by simp; omega)
        have y0 : w3.cell? ⟨w2.heap.size, 0, none⟩ = some (.int .i64 s.L[i].s) := bx.cell 0
        have y1 : w3.cell? ⟨w2.heap.size, 1, none⟩ = some (.int .i64 s.L[i].p) := bx.cell 1
        have y2 : w3.cell? ⟨w2.heap.size, 2, none⟩ = some (.int .i64 s.L[i].f) := bx.cell 2
        have y3 : w3.cell? ⟨w2.heap.size, 3, none⟩ = some (.bool s.L[i].w) := bx.cell 3
        have b3 := (hB.keep (K2.alloc (.cells #[.int .i64 s.L[i].s, .int .i64 s.L[i].p, .int .i64 s.L[i].f, .bool s.L[i].w] 41)) (by simp)).keep k3 (by simp; exact hpg)
        have d1 : w3.cell? ⟨p, 1, none⟩ = some (.slice (some ⟨g, 0, none⟩) s.L.length cap) := b3.cell 1
        have fz : w3.frozen? ⟨p, 1, none⟩ = false := b3.frozen 1
        have hcut : TlRep 83 (w3.setCell ⟨p, 1, none⟩ (.slice (some ⟨g, 0, none⟩) (s.L.length - 1) cap)) F p ⟨s.n, s.L.eraseIdx i⟩ :=
          ⟨some ⟨g, 0, none⟩, cap, hf, by simp only [hil2]; exact b3.set_ 1 _, by simp only [hil2]; exact own_far o3 (by simpa using hpg) _, by simp only [hil2]; omega, ht⟩
        have K3 : Keeps F w (w3.setCell ⟨p, 1, none⟩ (.slice (some ⟨g, 0, none⟩) (s.L.length - 1) cap)) :=
          (Keeps.trans (F := F) ((K2.alloc _).mono (by simp)) k3 (by rw [hf]; simp)).setCell (.inl (by rw [hf]; simp)) _
        have bx4 := bx.far (p := ⟨p, 1, none⟩) (by simp; omega) (.slice (some ⟨g, 0, none⟩) (s.L.length - 1) cap)
        have nF : w2.heap.size ∉ F := fun hx => by have := HR.out.lt _ hx; omega
        have hl3 : w2.heap.size < w3.heap.size := bx.lt
        have hpl3 : p < w3.heap.size := b3.lt
        have hfi := first_any _ F p ⟨s.n, s.L.eraseIdx i⟩ s.L[i] hn (by simp only [hil2]; omega) hcut
        have HFI := Lib.hid hfi
        clear hfi hcut o3 b3 bx k3 m0 m1 m2 m3
        go_wp2_with fail
        refine HFI.out.mono ?_
        rintro e w5 ⟨rfl, F5, r5, k5, f5⟩
        have bx5 := bx4.keep k5 nF
        have z2 : w5.cell? ⟨w2.heap.size, 2, none⟩ = some (.int .i64 s.L[i].f) := bx5.cell 2
        go_wp2
        go_ret2
        obtain ⟨e1, e2⟩ := HE.out
        rw [e1, e2]
        refine ⟨rfl, F5, r5, K3.trans k5 (fun g hg => .inl hg), fun g hg => ?_⟩
        rcases f5 g hg with h1 | h1
        · exact .inl h1
        · exact .inr (Nat.le_trans K3.size h1)
      | true =>
        have hw : s.L[i].w = true := by simpa using hb
        rw [hw] at m3
        go_wp2_with fail
        refine (delete_any _ g s.L.length cap i _ (own_keep G2 (K2.alloc _) (by simp)) (es_one _) hil (by omega)).mono ?_
        rintro e w3 ⟨rfl, o3, k3⟩
        rw [← es_erase] at o3
        have bx := (Blk.new w2 41 #[.int .i64 s.L[i].s, .int .i64 s.L[i].p, .int .i64 s.L[i].f, .bool true]).keep k3 (by simp; omega)
        have y0 : w3.cell? ⟨w2.heap.size, 0, none⟩ = some (.int .i64 s.L[i].s) := bx.cell 0
        have y1 : w3.cell? ⟨w2.heap.size, 1, none⟩ = some (.int .i64 s.L[i].p) := bx.cell 1
        have y2 : w3.cell? ⟨w2.heap.size, 2, none⟩ = some (.int .i64 s.L[i].f) := bx.cell 2
        have y3 : w3.cell? ⟨w2.heap.size, 3, none⟩ = some (.bool true) := bx.cell 3
        have b3 := (hB.keep (K2.alloc (.cells #[.int .i64 s.L[i].s, .int .i64 s.L[i].p, .int .i64 s.L[i].f, .bool true] 41)) (by simp)).keep k3 (by simp; exact hpg)
        have d1 : w3.cell? ⟨p, 1, none⟩ = some (.slice (some ⟨g, 0, none⟩) s.L.length cap) := b3.cell 1
        have fz : w3.frozen? ⟨p, 1, none⟩ = false := b3.frozen 1
        have hcut : TlRep 83 (w3.setCell ⟨p, 1, none⟩ (.slice (some ⟨g, 0, none⟩) (s.L.length - 1) cap)) F p ⟨s.n, s.L.eraseIdx i⟩ :=
          ⟨some ⟨g, 0, none⟩, cap, hf, by simp only [hil2]; exact b3.set_ 1 _, by simp only [hil2]; exact own_far o3 (by simpa using hpg) _, by simp only [hil2]; omega, ht⟩
        have K3 : Keeps F w (w3.setCell ⟨p, 1, none⟩ (.slice (some ⟨g, 0, none⟩) (s.L.length - 1) cap)) :=
          (Keeps.trans (F := F) ((K2.alloc _).mono (by simp)) k3 (by rw [hf]; simp)).setCell (.inl (by rw [hf]; simp)) _
        have bx4 := bx.far (p := ⟨p, 1, none⟩) (by simp; omega) (.slice (some ⟨g, 0, none⟩) (s.L.length - 1) cap)
        have nF : w2.heap.size ∉ F := fun hx => by have := HR.out.lt _ hx; omega
        have hl3 : w2.heap.size < w3.heap.size := bx.lt
        have hpl3 : p < w3.heap.size := b3.lt
        have hfi := first_any _ F p ⟨s.n, s.L.eraseIdx i⟩ s.L[i] hn (by simp only [hil2]; omega) hcut
        rw [hw] at hfi
        have HFI := Lib.hid hfi
        clear hfi hcut o3 b3 bx k3 m0 m1 m2 m3
        go_wp2_with fail
        refine HFI.out.mono ?_
        rintro e w5 ⟨rfl, F5, r5, k5, f5⟩
        have bx5 := bx4.keep k5 nF
        have z2 : w5.cell? ⟨w2.heap.size, 2, none⟩ = some (.int .i64 s.L[i].f) := bx5.cell 2
        go_wp2
        go_ret2
        obtain ⟨e1, e2⟩ := HE.out
        rw [e1, e2]
        refine ⟨rfl, F5, r5, K3.trans k5 (fun g hg => .inl hg), fun g hg => ?_⟩
        rcases f5 g hg with h1 | h1
        · exact .inl h1
        · exact .inr (Nat.le_trans K3.size h1)
end Go.Proofs.Yteognipfnbocpaa.T13
