/- Texts of elder seats, turned to this one. -/
import Derived.Test.YteognipfnbocpaaGreatP1
namespace Go.Proofs.YteognipfnbocpaaGreat
open Go.RowKit
open T12 (E TbRep ent mapM mapN wlkM wlkB wlkN unmM clrM clrB lookX)
open T13 (Tl En TlRep es)

theorem zero64 (w : World) : (zeroValue 74).run Tryz.prog w = .ok (.pointer none) w := by kernel_rfl
section
variable {F : List Nat} {p : Nat} {s : Mm} {L : Nat → Option Lb} {b nb : Nat} {q : Int → Option Nat} {A : Option Addr} {cap : Nat} {c : List Nat}
theorem table_some (w : World) (h : MmAt w F p s L b nb q A cap c) (x : Int) (r : Nat) (hr : q x = some r) (h1 : -9223372036854775808 ≤ x) (h2 : x ≤ 9223372036854775807) :
    Calls Tryz.prog 40 #[.pointer (some ⟨p, 0, none⟩), .int .i64 x] w fun e w' => e = .returned (.pointer (some ⟨r, 0, none⟩)) ∧ w = w' := by
  have c0 := h.bp.cell 0
  have hl := h.bm.look h1 h2 Tryz.underlying57 zero64
  rw [hr] at hl
  simp only [Option.map_some, Option.isSome_some] at hl
  go_enter Tryz.func40, Tryz.ntmps40
  go_wp2
  go_ret
  exact ⟨rfl, rfl⟩
theorem table_none (w : World) (h : MmAt w F p s L b nb q A cap c) (x : Int) (hr : q x = none) (h1 : -9223372036854775808 ≤ x) (h2 : x ≤ 9223372036854775807) :
    Calls Tryz.prog 40 #[.pointer (some ⟨p, 0, none⟩), .int .i64 x] w fun e w' => ∃ G r, e = .returned (.pointer (some ⟨r, 0, none⟩)) ∧ TbRep w' G r pg0 ∧ Keeps [] w w' ∧ ∀ g ∈ G, w.heap.size ≤ g := by
  have c0 := h.bp.cell 0
  have hl := h.bm.look h1 h2 Tryz.underlying57 zero64
  rw [hr] at hl
  simp only [Option.map_none, Option.isSome_none] at hl
  have HN := Lib.hid (T12.new_any w)
  go_enter Tryz.func40, Tryz.ntmps40
  go_wp2_with fail
  refine HN.out.mono ?_
  rintro e w1 ⟨G, r, rfl, h1, h2, h3⟩
  go_wp2
  go_ret
  exact ⟨G, r, rfl, h1, h2, h3⟩
theorem shot_any (w : World) (h : MmAt w F p s L b nb q A cap c) :
    Calls Tryz.prog 10 #[.pointer (some ⟨p, 0, none⟩)] w fun e w' => e = .returned (.int .i64 s.n) ∧ w = w' := by
  have c2 := h.bp.cell 2
  go_enter Tryz.func10, Tryz.ntmps10
  go_wp2
  go_ret
  exact ⟨rfl, rfl⟩
end
/-- The table of a space, told in one way: it lies at r, at blocks G; the Mmu stands. -/
theorem table_any (w : World) (F : List Nat) (p : Nat) (s : Mm) (h : MmRep w F p s) (x : Int) (h1 : -9223372036854775808 ≤ x) (h2 : x ≤ 9223372036854775807) :
    Calls Tryz.prog 40 #[.pointer (some ⟨p, 0, none⟩), .int .i64 x] w fun e w' => ∃ G r, e = .returned (.pointer (some ⟨r, 0, none⟩)) ∧ TbRep w' G r (s.tab x) ∧ MmRep w' F p s ∧ Keeps [] w w' := by
  have hrep := h
  obtain ⟨L, b, nb, q, A, cap, c, h, hn⟩ := h
  cases hx : s.t x with
  | none =>
    refine (table_none w h x (h.qn x hx) h1 h2).mono ?_
    rintro e w1 ⟨G, r, rfl, h3, h4, h5⟩
    refine ⟨G, r, rfl, ?_, hrep.keep h4 (by simp), h4⟩
    unfold Mm.tab
    rw [hx]
    exact h3
  | some m =>
    obtain ⟨G, r, hr, ht, _⟩ := h.qs x m hx
    refine (table_some w h x r hr h1 h2).mono ?_
    rintro e w1 ⟨rfl, rfl⟩
    refine ⟨G, r, rfl, ?_, hrep, Keeps.refl _ _⟩
    unfold Mm.tab
    rw [hx]
    exact ht
def pteV (x : Int × E) : Value := .agg #[.int .i64 x.1, .int .i64 x.2.fr, .bool x.2.wr, .bool x.2.ac, .bool x.2.di]
set_option maxRecDepth 100000 in
set_option maxHeartbeats 1600000 in
theorem look_any (w : World) (F : List Nat) (p : Nat) (s : Mm) (h : MmRep w F p s) (x pg : Int) (h1 : -9223372036854775808 ≤ x) (h2 : x ≤ 9223372036854775807) (h3 : -9223372036854775808 ≤ pg) (h4 : pg ≤ 9223372036854775807) :
    Calls Tryz.prog 13 #[.pointer (some ⟨p, 0, none⟩), .int .i64 x, .int .i64 pg] w fun e w' => e = .returned (.tuple #[pteV (lookX (s.tab x) pg), .bool (ent (s.tab x) pg).isSome]) ∧ MmRep w' F p s ∧ Keeps [] w w' := by
  have k0 : Keeps [] w (w.alloc (.cells #[.int .i64 0, .int .i64 0, .bool false, .bool false, .bool false] 42)) := (Keeps.refl _ _).alloc _
  have HT := Lib.hid (table_any _ F p s (h.keep k0 (by simp)) x h1 h2)
  have HB := Lib.hid (Blk.new w 42 #[.int .i64 0, .int .i64 0, .bool false, .bool false, .bool false])
  have HK0 := Lib.hid k0
  clear k0
  have H0 := Lib.hid h
  clear h
  unfold pteV
  generalize hLX : lookX (s.tab x) pg = lx
  generalize hE : (ent (s.tab x) pg).isSome = ex
  have HLX := Lib.hid hLX
  have HE := Lib.hid hE
  clear hLX hE
  go_enter Tryz.func13, Tryz.ntmps13
  go_wp2_with fail
  refine HT.out.mono ?_
  rintro e w1 ⟨G, r, rfl, t1, m1, k1⟩
  have HL := T12.look_any2 w1 G r (s.tab x) pg t1 h3 h4
  rw [HLX.out, HE.out] at HL
  have HL2 := Lib.hid HL
  clear HL HT
  go_wp2_with fail
  refine HL2.out.mono ?_
  rintro e w2 ⟨rfl, -, k2⟩
  have bz := (HB.out.keep k1 (by simp)).keep k2 (by simp)
  have m2 := m1.keep k2 (by simp)
  have K2 := HK0.out.trans (k1.trans k2 (by simp)) (by simp)
  clear HL2 k1 k2 m1 t1
  go_wp2_with (refine T12.wpList_store_blk rfl 42 _ _ rfl rfl w.heap.size rfl 42 _ #[.int .i64 lx.1, .int .i64 lx.2.fr, .bool lx.2.wr, .bool lx.2.ac, .bool lx.2.di] bz rfl rfl (by simp [Value.oneCell']) (by kernel_rfl) ?_; intro w3 b3 k3)
  have r0 := b3.cell 0
  have r1 := b3.cell 1
  have r2 := b3.cell 2
  have r3 := b3.cell 3
  have r4 := b3.cell 4
  have hnF : ∀ g ∈ F, g ∉ [w.heap.size] := fun g hg h1 => by
    have := List.mem_singleton.1 h1
    have := H0.out.lt g hg
    omega
  go_wp2
  refine bodyPost_ret (v := .tuple #[.agg #[.int .i64 lx.1, .int .i64 lx.2.fr, .bool lx.2.wr, .bool lx.2.ac, .bool lx.2.di], .bool ex]) (by simp [results, Tryz.results13, go_sem, r0, r1, r2, r3, r4]) rfl ?_
  exact ⟨rfl, m2.keep k3 hnF, K2.trans k3 (fun g hg => .inr (by simp at hg; omega))⟩
/-- Cache. -/
def cacheL (s : Mm) (i : Int) : List En := if i < 0 then [] else match s.C[i.toNat]? with
  | some k => k.L
  | none => []
theorem cache_at {s : Mm} {i : Nat} {k : Tl} (h : s.C[i]? = some k) : cacheL s i = k.L := by
  unfold cacheL
  rw [if_neg (by omega), Int.toNat_natCast, h]
theorem cache_none {s : Mm} {i : Int} (h : i < 0 ∨ (s.C.length : Int) ≤ i) : cacheL s i = [] := by
  unfold cacheL
  split
  · rfl
  · rw [List.getElem?_eq_none (by omega)]
theorem cache_some (w : World) (F : List Nat) (p : Nat) (s : Mm) (h : MmRep w F p s) (i : Nat) (k : Tl) (hi : s.C[i]? = some k) (hk : k.n ≤ 1000) (hC : s.C.length ≤ 64) :
    Calls Tryz.prog 19 #[.pointer (some ⟨p, 0, none⟩), .int .i64 i] w fun e w' => ∃ v, e = .returned v ∧ w'.ownsRow 0 83 4 v k.L.length (es k.L) ∧ MmRep w' F p s ∧ Keeps [] w w' ∧ ∀ g ∈ fp v, w.heap.size ≤ g := by
  have hrep := h
  obtain ⟨L, b, nb, q, A, cap, c, h, hn⟩ := h
  have c1 := h.bp.cell 1
  have hil : i < s.C.length := (List.getElem?_eq_some_iff.1 hi).1
  obtain ⟨G, r, hr, ht, _⟩ := h.cs i k hi
  obtain ⟨A', cap', hv, -, -, hA⟩ := own_shape h.bo
  injection hv with e1 _ e3
  subst e1 e3
  obtain ⟨g, rfl⟩ := hA (by omega)
  have x0 := own_cell h.bo (j := i) (u := .pointer (some ⟨r, 0, none⟩)) (by rw [List.getElem?_map, hr]; rfl)
  have HL := Lib.hid (T13.list_any w G r k hk ht)
  have j0 : (0 : Int) ≤ i := by omega
  have jd : (i : Int) < s.C.length := by omega
  have HR := Lib.hid hrep
  clear hi hr ht h hrep hA
  generalize s.C.length = N at *
  go_enter Tryz.func19, Tryz.ntmps19
  go_wp2_with fail
  refine HL.out.mono ?_
  rintro e w1 ⟨v, rfl, o1, k1, f1⟩
  go_wp2
  go_ret
  exact ⟨v, rfl, o1, HR.out.keep k1 (by simp), k1, f1⟩
theorem cache_no (w : World) (F : List Nat) (p : Nat) (s : Mm) (h : MmRep w F p s) (i : Int) (hi : i < 0 ∨ (s.C.length : Int) ≤ i) (_hC : s.C.length ≤ 64) :
    Calls Tryz.prog 19 #[.pointer (some ⟨p, 0, none⟩), .int .i64 i] w fun e w' => e = .returned (.slice none 0 0) ∧ w = w' := by
  obtain ⟨L, b, nb, q, A, cap, c, h, hn⟩ := h
  have c1 := h.bp.cell 1
  clear h
  generalize s.C.length = N at *
  by_cases h0 : i < 0
  · go_enter Tryz.func19, Tryz.ntmps19
    go_wp2
    go_ret
    exact ⟨rfl, rfl⟩
  · have h1 : (N : Int) ≤ i := by omega
    go_enter Tryz.func19, Tryz.ntmps19
    go_wp2
    go_ret
    exact ⟨rfl, rfl⟩
theorem cache_any (w : World) (F : List Nat) (p : Nat) (s : Mm) (h : MmRep w F p s) (i : Int) (hk : ∀ k ∈ s.C, k.n ≤ 1000) (hC : s.C.length ≤ 64) :
    Calls Tryz.prog 19 #[.pointer (some ⟨p, 0, none⟩), .int .i64 i] w fun e w' => ∃ v, e = .returned v ∧ w'.ownsRow 0 83 4 v (cacheL s i).length (es (cacheL s i)) ∧ MmRep w' F p s ∧ Keeps [] w w' ∧ ∀ g ∈ fp v, w.heap.size ≤ g := by
  by_cases h0 : i < 0 ∨ (s.C.length : Int) ≤ i
  · rw [cache_none h0]
    refine (cache_no w F p s h i h0 hC).mono ?_
    rintro e w1 ⟨rfl, rfl⟩
    exact ⟨_, rfl, World.ownsRow_nil _ _ _ _, h, Keeps.refl _ _, by simp⟩
  · obtain ⟨j, rfl⟩ : ∃ j : Nat, i = j := ⟨i.toNat, by omega⟩
    have hj : j < s.C.length := by omega
    have hjs := List.getElem?_eq_getElem hj
    rw [cache_at hjs]
    exact cache_some w F p s h j _ hjs (hk _ (List.getElem_mem hj)) hC
end Go.Proofs.YteognipfnbocpaaGreat
