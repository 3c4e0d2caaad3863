/- Texts of elder seats, turned to this one. -/
import Derived.Test.YteognipfnbocpaaGreatW5
namespace Go.Proofs.YteognipfnbocpaaGreat
open Go.RowKit
open T12 (E TbRep ent mapM mapN wlkM wlkB wlkN unmM clrM clrB lookX)
open T13 (Tl En TlRep es)

theorem MmNext.then {w0 w w' : World} {F F1 : List Nat} {p : Nat} {s' : Mm} (hF : ∀ g ∈ F1, g ∈ F ∨ w0.heap.size ≤ g) (hk : Keeps F w0 w) (h : MmNext w w' F1 p s') : MmNext w0 w' F p s' := by
  obtain ⟨F', h1, h2, h3⟩ := h
  have := hk.size
  exact ⟨F', h1, hk.trans h2 hF, fun g hg => (h3 g hg).elim (hF g) (fun h => .inr (by omega))⟩
theorem Ok.setTab {s : Mm} (h : Ok s) (x : Int) (m : Pg) : Ok (s.setTab x m) := ⟨by rw [setTab_C]; exact h.c, by rw [setTab_C]; exact h.k, by rw [setTab_n]; exact h.n0, by rw [setTab_n]; exact h.n1, by rw [setTab_k]; exact h.kk⟩
theorem FocN.keeps {c : List Nat} {w0 w : World} {F0 : List Nat} {p : Nat} {s : Mm} {x : Int} {r : Nat} {m : Pg} (h : FocN c w0 F0 w p s x r m) : Keeps F0 w0 w := by obtain ⟨F, G, _, hk, _⟩ := h; exact hk
theorem Ok.shoot {s : Mm} (d : En → Bool) (h : Ok s) (hl : ∀ k ∈ s.C, k.L.length ≤ 1000) (hn : s.n ≤ 900000000) : Ok (s.shoot d) := by
  have := gone_bd (d := d) hl
  have := h.n0
  have hc := h.c
  refine ⟨by simp [Mm.shoot]; exact hc, fun k hk => ?_, by simp only [Mm.shoot]; omega, by simp only [Mm.shoot]; omega, h.kk⟩
  obtain ⟨k', hk', rfl⟩ := List.mem_map.1 hk
  exact h.k k' hk'
theorem two_size (w : World) (a b : Obj) : ((w.alloc a).alloc b).drew.heap.size = w.heap.size + 2 := by
  show ((w.alloc a).alloc b).heap.size = _
  simp
def Mm.unmap (s : Mm) (x pg : Int) : Mm := (s.setTab x (unmM (s.tab x) pg)).shoot (fun e => e.is x pg)
set_option maxRecDepth 100000 in
set_option maxHeartbeats 3200000 in
theorem unmap_any (w : World) (F : List Nat) (p : Nat) (s : Mm) (h : MmRep w F p s) (ok : Ok s) (x pg : Int) (h1 : -9223372036854775808 ≤ x) (h2 : x ≤ 9223372036854775807) (h3 : -9223372036854775808 ≤ pg) (h4 : pg ≤ 9223372036854775807) :
    Calls Tryz.prog 28 #[.pointer (some ⟨p, 0, none⟩), .int .i64 x, .int .i64 pg] w fun e w' => e = .returned (.bool (ent (s.tab x) pg).isSome) ∧ MmNext w w' F p (s.unmap x pg) := by
  have hlt := h.lt
  obtain ⟨L, b, nb, q, A, cap, c, h, hn⟩ := h
  have kb : Keeps [] w (((w.alloc (.cells #[.int .i64 x] 3)).alloc (.cells #[.int .i64 pg] 3)).drew) := (((Keeps.refl _ w).alloc _).alloc _).drew
  have HT := Lib.hid (fun W (hW : Keeps [] w W) => table_foc W (h.keep hW (by simp)) hn x h1 h2)
  have B1 : Blk (((w.alloc (.cells #[.int .i64 x] 3)).alloc (.cells #[.int .i64 pg] 3)).drew) w.heap.size 3 #[.int .i64 x] := ((Blk.new w 3 _).alloc _).drew
  have B2 : Blk (((w.alloc (.cells #[.int .i64 x] 3)).alloc (.cells #[.int .i64 pg] 3)).drew) (w.heap.size + 1) 3 #[.int .i64 pg] := by
    have := Blk.new (w.alloc (.cells #[.int .i64 x] 3)) 3 #[.int .i64 pg]
    rw [show (w.alloc (.cells #[.int .i64 x] 3)).heap.size = w.heap.size + 1 by simp] at this
    exact this.drew
  have HB1 := Lib.hid B1
  have HB2 := Lib.hid B2
  have HK := Lib.hid kb
  have OK := Lib.hid ok
  have HLT := Lib.hid hlt
  clear h kb B1 B2 ok hlt
  unfold Mm.unmap
  generalize hm : s.tab x = m at *
  clear hm
  go_enter Tryz.func28, Tryz.ntmps28
  go_wp2_with fail
  have hn1 : w.heap.size ∉ F := fun hg => by have := HLT.out _ hg; omega
  have hn2 : w.heap.size + 1 ∉ F := fun hg => by have := HLT.out _ hg; omega
  go_region_held3 (fun w' => w'.cell? ⟨w.heap.size, 0, none⟩ = some (.int .i64 x) ∧ w'.cell? ⟨w.heap.size + 1, 0, none⟩ = some (.int .i64 pg))
    (first
      | exact ⟨HB1.out.cell 0, HB2.out.cell 0⟩
      | exact ⟨(HB1.out.keep K2 hn1).cell 0, (HB2.out.keep K2 hn2).cell 0⟩
      | exact ⟨(HB1.out.keep K1 (by simp)).cell 0, (HB2.out.keep K1 (by simp)).cell 0⟩)
    ((first
      | (go_at_call 40; refine (HT.out _ HK.out).mono ?_; rintro e w1 ⟨r, rfl, f1, K1⟩; have U := Lib.hid (f1.unmap pg h3 h4); clear f1)
      | (go_at_call 52; refine U.out.mono ?_; rintro e w2 ⟨rfl, f2⟩; have K2 := f2.keeps; have N2 := Lib.hid f2.next; clear f2)))
  rename_i hh
  clear hh U K1
  have B1 := HB1.out.keep K2 hn1
  have B2 := HB2.out.keep K2 hn2
  obtain ⟨F2, m2, k2, hF2⟩ := N2.out
  have hs2 : F2 = F2 := rfl
  have hb1 : w.heap.size ∉ F2 ∧ w.heap.size + 1 ∉ F2 := by
    constructor
    · intro hg
      rcases hF2 _ hg with h | h
      · exact hn1 h
      · rw [two_size] at h; omega
    · intro hg
      rcases hF2 _ hg with h | h
      · exact hn2 h
      · rw [two_size] at h; omega
  have hsh := shoot_any w2 F2 p _ m2 (OK.out.setTab x (unmM m pg)) 55 #[.pointer (some ⟨w.heap.size, 0, none⟩), .pointer (some ⟨w.heap.size + 1, 0, none⟩)] (fun e => e.is x pg) enters55 (unmap_rb F2 w2 _ _ x pg B1 B2 hb1.1 hb1.2)
  have SH := Lib.hid hsh
  have HK2 := Lib.hid (HK.out.mono (G := F) (by simp) |>.trans k2 (fun g hg => .inl hg))
  go_wp2_with fail
  refine SH.out.mono ?_
  rintro e w3 ⟨rfl, n3⟩
  go_wp2
  go_ret
  exact ⟨rfl, n3.then (fun g hg => (hF2 g hg).imp id (fun h => by simp at h; omega)) HK2.out⟩
/-- End. -/
def Mm.end_ (s : Mm) (x : Int) : Mm := ({ s with t := updT s.t x none } : Mm).shoot (fun e => e.s == x)
theorem one_size (w : World) (a : Obj) : (w.alloc a).drew.heap.size = w.heap.size + 1 := by
  show (w.alloc a).heap.size = _
  simp
set_option maxRecDepth 100000 in
set_option maxHeartbeats 3200000 in
theorem end_any (w : World) (F : List Nat) (p : Nat) (s : Mm) (h : MmRep w F p s) (ok : Ok s) (x : Int) (h1 : -9223372036854775808 ≤ x) (h2 : x ≤ 9223372036854775807) :
    Calls Tryz.prog 29 #[.pointer (some ⟨p, 0, none⟩), .int .i64 x] w fun e w' => e = .returned (.tuple #[]) ∧ MmNext w w' F p (s.end_ x) := by
  have hlt := h.lt
  obtain ⟨L, b, nb, q, A, cap, c, h, hn⟩ := h
  have kb : Keeps [] w ((w.alloc (.cells #[.int .i64 x] 3)).drew) := ((Keeps.refl _ w).alloc _).drew
  have h0 := h.keep kb (by simp)
  have B1 : Blk ((w.alloc (.cells #[.int .i64 x] 3)).drew) w.heap.size 3 #[.int .i64 x] := (Blk.new w 3 _).drew
  obtain ⟨w2, hdel, hm, hk⟩ := h0.bm.del h1 h2 Tryz.underlying57 0
  have hdel2 : ∀ ty, (Builtin.delete_ #[57, 3] ty #[.map (some b), .int .i64 x]).run Tryz.prog ((w.alloc (.cells #[.int .i64 x] 3)).drew) = .ok (.tuple #[]) w2 := fun ty => by
    simpa [Builtin.delete_] using hdel
  have hst := h0.strike hk hm
  have hn1 : w.heap.size ∉ F := fun hg => by have := hlt _ hg; omega
  have hnb : w.heap.size ∉ [b] := fun hg => hn1 (by rw [List.mem_singleton.1 hg]; exact h.inF _ _ h.lb)
  have B2 := B1.keep hk hnb
  have SH := Lib.hid (shoot_any w2 F p _ ⟨L, b, nb, _, A, cap, c, hst, hn⟩ (⟨ok.c, ok.k, ok.n0, ok.n1, ok.kk⟩ : Ok ({ s with t := updT s.t x none } : Mm)) 56 #[.pointer (some ⟨w.heap.size, 0, none⟩)] (fun e => e.s == x) enters56 (end_rb F w2 _ x B2 hn1))
  have c0 := h0.bp.cell 0
  have b0 := B1.cell 0
  have KK := Lib.hid (kb.mono (G := F) (by simp) |>.trans (hk.mono (G := F) (fun g hg => by rw [List.mem_singleton.1 hg]; exact h.inF _ _ h.lb)) (fun g hg => .inl hg))
  clear hst h0 h hm hk B1 B2 kb ok hlt hdel
  unfold Mm.end_
  go_enter Tryz.func29, Tryz.ntmps29
  go_wp2_with fail
  go_region
  all_goals
    go_wp2_with fail
    refine SH.out.mono ?_
    rintro e w3 ⟨rfl, n3⟩
    go_wp2
    go_end0
    exact ⟨rfl, n3.then (fun g hg => .inl hg) KK.out⟩
end Go.Proofs.YteognipfnbocpaaGreat
