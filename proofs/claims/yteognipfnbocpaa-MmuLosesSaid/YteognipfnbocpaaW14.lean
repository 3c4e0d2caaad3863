/- The methods told from where a law began; small. -/
import Derived.Test.YteognipfnbocpaaP4
namespace Go.Proofs.Yteognipfnbocpaa
open Go.RowKit
open T12 (E TbRep ent mapM mapN lookX)
open T13 (Tl En TlRep es)

/-- The Mmu s lies at p; all its blocks are new since w0. -/
def MmW (w0 w : World) (p : Nat) (s : Mm) : Prop := ∃ F, MmRep w F p s ∧ Keeps [] w0 w ∧ ∀ g ∈ F, w0.heap.size ≤ g
section
variable {w0 w w' : World} {p N : Nat} {s s' : Mm} {ks : List Int}
theorem MmW.keeps (h : MmW w0 w p s) : Keeps [] w0 w := by obtain ⟨F, _, h, _⟩ := h; exact h
theorem MmW.same (h : MmW w0 w p s) (hk : Keeps [] w w') : MmW w0 w' p s := by
  obtain ⟨F, h1, h2, h3⟩ := h
  exact ⟨F, h1.keep hk (by simp), h2.trans hk (by simp), h3⟩
theorem MmW.off (h : MmW w0 w p s) {H : List Nat} (hk : Keeps H w w') (hH : ∀ F, MmRep w F p s → (∀ g ∈ F, w0.heap.size ≤ g) → ∀ g ∈ F, g ∉ H) (hH2 : ∀ g ∈ H, w0.heap.size ≤ g) : MmW w0 w' p s := by
  obtain ⟨F, h1, h2, h3⟩ := h
  exact ⟨F, h1.keep hk (hH F h1 h3), h2.trans hk (fun g hg => .inr (hH2 g hg)), h3⟩
theorem MmNext.mmw {F : List Nat} (h : MmNext w w' F p s') (hk : Keeps [] w0 w) (hF : ∀ g ∈ F, w0.heap.size ≤ g) : MmW w0 w' p s' := by
  obtain ⟨F', h1, h2, h3⟩ := h
  have := hk.size
  exact ⟨F', h1, hk.trans h2 (fun g hg => .inr (hF g hg)), fun g hg => (h3 g hg).elim (hF g) (fun h => by omega)⟩
theorem mmw_new (w : World) (n : Int) (hn : n ≤ 64) : Calls Try.prog 7 #[.int .i64 n] w fun e w' => ∃ p, e = .returned (.pointer (some ⟨p, 0, none⟩)) ∧ MmW w w' p (mm0 n.toNat) :=
  (new_any w n hn).mono fun _ _ ⟨F, p, h1, h2, h3, h4⟩ => ⟨p, h1, F, h2, h3, h4⟩
theorem MmW.look (h : MmW w0 w p s) (x pg : Int) (h1 : -9223372036854775808 ≤ x) (h2 : x ≤ 9223372036854775807) (h3 : -9223372036854775808 ≤ pg) (h4 : pg ≤ 9223372036854775807) :
    Calls Try.prog 10 #[.pointer (some ⟨p, 0, none⟩), .int .i64 x, .int .i64 pg] w fun e w' => e = .returned (.tuple #[pteV (lookX (s.tab x) pg), .bool (ent (s.tab x) pg).isSome]) ∧ Keeps [] w w' := by
  obtain ⟨F, g1, g2, g3⟩ := h
  exact (look_any w F p s g1 x pg h1 h2 h3 h4).mono fun _ _ ⟨a, _, c⟩ => ⟨a, c⟩
theorem MmW.cache (h : MmW w0 w p s) (mi : MI N ks s) (i : Int) :
    Calls Try.prog 11 #[.pointer (some ⟨p, 0, none⟩), .int .i64 i] w fun e w' => ∃ v, e = .returned v ∧ w'.ownsRow 0 41 4 v (cacheL s i).length (es (cacheL s i)) ∧ Keeps [] w w' ∧ ∀ g ∈ fp v, w.heap.size ≤ g := by
  obtain ⟨F, g1, g2, g3⟩ := h
  exact (cache_any w F p s g1 i (fun k hk => by have := (mi.k k hk).1; omega) (by have := mi.c; omega)).mono fun _ _ ⟨v, a, b, _, c, d⟩ => ⟨v, a, b, c, d⟩
theorem MmW.shot (h : MmW w0 w p s) : Calls Try.prog 20 #[.pointer (some ⟨p, 0, none⟩)] w fun e w' => e = .returned (.int .i64 s.n) ∧ w = w' := by
  obtain ⟨F, ⟨L, b, nb, q, A, cap, c, g1, _⟩, g2, g3⟩ := h
  exact shot_any w g1
theorem MmW.acc (h : MmW w0 w p s) (mi : MI N ks s) (hN : N ≤ 1000) (cpu x pg : Int) (wr : Bool) (h1 : -9223372036854775808 ≤ x) (h2 : x ≤ 9223372036854775807) (h3 : -9223372036854775808 ≤ pg) (h4 : pg ≤ 9223372036854775807) :
    Calls Try.prog 19 #[.pointer (some ⟨p, 0, none⟩), .int .i64 cpu, .int .i64 x, .int .i64 pg, .bool wr] w fun e w' => e = .returned (.tuple #[.int .i64 (s.acc cpu x pg wr).f, .bool (s.acc cpu x pg wr).ok]) ∧ MmW w0 w' p (s.acc cpu x pg wr).s := by
  obtain ⟨F, g1, g2, g3⟩ := h
  exact (acc_any w F p s g1 (mi.ok hN) cpu x pg wr h1 h2 h3 h4).mono fun _ _ ⟨a, b⟩ => ⟨a, b.mmw g2 g3⟩
theorem MmW.map (h : MmW w0 w p s) (mi : MI N ks s) (hN : N ≤ 1000) (x pg fr : Int) (wr : Bool) (h1 : -9223372036854775808 ≤ x) (h2 : x ≤ 9223372036854775807) (h3 : -9223372036854775808 ≤ pg) (h4 : pg ≤ 9223372036854775807) (h5 : -9223372036854775808 ≤ fr) (h6 : fr ≤ 9223372036854775807) :
    Calls Try.prog 18 #[.pointer (some ⟨p, 0, none⟩), .int .i64 x, .int .i64 pg, .int .i64 fr, .bool wr] w fun e w' => e = .returned (.int .i64 (mapN pg fr)) ∧ MmW w0 w' p (s.map x pg fr wr) := by
  obtain ⟨F, g1, g2, g3⟩ := h
  exact (map_any w F p s g1 (mi.ok hN) (by have := mi.kk; omega) x pg fr wr h1 h2 h3 h4 h5 h6).mono fun _ _ ⟨a, b⟩ => ⟨a, b.mmw g2 g3⟩
theorem MmW.lose (h : MmW w0 w p s) (mi : MI N ks s) (hN : N ≤ 1000) (fr : Int) :
    Calls Try.prog 13 #[.pointer (some ⟨p, 0, none⟩), .int .i64 fr] w fun e w' => e = .returned (.int .i64 (sumD fr s.t (fun _ => false) ks)) ∧ MmW w0 w' p (s.lose fr) := by
  obtain ⟨F, g1, g2, g3⟩ := h
  exact (lose_any w F p s g1 (mi.ok hN) fr ks mi.nd mi.ki (by have := mi.kl; omega)).mono fun _ _ ⟨a, b⟩ => ⟨a, b.mmw g2 g3⟩
theorem MmW.do_ (h : MmW w0 w p s) (mi : MI N ks s) (hN : N ≤ 1000) (o : Op) (wf : o.Wf) :
    Calls Try.prog 9 #[.pointer (some ⟨p, 0, none⟩), o.v] w fun e w' => ∃ v, e = .returned (.tuple #[.int .i64 (opA ks s o), .int .i64 (opB s o), v]) ∧ w'.ownsRow 0 3 1 v (opL s o).length (iv (opL s o)) ∧ MmW w0 w' p (s.op o) ∧ ∀ g ∈ fp v, w.heap.size ≤ g := by
  obtain ⟨F, g1, g2, g3⟩ := h
  exact (do_any w F p s o ks ⟨g1, mi.ok hN, by have := mi.kk; omega, wf, mi.nd, mi.ki, by have := mi.kl; omega⟩).mono fun _ _ ⟨v, a, b, c, d⟩ => ⟨v, a, b, c.mmw g2 g3, d⟩
end
def q1 : Mm := (mm0 2).map 7 3 100 false
def a1 : Acc := q1.acc 0 7 3 false
def a2 : Acc := a1.s.acc 1 7 3 true
def q3 : Mm := a2.s.map 7 3 101 true
def a4 : Acc := q3.acc 0 7 3 true
def q5 : Mm := a4.s.lose 101
def a6 : Acc := q5.acc 0 7 3 false
theorem f1 : a1.f = 100 ∧ a1.ok = true := ⟨by kernel_rfl, by kernel_rfl⟩
theorem f2 : a2.ok = false := by kernel_rfl
theorem f4 : a4.f = 101 ∧ a4.ok = true ∧ a4.s.n = 1 := ⟨by kernel_rfl, by kernel_rfl, by kernel_rfl⟩
theorem f5 : sumD 101 a4.s.t (fun _ => false) (addK (addK [] 7) 7) = 1 := by kernel_rfl
theorem f6 : a6.ok = false ∧ a6.s.n = 2 := ⟨by kernel_rfl, by kernel_rfl⟩
theorem mq1 : MI 2 (addK [] 7) q1 := (MI.zero (n := 2) (by omega)).map 7 3 100 false
theorem mq3 : MI 4 (addK (addK [] 7) 7) q3 := ((mq1.acc 0 7 3 false).acc 1 7 3 true).map 7 3 101 true
theorem mq5 : MI 5 (addK (addK [] 7) 7) q5 := (mq3.acc 0 7 3 true).lose 101
end Go.Proofs.Yteognipfnbocpaa
