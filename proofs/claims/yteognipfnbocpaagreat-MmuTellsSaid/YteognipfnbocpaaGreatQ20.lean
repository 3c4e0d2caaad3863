/- The Mmu and the reference's side by side. -/
import Derived.Test.YteognipfnbocpaaGreatQ19
namespace Go.Proofs.YteognipfnbocpaaGreat
open Go.RowKit
open T12 (E TbRep ent ents cells5 lookX mapN)
open T13 (Tl En TlRep es Nd)

set_option maxHeartbeats 800000 in
theorem same5_any (w : World) (v u : Value) (L : List (Nat × E)) (h1 : w.ownsRow 0 42 5 v L.length (cells5 L)) (h2 : w.ownsRow 0 42 5 u L.length (cells5 L)) :
    Calls Tryz.prog 15 #[v, u] w fun e w' => e = .returned (.bool true) ∧ Keeps [] w w' := by
  have hm := own_max h1
  unfold maxLen at hm
  obtain ⟨A, c, rfl, _, _, hA⟩ := own_shape h1
  obtain ⟨B, c2, rfl, _, _, hB⟩ := own_shape h2
  go_enter Tryz.func15, Tryz.ntmps15
  go_wp2
  go_loopw [5] (fun i wr => ∃ k : Nat, k ≤ L.length ∧ i = .int .i64 k ∧ Keeps [] w wr) (fun i _ => L.length - (intOf i).toNat)
  case atStart => exact ⟨0, by omega, rfl, Keeps.refl _ _⟩
  case round =>
    obtain ⟨k, hk, rfl, hkp⟩ := hrel
    by_cases hlt : k < L.length
    · obtain ⟨g, rfl⟩ := hA (by omega)
      obtain ⟨g2, rfl⟩ := hB (by omega)
      have hc := fun (j : Nat) (hj : j < 5) => cells5_at (j := j) hlt hj
      obtain ⟨⟨x0, x1, x2, x3, x4⟩, hx⟩ : ∃ x, x = L[k] := ⟨_, rfl⟩
      rw [← hx] at hc
      have o1 := own_keep h1 hkp (by simp)
      have o2 := own_keep h2 hkp (by simp)
      have a0 : wr.cell? ⟨g, k * 5, none⟩ = some (.int .i64 x0) := own_cell o1 (hc 0 (by omega))
      have a1 : wr.cell? ⟨g, k * 5 + 1, none⟩ = some (.int .i64 x1) := own_cell o1 (hc 1 (by omega))
      have a2 : wr.cell? ⟨g, k * 5 + 2, none⟩ = some (.bool x2) := own_cell o1 (hc 2 (by omega))
      have a3 : wr.cell? ⟨g, k * 5 + 3, none⟩ = some (.bool x3) := own_cell o1 (hc 3 (by omega))
      have a4 : wr.cell? ⟨g, k * 5 + 4, none⟩ = some (.bool x4) := own_cell o1 (hc 4 (by omega))
      have b0 : wr.cell? ⟨g2, k * 5, none⟩ = some (.int .i64 x0) := own_cell o2 (hc 0 (by omega))
      have b1 : wr.cell? ⟨g2, k * 5 + 1, none⟩ = some (.int .i64 x1) := own_cell o2 (hc 1 (by omega))
      have b2 : wr.cell? ⟨g2, k * 5 + 2, none⟩ = some (.bool x2) := own_cell o2 (hc 2 (by omega))
      have b3 : wr.cell? ⟨g2, k * 5 + 3, none⟩ = some (.bool x3) := own_cell o2 (hc 3 (by omega))
      have b4 : wr.cell? ⟨g2, k * 5 + 4, none⟩ = some (.bool x4) := own_cell o2 (hc 4 (by omega))
      have hi0 : (0 : Int) ≤ (k : Int) := by omega
      have hi1 : (k : Int) < (L.length : Int) := by omega
      clear hA hB h1 h2 hc o1 o2 hx
      go_wp2_with fail
      go_quiet (fail)
      go_wp2
      go_roundw
      case rel => exact ⟨k + 1, by omega, by go_num, hkp.drewN _⟩
      case measure => simp [intOf]; omega
    · go_wp2
      go_ret
      exact ⟨rfl, hkp⟩
/-- The cells of an operation. -/
def Op.cs (o : Op) : Array Value := #[.int .i64 o.d, .int .i64 o.cpu, .int .i64 o.x, .int .i64 o.pg, .int .i64 o.fr, .bool o.wr]
/-- Both, and the operation's box x. -/
def TW (w0 w : World) (p p2 : Nat) (s : Mm) (r : Rm) (x : Nat) (o : Op) : Prop :=
  ∃ F F2, MmRep w F p s ∧ RmRep w F2 p2 r ∧ Keeps [] w0 w ∧ (∀ g ∈ F, w0.heap.size ≤ g) ∧ (∀ g ∈ F2, w0.heap.size ≤ g) ∧ (∀ g ∈ F, g ∉ F2) ∧ Blk w x 29 o.cs ∧ x ∉ F ∧ x ∉ F2
/-- Both. -/
def TZ (w0 w : World) (p p2 : Nat) (s : Mm) (r : Rm) : Prop :=
  ∃ F F2, MmRep w F p s ∧ RmRep w F2 p2 r ∧ Keeps [] w0 w ∧ (∀ g ∈ F, w0.heap.size ≤ g) ∧ (∀ g ∈ F2, w0.heap.size ≤ g) ∧ (∀ g ∈ F, g ∉ F2)
section
variable {w0 w w' : World} {p p2 x : Nat} {s : Mm} {r : Rm} {o : Op}
theorem TW.same (h : TW w0 w p p2 s r x o) (hk : Keeps [] w w') : TW w0 w' p p2 s r x o := by
  obtain ⟨F, F2, h1, h2, h3, h4, h5, h6, h7, h8, h9⟩ := h
  exact ⟨F, F2, h1.keep hk (by simp), h2.keep hk (by simp), h3.trans hk (by simp), h4, h5, h6, h7.keep hk (by simp), h8, h9⟩
theorem TZ.same (h : TZ w0 w p p2 s r) (hk : Keeps [] w w') : TZ w0 w' p p2 s r := by
  obtain ⟨F, F2, h1, h2, h3, h4, h5, h6⟩ := h
  exact ⟨F, F2, h1.keep hk (by simp), h2.keep hk (by simp), h3.trans hk (by simp), h4, h5, h6⟩
theorem TW.tz (h : TW w0 w p p2 s r x o) : TZ w0 w p p2 s r := by
  obtain ⟨F, F2, h1, h2, h3, h4, h5, h6, h7, h8, h9⟩ := h
  exact ⟨F, F2, h1, h2, h3, h4, h5, h6⟩
theorem TZ.keeps (h : TZ w0 w p p2 s r) : Keeps [] w0 w := by
  obtain ⟨F, F2, h1, h2, h3, h4, h5, h6⟩ := h
  exact h3
theorem TZ.tw (h : TZ w0 w p p2 s r) (o : Op) : TW w0 (w.alloc (.cells o.cs 29)) p p2 s r w.heap.size o := by
  obtain ⟨F, F2, h1, h2, h3, h4, h5, h6⟩ := h
  have k : Keeps [] w (w.alloc (.cells o.cs 29)) := (Keeps.refl _ _).alloc _
  exact ⟨F, F2, h1.keep k (by simp), h2.keep k (by simp), h3.trans k (by simp), h4, h5, h6, Blk.new w 29 _, fun h => by have := h1.lt _ h; omega, fun h => by have := h2.lt _ h; omega⟩
theorem TW.blk (h : TW w0 w p p2 s r x o) : Blk w x 29 o.cs := by
  obtain ⟨F, F2, h1, h2, h3, h4, h5, h6, h7, h8, h9⟩ := h
  exact h7
/-- Both, behind the Mmu's operation: the list v that it gave lies apart from the reference's. -/
def TV (w0 w : World) (p p2 : Nat) (s : Mm) (r : Rm) (x : Nat) (o : Op) (v : Value) (l : List Int) : Prop :=
  ∃ F F2, MmRep w F p s ∧ RmRep w F2 p2 r ∧ Keeps [] w0 w ∧ (∀ g ∈ F, w0.heap.size ≤ g) ∧ (∀ g ∈ F2, w0.heap.size ≤ g) ∧ (∀ g ∈ F, g ∉ F2) ∧ Blk w x 29 o.cs ∧ x ∉ F ∧ x ∉ F2 ∧ w.ownsRow 0 3 1 v l.length (iv l) ∧ ∀ g ∈ fp v, g ∉ F2
theorem TV.blk {v : Value} {l : List Int} (h : TV w0 w p p2 s r x o v l) : Blk w x 29 o.cs := by
  obtain ⟨F, F2, h1, h2, h3, h4, h5, h6, h7, h8, h9⟩ := h
  exact h7
theorem TV.same {v : Value} {l : List Int} (h : TV w0 w p p2 s r x o v l) (hk : Keeps [] w w') : TV w0 w' p p2 s r x o v l := by
  obtain ⟨F, F2, h1, h2, h3, h4, h5, h6, h7, h8, h9, h10, h11⟩ := h
  exact ⟨F, F2, h1.keep hk (by simp), h2.keep hk (by simp), h3.trans hk (by simp), h4, h5, h6, h7.keep hk (by simp), h8, h9, own_keep h10 hk (by simp), h11⟩
theorem TW.do_ (h : TW w0 w p p2 s r x o) {N : Nat} {ks : List Int} (mi : MI N ks s) (hN : N ≤ 1000) (wf : o.Wf) :
    Calls Tryz.prog 7 #[.pointer (some ⟨p, 0, none⟩), o.v] w fun e w' => ∃ v, e = .returned (.tuple #[.int .i64 (opA ks s o), .int .i64 (opB s o), v]) ∧ TV w0 w' p p2 (s.op o) r x o v (opL s o) := by
  obtain ⟨F, F2, h1, h2, h3, h4, h5, h6, h7, h8, h9⟩ := h
  refine (do_any w F p s o ks ⟨h1, mi.ok hN, by have := mi.kk; omega, wf, mi.nd, mi.ki, by have := mi.kl; omega⟩).mono ?_
  rintro e w' ⟨v, a, b, ⟨F', c1, c2, c3⟩, d⟩
  have hs := h3.size
  refine ⟨v, a, F', F2, c1, h2.keep c2 (fun g hg hf => h6 g hf hg), h3.trans c2 (fun g hg => .inr (h4 g hg)), fun g hg => (c3 g hg).elim (h4 g) (fun h => by omega), h5, fun g hg hg2 => ?_, h7.keep c2 h8, fun hx => ?_, h9, b, fun g hg hg2 => ?_⟩
  · rcases c3 g hg with h | h
    · exact h6 g h hg2
    · have := h2.lt g hg2; omega
  · rcases c3 x hx with h | h
    · exact h8 h
    · have := h7.lt; omega
  · have := h2.lt g hg2
    have := d g hg
    omega
theorem TV.model {s0 : Mm} {v : Value} {l : List Int} (h : TV w0 w p p2 s r x o v l) {ks : List Int} (sim : Sim s0 r) (hN : r.N.length ≤ 90000) (hk : ∀ k ∈ r.C, k.n ≤ 1000 ∧ Nd k.L ∧ k.L.length ≤ 1000) (hC : r.C.length ≤ 64) (n0 : 0 ≤ r.n) (n1 : r.n ≤ 1000000000) (hn : ks.Nodup) (hks : ∀ x, (s0.t x).isSome → x ∈ ks) :
    Calls Tryz.prog 8 #[.pointer (some ⟨p2, 0, none⟩), o.v] w fun e w' => ∃ u r', e = .returned (.tuple #[.int .i64 (opA ks s0 o), .int .i64 (opB s0 o), u]) ∧ w'.ownsRow 0 3 1 u (opL s0 o).length (iv (opL s0 o)) ∧ w'.ownsRow 0 3 1 v l.length (iv l) ∧ TW w0 w' p p2 s r' x o ∧ Sim (s0.op o) r' ∧ r'.N.length ≤ r.N.length + 1 := by
  obtain ⟨F, F2, h1, h2, h3, h4, h5, h6, h7, h8, h9, h10, h11⟩ := h
  refine (model_any w F2 p2 s0 r o ks ⟨h2, sim, hN, hk, hC, n0, n1, hn, hks⟩).mono ?_
  rintro e w' ⟨u, r', a, b, ⟨F', c1, c2, c3⟩, d1, d2, -⟩
  have hs := h3.size
  refine ⟨u, r', a, b, own_keep h10 c2 h11, ⟨F, F', h1.keep c2 h6, c1, h3.trans c2 (fun g hg => .inr (h5 g hg)), h4, fun g hg => (c3 g hg).elim (h5 g) (fun h => by omega), fun g hg hg2 => ?_, h7.keep c2 h9, h8, fun hx => ?_⟩, d1, d2⟩
  · rcases c3 g hg2 with h | h
    · exact h6 g hg h
    · have := h1.lt g hg; omega
  · rcases c3 x hx with h | h
    · exact h9 h
    · have := h7.lt; omega
/-! What is asked behind the operations. -/
theorem TW.shot (h : TW w0 w p p2 s r x o) : Calls Tryz.prog 10 #[.pointer (some ⟨p, 0, none⟩)] w fun e w' => e = .returned (.int .i64 s.n) ∧ w = w' := by
  obtain ⟨F, F2, ⟨L, b, nb, q, A, cap, c, h1, _⟩, _⟩ := h
  exact YteognipfnbocpaaGreat.shot_any w h1
theorem TW.cell3 (h : TW w0 w p p2 s r x o) : w.cell? ⟨p2, 3, none⟩ = some (.int .i64 r.n) := by
  obtain ⟨F, F2, h1, ⟨L, A1, A2, A3, c1, c2, c3, qs, cs, h2⟩, _⟩ := h
  exact h2.bp.cell 3
theorem TW.spaces (h : TW w0 w p p2 s r x o) (hk : s.k ≤ 1000000) (sim : Sim s r) : Calls Tryz.prog 11 #[.pointer (some ⟨p, 0, none⟩)] w fun e w' => ∃ v, e = .returned v ∧ w'.ownsRow 0 3 1 v (r.N.filter (hasR r)).length (iv (r.N.filter (hasR r))) ∧ Keeps [] w w' := by
  obtain ⟨F, F2, h1, _⟩ := h
  refine (spaces_any w F p s h1 hk).mono ?_
  rintro e w' ⟨v, l, a, b, c, d, f, -⟩
  have := sim.spaces b c
  subst this
  exact ⟨v, a, d, f⟩
theorem TW.rspaces (h : TW w0 w p p2 s r x o) (ha : Asc r.N) (hn : r.N.length ≤ 1000000) : Calls Tryz.prog 12 #[.pointer (some ⟨p2, 0, none⟩)] w fun e w' => ∃ v, e = .returned v ∧ w'.ownsRow 0 3 1 v (r.N.filter (hasR r)).length (iv (r.N.filter (hasR r))) ∧ Keeps [] w w' := by
  obtain ⟨F, F2, _, h2, _⟩ := h
  refine (rspaces_any w F2 p2 r h2 ha hn).mono ?_
  rintro e w' ⟨v, a, b, c, -⟩
  exact ⟨v, a, b, c⟩
theorem TW.look (h : TW w0 w p p2 s r x o) (y pg : Int) (h1 : -9223372036854775808 ≤ y) (h2 : y ≤ 9223372036854775807) (h3 : -9223372036854775808 ≤ pg) (h4 : pg ≤ 9223372036854775807) : Calls Tryz.prog 13 #[.pointer (some ⟨p, 0, none⟩), .int .i64 y, .int .i64 pg] w fun e w' => e = .returned (.tuple #[pteV (lookX (s.tab y) pg), .bool (ent (s.tab y) pg).isSome]) ∧ Keeps [] w w' := by
  obtain ⟨F, F2, k1, _⟩ := h
  exact (look_any w F p s k1 y pg h1 h2 h3 h4).mono fun _ _ ⟨a, _, c⟩ => ⟨a, c⟩
theorem TW.rlook (h : TW w0 w p p2 s r x o) (y pg : Int) : Calls Tryz.prog 14 #[.pointer (some ⟨p2, 0, none⟩), .int .i64 y, .int .i64 pg] w fun e w' => e = .returned (.tuple #[pteV (lookX (r.tab y) pg), .bool (ent (r.tab y) pg).isSome]) ∧ Keeps [] w w' := by
  obtain ⟨F, F2, _, k2, _⟩ := h
  exact rmlook_any w F2 p2 r k2 y pg
theorem TW.entries (h : TW w0 w p p2 s r x o) (y : Int) (h1 : -9223372036854775808 ≤ y) (h2 : y ≤ 9223372036854775807) : Calls Tryz.prog 16 #[.pointer (some ⟨p, 0, none⟩), .int .i64 y] w fun e w' => ∃ v, e = .returned v ∧ w'.ownsRow 0 42 5 v (ents (s.tab y) 256).length (cells5 (ents (s.tab y) 256)) ∧ Keeps [] w w' := by
  obtain ⟨F, F2, k1, _⟩ := h
  exact (run_entries w F p s k1 y h1 h2).mono fun _ _ ⟨v, a, b, c, _⟩ => ⟨v, a, b, c⟩
theorem TW.rentries (h : TW w0 w p p2 s r x o) (y : Int) : Calls Tryz.prog 17 #[.pointer (some ⟨p2, 0, none⟩), .int .i64 y] w fun e w' => ∃ v, e = .returned v ∧ w'.ownsRow 0 42 5 v (ents (r.tab y) 256).length (cells5 (ents (r.tab y) 256)) ∧ Keeps [] w w' := by
  obtain ⟨F, F2, _, k2, _⟩ := h
  exact (rentries_any w F2 p2 r k2 y).mono fun _ _ ⟨v, a, b, c, _⟩ => ⟨v, a, b, c⟩
theorem TW.cache (h : TW w0 w p p2 s r x o) (i : Int) (hk : ∀ k ∈ s.C, k.n ≤ 1000) (hC : s.C.length ≤ 64) : Calls Tryz.prog 19 #[.pointer (some ⟨p, 0, none⟩), .int .i64 i] w fun e w' => ∃ v, e = .returned v ∧ w'.ownsRow 0 83 4 v (cacheC s.C i).length (es (cacheC s.C i)) ∧ Keeps [] w w' := by
  obtain ⟨F, F2, k1, _⟩ := h
  exact (cache_any w F p s k1 i hk hC).mono fun _ _ ⟨v, a, b, _, c, _⟩ => ⟨v, a, b, c⟩
theorem TW.rcache (h : TW w0 w p p2 s r x o) (i : Int) (hk : ∀ k ∈ r.C, k.n ≤ 1000) : Calls Tryz.prog 20 #[.pointer (some ⟨p2, 0, none⟩), .int .i64 i] w fun e w' => ∃ v, e = .returned v ∧ w'.ownsRow 0 83 4 v (cacheC r.C i).length (es (cacheC r.C i)) ∧ Keeps [] w w' := by
  obtain ⟨F, F2, _, k2, _⟩ := h
  exact (rcache_any w F2 p2 r k2 i hk).mono fun _ _ ⟨v, a, b, c, _⟩ => ⟨v, a, b, c⟩
end
end Go.Proofs.YteognipfnbocpaaGreat
