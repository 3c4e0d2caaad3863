/- A table of the reference in the hand, told from where a method began; a cache opened. -/
import Derived.Test.YteognipfnbocpaaGreatQ5
namespace Go.Proofs.YteognipfnbocpaaGreat
open Go.RowKit
open T12 (E TbRep RfRep ent ents cells5 mapM mapN wlkM wlkB wlkN unmM clrM clrB lookX)
open T13 (Tl En TlRep es)

/-- The reference's Mmu, told from where a method began (w0, F0). -/
def RmN (w0 : World) (F0 : List Nat) (w : World) (p : Nat) (r : Rm) : Prop := ∃ F, RmRep w F p r ∧ Keeps F0 w0 w ∧ ∀ g ∈ F, g ∈ F0 ∨ w0.heap.size ≤ g
theorem RmN.start {w : World} {F : List Nat} {p : Nat} {r : Rm} (h : RmRep w F p r) : RmN w F w p r := ⟨F, h, Keeps.refl _ _, fun _ hg => .inl hg⟩
theorem RmN.next {w0 w : World} {F0 : List Nat} {p : Nat} {r : Rm} (h : RmN w0 F0 w p r) : RmNext w0 w F0 p r := by
  obtain ⟨F, h1, h2, h3⟩ := h
  exact ⟨F, h1, h2, h3⟩
theorem RmN.same {w0 w w' : World} {F0 : List Nat} {p : Nat} {r : Rm} (h : RmN w0 F0 w p r) (hk : Keeps [] w w') : RmN w0 F0 w' p r := by
  obtain ⟨F, h1, h2, h3⟩ := h
  exact ⟨F, h1.keep hk (by simp), h2.trans hk (by simp), h3⟩
theorem RmN.cell3 {w0 w : World} {F0 : List Nat} {p : Nat} {r : Rm} (h : RmN w0 F0 w p r) : w.cell? ⟨p, 3, none⟩ = some (.int .i64 r.n) ∧ w.frozen? ⟨p, 3, none⟩ = false ∧ p < w.heap.size := by
  obtain ⟨F, ⟨L, A1, A2, A3, c1, c2, c3, qs, cs, h⟩, h2, h3⟩ := h
  exact ⟨h.bp.cell 3, h.bp.frozen 3, h.bp.lt⟩
theorem RmN.count {w0 w : World} {F0 : List Nat} {p : Nat} {r : Rm} (h : RmN w0 F0 w p r) (n : Int) : RmN w0 F0 (w.setCell ⟨p, 3, none⟩ (.int .i64 n)) p { r with n := n } := by
  obtain ⟨F, ⟨L, A1, A2, A3, c1, c2, c3, qs, cs, h⟩, h2, h3⟩ := h
  exact ⟨F, ⟨L, A1, A2, A3, c1, c2, c3, qs, cs, h.count n⟩, h2.setCell (p := ⟨p, 3, none⟩) (h3 p (h.inF _ _ h.lp)) _, h3⟩
/-- Cache i opened: where it lies, and what becomes of the whole when it is turned. -/
theorem RmN.cache {w0 w : World} {F0 : List Nat} {p : Nat} {r : Rm} (h : RmN w0 F0 w p r) {i : Nat} {k : Tl} (hi : r.C[i]? = some k) :
    ∃ g c3 H rc, w.cell? ⟨p, 2, none⟩ = some (.slice (some ⟨g, 0, none⟩) r.C.length c3) ∧ w.cell? ⟨g, i, none⟩ = some (.pointer (some ⟨rc, 0, none⟩)) ∧ TlRep 86 w H rc k ∧ p ∉ H ∧ p < w.heap.size ∧
      ∀ w' k', T13.Next 86 w w' H rc k' → RmN w0 F0 w' p { r with C := r.C.set i k' } := by
  obtain ⟨F, ⟨L, A1, A2, A3, c1, c2, c3, qs, cs, h⟩, h2, h3⟩ := h
  have hil : i < r.C.length := (List.getElem?_eq_some_iff.1 hi).1
  obtain ⟨_, _, hv, -, -, hA⟩ := own_shape h.o3
  obtain ⟨rfl, -, rfl⟩ : A3 = _ ∧ r.C.length = _ ∧ c3 = _ := by injection hv with h1 h2 h3; exact ⟨h1, rfl, h3⟩
  obtain ⟨g, rfl⟩ := hA (by omega)
  obtain ⟨H, rc, hq, ht, hH⟩ := h.ks i k hi
  refine ⟨g, _, H, rc, h.bp.cell 2, own_cell h.o3 (by rw [List.getElem?_map, hq]; rfl), ht, fun hp => ?_, h.bp.lt, fun w' k' hn => ?_⟩
  · have := hH p hp
    rw [h.lp] at this
    cases this
  · obtain ⟨H', ht', k1, hH'⟩ := hn
    have hs := h2.size
    have hHF : ∀ g ∈ H, g ∈ F := fun g hg => h.inF _ _ (hH g hg)
    refine ⟨H' ++ F, ⟨_, _, _, _, _, _, _, _, _, h.cache hi hq hH k1 ht' hH'⟩, h2.trans k1 (fun g hg => h3 g (hHF g hg)), fun g hg => ?_⟩
    rcases List.mem_append.1 hg with h4 | h4
    · rcases hH' g h4 with h5 | h5
      · exact h3 g (hHF g h5)
      · right; omega
    · exact h3 g h4
/-- The table in the hand, told from where a method began. -/
def RFocN (w0 : World) (F0 : List Nat) (w : World) (p : Nat) (r : Rm) (x : Int) (q : Nat) (m : Pg) : Prop :=
  ∃ F G, RFoc w F p r x G q m ∧ Keeps F0 w0 w ∧ (∀ g ∈ F, g ∈ F0 ∨ w0.heap.size ≤ g) ∧ ∀ g ∈ G, g ∈ F0 ∨ w0.heap.size ≤ g
section
variable {w0 w w' : World} {F0 : List Nat} {p : Nat} {r : Rm} {x : Int} {q : Nat} {m : Pg}
theorem RFocN.toN (h : RFocN w0 F0 w p r x q m) : RmN w0 F0 w p r := by
  obtain ⟨F, G, h, h1, h2, h3⟩ := h
  exact ⟨F, h.rep, h1, h2⟩
theorem RFocN.same (h : RFocN w0 F0 w p r x q m) (hk : Keeps [] w w') : RFocN w0 F0 w' p r x q m := by
  obtain ⟨F, G, h, h1, h2, h3⟩ := h
  exact ⟨F, G, h.same hk, h1.trans hk (by simp), h2, h3⟩
theorem RmN.table (h : RmN w0 F0 w p r) (x : Int) :
    Calls Tryz.prog 42 #[.pointer (some ⟨p, 0, none⟩), .int .i64 x] w fun e w' => ∃ q, e = .returned (.pointer (some ⟨q, 0, none⟩)) ∧ RFocN w0 F0 w' p r x q (r.tab x) ∧ Keeps [] w w' := by
  obtain ⟨F, h1, h2, h3⟩ := h
  refine (rtable_any w F p r h1 x).mono ?_
  rintro e w' ⟨G, q, rfl, f, k, hG⟩
  have := h2.size
  exact ⟨q, rfl, ⟨F, G, f, h2.trans k (by simp), h3, fun g hg => (hG g hg).elim (h3 g) (fun h => .inr (by omega))⟩, k⟩
theorem RFocN.turned (h : RFocN w0 F0 w p r x q m) {m' : Pg} (hn : ∀ G, RfRep w G q m → ∃ G', RfRep w' G' q m' ∧ Keeps G w w' ∧ ∀ g ∈ G', g ∈ G ∨ w.heap.size ≤ g) : RFocN w0 F0 w' p (r.setTab x m') x q m' := by
  obtain ⟨F, G, h, hk, hF, hG⟩ := h
  obtain ⟨G', t1, k1, g1⟩ := hn G h.rf
  obtain ⟨F', f1, f2⟩ := h.turn k1 t1 g1
  have := hk.size
  have hG' : ∀ g ∈ G', g ∈ F0 ∨ w0.heap.size ≤ g := fun g hg => (g1 g hg).elim (hG g) (fun h => .inr (by omega))
  exact ⟨F', G', f1, hk.trans k1 hG, fun g hg => (f2 g hg).elim (hF g) (hG' g), hG'⟩
/-- One table alone is asked: the same blocks. -/
theorem RFocN.get (h : RFocN w0 F0 w p r x q m) : ∃ G, RfRep w G q m ∧ ∀ w' m', (∃ G', RfRep w' G' q m' ∧ Keeps G w w' ∧ ∀ g ∈ G', g ∈ G ∨ w.heap.size ≤ g) → RFocN w0 F0 w' p (r.setTab x m') x q m' := by
  obtain ⟨F, G, h, hk, hF, hG⟩ := h
  refine ⟨G, h.rf, fun w' m' hn => ?_⟩
  obtain ⟨G', t1, k1, g1⟩ := hn
  obtain ⟨F', f1, f2⟩ := h.turn k1 t1 g1
  have := hk.size
  have hG' : ∀ g ∈ G', g ∈ F0 ∨ w0.heap.size ≤ g := fun g hg => (g1 g hg).elim (hG g) (fun h => .inr (by omega))
  exact ⟨F', G', f1, hk.trans k1 hG, fun g hg => (f2 g hg).elim (hF g) (hG' g), hG'⟩
theorem RFocN.walk (h : RFocN w0 F0 w p r x q m) (pg : Int) (wr : Bool) :
    Calls Tryz.prog 60 #[.pointer (some ⟨q, 0, none⟩), .int .i64 pg, .bool wr] w fun e w' => e = .returned (.tuple #[.int .i64 (wlkN m pg wr), .bool (wlkB m pg wr)]) ∧ RFocN w0 F0 w' p (r.setTab x (wlkM m pg wr)) x q (wlkM m pg wr) := by
  obtain ⟨G, h1, h2⟩ := h.get
  refine (T12.rwalk_any w G q m pg wr h1).mono ?_
  rintro e w' ⟨rfl, t1, k1⟩
  exact ⟨rfl, h2 w' _ ⟨G, t1, k1, fun g hg => .inl hg⟩⟩
theorem RFocN.clear (h : RFocN w0 F0 w p r x q m) (pg : Int) :
    Calls Tryz.prog 68 #[.pointer (some ⟨q, 0, none⟩), .int .i64 pg] w fun e w' => e = .returned (.bool (clrB m pg)) ∧ RFocN w0 F0 w' p (r.setTab x (clrM m pg)) x q (clrM m pg) := by
  obtain ⟨G, h1, h2⟩ := h.get
  refine (T12.rclear_any w G q m pg h1).mono ?_
  rintro e w' ⟨rfl, t1, k1⟩
  exact ⟨rfl, h2 w' _ ⟨G, t1, k1, fun g hg => .inl hg⟩⟩
theorem RFocN.unmap (h : RFocN w0 F0 w p r x q m) (pg : Int) :
    Calls Tryz.prog 65 #[.pointer (some ⟨q, 0, none⟩), .int .i64 pg] w fun e w' => e = .returned (.bool (ent m pg).isSome) ∧ RFocN w0 F0 w' p (r.setTab x (unmM m pg)) x q (unmM m pg) := by
  obtain ⟨G, h1, h2⟩ := h.get
  refine (T12.runmap_any w G q m pg h1).mono ?_
  rintro e w' ⟨G', rfl, t1, k1, g1⟩
  exact ⟨rfl, h2 w' _ ⟨G', t1, k1, g1⟩⟩
theorem RFocN.map (h : RFocN w0 F0 w p r x q m) (pg fr : Int) (wr : Bool) :
    Calls Tryz.prog 63 #[.pointer (some ⟨q, 0, none⟩), .int .i64 pg, .int .i64 fr, .bool wr] w fun e w' => e = .returned (.int .i64 (mapN pg fr)) ∧ RFocN w0 F0 w' p (r.setTab x (mapM m pg fr wr)) x q (mapM m pg fr wr) := by
  obtain ⟨G, h1, h2⟩ := h.get
  refine (T12.rmap_any w G q m pg fr wr h1).mono ?_
  rintro e w' ⟨G', rfl, t1, k1, g1⟩
  exact ⟨rfl, h2 w' _ ⟨G', t1, k1, g1⟩⟩
theorem RFocN.tlook (h : RFocN w0 F0 w p r x q m) (pg : Int) :
    Calls Tryz.prog 43 #[.pointer (some ⟨q, 0, none⟩), .int .i64 pg] w fun e w' => e = .returned (.tuple #[pteV (lookX m pg), .bool (ent m pg).isSome]) ∧ RFocN w0 F0 w' p r x q m ∧ Keeps [] w w' := by
  have hh := h
  obtain ⟨G, h1, h2⟩ := h.get
  refine (T12.rlook_any w G q m pg h1).mono ?_
  rintro e w' ⟨rfl, t1, k1⟩
  exact ⟨rfl, hh.same k1, k1⟩
/-- A cache opened with a table in the hand. -/
theorem RFocN.cache (h : RFocN w0 F0 w p r x q m) {i : Nat} {k : Tl} (hi : r.C[i]? = some k) :
    ∃ g c3 H rc, w.cell? ⟨p, 2, none⟩ = some (.slice (some ⟨g, 0, none⟩) r.C.length c3) ∧ w.cell? ⟨g, i, none⟩ = some (.pointer (some ⟨rc, 0, none⟩)) ∧ TlRep 86 w H rc k ∧ p < w.heap.size ∧
      ∀ w' k', T13.Next 86 w w' H rc k' → RFocN w0 F0 w' p { r with C := r.C.set i k' } x q m := by
  obtain ⟨F, G, ⟨L, A1, A2, A3, c1, c2, c3, qs, cs, h, h0, h1⟩, h2, h3, h3'⟩ := h
  have hil : i < r.C.length := (List.getElem?_eq_some_iff.1 hi).1
  obtain ⟨_, _, hv, -, -, hA⟩ := own_shape h.o3
  obtain ⟨rfl, -, rfl⟩ : A3 = _ ∧ r.C.length = _ ∧ c3 = _ := by injection hv with h1 h2 h3; exact ⟨h1, rfl, h3⟩
  obtain ⟨g, rfl⟩ := hA (by omega)
  obtain ⟨H, rc, hq, ht, hH⟩ := h.ks i k hi
  refine ⟨g, _, H, rc, h.bp.cell 2, own_cell h.o3 (by rw [List.getElem?_map, hq]; rfl), ht, h.bp.lt, fun w' k' hn => ?_⟩
  obtain ⟨H', ht', k1, hH'⟩ := hn
  have hs := h2.size
  have hHF : ∀ g ∈ H, g ∈ F := fun g hg => h.inF _ _ (hH g hg)
  have hGH : ∀ g ∈ G, g ∉ H := fun g hg h4 => by
    rcases h1 with ⟨j, _, _, _, hG⟩ | ⟨_, hG⟩
    · have e1 := hG g hg
      rw [hH g h4] at e1
      cases e1
    · exact hG g hg (hHF g h4)
  refine ⟨H' ++ F, G, ⟨_, _, _, _, _, _, _, _, _, h.cache hi hq hH k1 ht' hH', h0.keep k1 hGH, ?_⟩, h2.trans k1 (fun g hg => h3 g (hHF g hg)), fun g hg => ?_, h3'⟩
  · rcases h1 with ⟨j, e1, e2, e3, hG⟩ | ⟨e1, hG⟩
    · refine .inl ⟨j, e1, e2, e3, fun g hg => relab_old (fun g hg => ?_) (hG g hg)⟩
      rcases hH' g hg with h5 | h5
      · exact .inl (hH g h5)
      · right
        cases hL : L g with
        | none => rfl
        | some l => have := h.lt g l hL; omega
    · refine .inr ⟨e1, fun g hg h5 => ?_⟩
      rcases List.mem_append.1 h5 with h5 | h5
      · rcases hH' g h5 with h6 | h6
        · exact hG g hg (hHF g h6)
        · have := h0.lt g hg; omega
      · exact hG g hg h5
  · rcases List.mem_append.1 hg with h4 | h4
    · rcases hH' g h4 with h5 | h5
      · exact h3 g (hHF g h5)
      · right; omega
    · exact h3 g h4
end
end Go.Proofs.YteognipfnbocpaaGreat
