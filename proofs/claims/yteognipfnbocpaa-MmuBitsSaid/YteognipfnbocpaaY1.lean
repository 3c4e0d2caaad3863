/- What MmuBits' walk carries: the machine and the two tables, told apart. -/
import Derived.Test.YteognipfnbocpaaY0
import Derived.Test.YteognipfnbocpaaOps
namespace Go.Proofs.Yteognipfnbocpaa
open Go.RowKit
open T12 (E TbRep ent mapM mapN lookX)
open T13 (Tl En TlRep es)

/-- The machine s stands in w' (and is all younger than w); blocks gA, gD hold the tables ac, di. -/
def BW (w w' : World) (p gA gD : Nat) (s : Mm) (ac di : Nat → Bool) : Prop :=
  ∃ F, MmRep w' F p s ∧ Keeps [] w w' ∧ (∀ g ∈ F, w.heap.size ≤ g ∧ g ≠ gA ∧ g ≠ gD) ∧ Tab w' gA ac ∧ Tab w' gD di ∧ gA ≠ gD ∧ w.heap.size ≤ gA ∧ w.heap.size ≤ gD
section
variable {w wr w' w'' : World} {p gA gD N : Nat} {s : Mm} {ac di : Nat → Bool} {ks : List Int}
theorem BW.keeps (h : BW w w' p gA gD s ac di) : Keeps [] w w' := by obtain ⟨F, _, h, _⟩ := h; exact h
theorem BW.ta (h : BW w w' p gA gD s ac di) : Tab w' gA ac := by obtain ⟨F, _, _, _, h, _⟩ := h; exact h
theorem BW.td (h : BW w w' p gA gD s ac di) : Tab w' gD di := by obtain ⟨F, _, _, _, _, h, _⟩ := h; exact h
theorem BW.ne (h : BW w w' p gA gD s ac di) : gA ≠ gD := by obtain ⟨F, _, _, _, _, _, h, _⟩ := h; exact h
theorem BW.mm (h : BW w w' p gA gD s ac di) : MmW w w' p s := by obtain ⟨F, h1, h2, h3, _⟩ := h; exact ⟨F, h1, h2, fun g hg => (h3 g hg).1⟩
theorem BW.same (h : BW w w' p gA gD s ac di) (hk : Keeps [] w' w'') : BW w w'' p gA gD s ac di := by
  obtain ⟨F, h1, h2, h3, h4, h5, h6, h7, h8⟩ := h
  exact ⟨F, h1.keep hk (by simp), h2.trans hk (by simp), h3, h4.keep hk (by simp), h5.keep hk (by simp), h6, h7, h8⟩
theorem BW.setA (h : BW w w' p gA gD s ac di) (q : Nat) (b : Bool) : BW w (w'.setCell ⟨gA, q, none⟩ (.bool b)) p gA gD s (updB ac q b) di := by
  obtain ⟨F, h1, h2, h3, h4, h5, h6, h7, h8⟩ := h
  have hk : Keeps [gA] w' (w'.setCell ⟨gA, q, none⟩ (.bool b)) := (Keeps.refl _ _).setCell (p := ⟨gA, q, none⟩) (.inl (by simp)) _
  exact ⟨F, h1.keep hk (fun g hg => by simpa using (h3 g hg).2.1), h2.setCell (p := ⟨gA, q, none⟩) (.inr h7) _, h3, h4.set_ q b, h5.far (p := ⟨gA, q, none⟩) (fun e => h6 e.symm) _, h6, h7, h8⟩
theorem BW.setD (h : BW w w' p gA gD s ac di) (q : Nat) (b : Bool) : BW w (w'.setCell ⟨gD, q, none⟩ (.bool b)) p gA gD s ac (updB di q b) := by
  obtain ⟨F, h1, h2, h3, h4, h5, h6, h7, h8⟩ := h
  have hk : Keeps [gD] w' (w'.setCell ⟨gD, q, none⟩ (.bool b)) := (Keeps.refl _ _).setCell (p := ⟨gD, q, none⟩) (.inl (by simp)) _
  exact ⟨F, h1.keep hk (fun g hg => by simpa using (h3 g hg).2.2), h2.setCell (p := ⟨gD, q, none⟩) (.inr h8) _, h3, h4.far (p := ⟨gD, q, none⟩) h6 _, h5.set_ q b, h6, h7, h8⟩
/-- The call of 'do': a block that is younger than wr's is kept. -/
theorem BW.do_ (h : BW w wr p gA gD s ac di) (hk : Keeps [] wr w') (mi : MI N ks s) (hN : N ≤ 1000) (o : Op) (wf : o.Wf) :
    Calls Try.prog 9 #[.pointer (some ⟨p, 0, none⟩), o.v] w' fun e w'' => ∃ v, e = .returned (.tuple #[.int .i64 (opA ks s o), .int .i64 (opB s o), v]) ∧ w''.ownsRow 0 3 1 v (opL s o).length (iv (opL s o)) ∧ BW w w'' p gA gD (s.op o) ac di ∧ (∀ g t cs, Blk w' g t cs → wr.heap.size ≤ g → Blk w'' g t cs) := by
  obtain ⟨F, h1, h2, h3, h4, h5, h6, h7, h8⟩ := h
  have hF := h1.lt
  have ha := h4.lt
  have hd := h5.lt
  have hs := hk.size
  refine (do_any w' F p s o ks ⟨h1.keep hk (by simp), mi.ok hN, by have := mi.kk; omega, wf, mi.nd, mi.ki, by have := mi.kl; omega⟩).mono ?_
  rintro e w'' ⟨v, a, b, ⟨F', k1, k2, k3⟩, d⟩
  have hsz := h2.size
  refine ⟨v, a, b, ⟨F', k1, (h2.trans hk (by simp)).trans k2 (fun g hg => .inr (h3 g hg).1), fun g hg => ?_, (h4.keep hk (by simp)).keep k2 (fun hg => (h3 _ hg).2.1 rfl), (h5.keep hk (by simp)).keep k2 (fun hg => (h3 _ hg).2.2 rfl), h6, h7, h8⟩, fun g t cs hb hg => hb.keep k2 (fun h => by have := hF g h; omega)⟩
  rcases k3 g hg with h | h
  · exact h3 g h
  · exact ⟨by omega, by omega, by omega⟩
/-- The two tables laid behind a machine. -/
theorem BW.new (h : MmW w w' p s) : BW w ((w'.alloc (.cells (tbB fun _ => false) 4)).alloc (.cells (tbB fun _ => false) 4)) p w'.heap.size (w'.heap.size + 1) s (fun _ => false) (fun _ => false) := by
  obtain ⟨F, h1, h2, h3⟩ := h
  have hF := h1.lt
  have hs := h2.size
  have hk : Keeps [] w' ((w'.alloc (.cells (tbB fun _ => false) 4)).alloc (.cells (tbB fun _ => false) 4)) := ((Keeps.refl _ _).alloc _).alloc _
  have b1 : Blk (w'.alloc (.cells (tbB fun _ => false) 4)) w'.heap.size 4 (tbB fun _ => false) := Blk.new _ _ _
  have b2 : Blk ((w'.alloc (.cells (tbB fun _ => false) 4)).alloc (.cells (tbB fun _ => false) 4)) (w'.alloc (.cells (tbB fun _ => false) 4)).heap.size 4 (tbB fun _ => false) := Blk.new _ _ _
  have e : (w'.alloc (.cells (tbB fun _ => false) 4)).heap.size = w'.heap.size + 1 := by simp
  rw [e] at b2
  exact ⟨F, h1.keep hk (by simp), h2.trans hk (by simp), fun g hg => ⟨h3 g hg, by have := hF g hg; omega, by have := hF g hg; omega⟩, b1.alloc _, b2, by omega, by omega, by omega⟩
end
/-- 'make([]bool, 256)'. -/
theorem make_tab (W : World) : (Instr.makeSlice 26 (.int .i64 256) (.int .i64 256)).run Try.prog W = .ok (.slice (some ⟨W.heap.size, 0, none⟩) 256 256) (W.alloc (.cells (tbB fun _ => false) 4)) := by
  rw [tbB_no]
  kernel_rfl
end Go.Proofs.Yteognipfnbocpaa
