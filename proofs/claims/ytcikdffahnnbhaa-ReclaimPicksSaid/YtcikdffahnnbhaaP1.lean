/- The clock as plain data, and how it lies in memory. -/
import Derived.Test.YtcikdffahnnbhaaMp
namespace Go.Proofs.Ytcikdffahnnbhaa
open Go.RowKit

/-- A frame: used, marked, touched, its owner. -/
structure Fr where
  u : Bool
  m : Bool
  t : Bool
  o : Int
def fr0 : Fr := ⟨false, false, false, 0⟩
def c4 (x : Fr) : List Value := [.bool x.u, .bool x.m, .bool x.t, .int .i64 x.o]
def cells4 (l : List Fr) : List Value := l.flatMap c4
theorem cells4_len (l : List Fr) : (cells4 l).length = l.length * 4 := by
  induction l with
  | nil => rfl
  | cons x r ih => show (c4 x ++ cells4 r).length = _; rw [List.length_append, ih]; simp [c4]; omega
theorem cells4_at (l : List Fr) (k j : Nat) (hk : k < l.length) (hj : j < 4) : (cells4 l)[k * 4 + j]? = (c4 l[k])[j]? := by
  induction l generalizing k with
  | nil => simp at hk
  | cons x r ih =>
    have hc : (c4 x).length = 4 := rfl
    show (c4 x ++ cells4 r)[k * 4 + j]? = _
    cases k with
    | zero => rw [List.getElem?_append_left (by rw [hc]; omega)]; simp
    | succ k =>
      rw [List.getElem?_append_right (by rw [hc]; omega), hc, show (k + 1) * 4 + j - 4 = k * 4 + j by omega, ih k (by simpa using hk)]
      rfl
theorem cells4_set (L : List Fr) (i j : Nat) (hi : i < L.length) (hj : j < 4) (v : Value) (x : Fr) (hx : c4 x = (c4 L[i]).set j v) : (cells4 L).set (i * 4 + j) v = cells4 (L.set i x) := by
  induction L generalizing i with
  | nil => simp at hi
  | cons y r ih =>
    have hc : (c4 y).length = 4 := rfl
    show (c4 y ++ cells4 r).set (i * 4 + j) v = _
    cases i with
    | zero =>
      rw [List.set_append_left _ _ (by rw [hc]; omega)]
      simp only [List.getElem_cons_zero] at hx
      rw [Nat.zero_mul, Nat.zero_add, ← hx]
      rfl
    | succ i =>
      rw [List.set_append_right _ _ (by rw [hc]; omega), hc, show (i + 1) * 4 + j - 4 = i * 4 + j by omega, ih i (by simpa using hi) (by simpa using hx)]
      rfl
/-- The clock: its frames, the hand, how many frames each owner uses, the touches of the present and of the previous round, and a bound on what was counted. -/
structure Ck where
  L : List Fr
  h : Nat
  us : Int → Int
  nw : Int → Int
  bf : Int → Int
  N : Nat
/-- The clock s lies at block p; F are all its blocks. -/
structure CkAt (w : World) (F : List Nat) (p : Nat) (s : Ck) (g cap bu bn bb : Nat) : Prop where
  f : ∀ x, x ∈ F ↔ x = p ∨ x = g ∨ x = bu ∨ x = bn ∨ x = bb
  b : Blk w p 45 #[.slice (some ⟨g, 0, none⟩) s.L.length cap, .int .i64 s.h, .map (some bu), .map (some bn), .map (some bb)]
  o : w.ownsRow 0 48 4 (.slice (some ⟨g, 0, none⟩) s.L.length cap) s.L.length (cells4 s.L)
  l0 : 0 < s.L.length
  l1 : s.L.length ≤ 40
  hh : s.h < s.L.length
  mu : MapAt w bu s.N s.us
  mn : MapAt w bn s.N s.nw
  mb : MapAt w bb s.N s.bf
  n1 : bu ≠ bn
  n2 : bu ≠ bb
  n3 : bn ≠ bb
  ru : ∀ x, -s.N ≤ s.us x ∧ s.us x ≤ s.N
  rn : ∀ x, -s.N ≤ s.nw x ∧ s.nw x ≤ s.N
  rb : ∀ x, -s.N ≤ s.bf x ∧ s.bf x ≤ s.N
  ro : ∀ (i : Nat) (hi : i < s.L.length), -9223372036854775808 ≤ s.L[i].o ∧ s.L[i].o ≤ 9223372036854775807
def CkRep (w : World) (F : List Nat) (p : Nat) (s : Ck) : Prop := ∃ g cap bu bn bb, CkAt w F p s g cap bu bn bb
section
variable {w w' : World} {F G : List Nat} {p : Nat} {s : Ck} {g cap bu bn bb : Nat}
theorem CkAt.pg (h : CkAt w F p s g cap bu bn bb) : p ≠ g := by have := own_blk_off h.o h.b (by decide); simpa using this
theorem CkAt.ob (h : CkAt w F p s g cap bu bn bb) : ∃ cur, Blk w g 48 cur := by obtain ⟨cur, hb, _⟩ := own_blk h.o; exact ⟨cur, hb⟩
theorem CkAt.lt (h : CkAt w F p s g cap bu bn bb) : ∀ x ∈ F, x < w.heap.size := by
  intro x hx
  rw [h.f] at hx
  rcases hx with rfl | rfl | rfl | rfl | rfl
  · exact h.b.lt
  · exact own_lt h.o (by simp)
  · exact h.mu.lt
  · exact h.mn.lt
  · exact h.mb.lt
theorem CkAt.keep (h : CkAt w F p s g cap bu bn bb) (hk : Keeps G w w') (hd : ∀ x ∈ F, x ∉ G) : CkAt w' F p s g cap bu bn bb := by
  have hf := h.f
  have m : ∀ x, x ∈ ([p, g, bu, bn, bb] : List Nat) → x ∉ G := fun x hx => hd x (by rw [hf]; simpa using hx)
  exact ⟨hf, h.b.keep hk (m p (by simp)), own_keep h.o hk (fun x hx => m x (by simp at hx; simp [hx])), h.l0, h.l1, h.hh, h.mu.keep hk (m bu (by simp)), h.mn.keep hk (m bn (by simp)), h.mb.keep hk (m bb (by simp)), h.n1, h.n2, h.n3, h.ru, h.rn, h.rb, h.ro⟩
theorem CkRep.lt (h : CkRep w F p s) : ∀ x ∈ F, x < w.heap.size := by obtain ⟨_, _, _, _, _, h⟩ := h; exact h.lt
theorem CkRep.keep (h : CkRep w F p s) (hk : Keeps G w w') (hd : ∀ x ∈ F, x ∉ G) : CkRep w' F p s := by obtain ⟨g, cap, bu, bn, bb, h⟩ := h; exact ⟨g, cap, bu, bn, bb, h.keep hk hd⟩
/-- The cells of frame i. -/
theorem CkAt.cellj (h : CkAt w F p s g cap bu bn bb) {i j : Nat} (hi : i < s.L.length) (hj : j < 4) {v : Value} (hc : (c4 s.L[i])[j]? = some v) : w.cell? ⟨g, i * 4 + j, none⟩ = some v :=
  own_cell h.o (by rw [cells4_at _ _ _ hi hj]; exact hc)
end
/-- Whether there is a frame f. -/
def Ck.has (s : Ck) (f : Int) : Bool := decide (0 ≤ f) && decide (f < s.L.length)
def Ck.used (s : Ck) (f : Int) : Bool := s.has f && (s.L.getD f.toNat fr0).u
def Ck.gone (s : Ck) (f : Int) : Ck := if s.used f then { s with L := s.L.set f.toNat fr0, us := updI s.us (s.L.getD f.toNat fr0).o (s.us (s.L.getD f.toNat fr0).o - 1), N := s.N + 1 } else s
def Ck.touch (s : Ck) (f : Int) : Ck := if s.used f then
    (if (s.L.getD f.toNat fr0).t then { s with L := s.L.set f.toNat { s.L.getD f.toNat fr0 with m := true } }
     else { s with L := s.L.set f.toNat { s.L.getD f.toNat fr0 with m := true, t := true }, nw := updI s.nw (s.L.getD f.toNat fr0).o (s.nw (s.L.getD f.toNat fr0).o + 1), N := s.N + 1 })
  else s
/-- Frame f is given to an owner. -/
def Ck.give (s : Ck) (f o : Int) : Ck := { s.gone f with L := (s.gone f).L.set f.toNat ⟨true, false, false, o⟩, us := updI (s.gone f).us o ((s.gone f).us o + 1), N := (s.gone f).N + 1 }
def Ck.use (s : Ck) (f o : Int) : Ck := if s.has f then (if !(s.L.getD f.toNat fr0).u || (s.L.getD f.toNat fr0).o != o then (s.give f o).touch f else s.touch f) else s
def Ck.over (s : Ck) (o : Int) : Bool := decide (max (s.nw o) (s.bf o) < s.us o)
end Go.Proofs.Ytcikdffahnnbhaa
