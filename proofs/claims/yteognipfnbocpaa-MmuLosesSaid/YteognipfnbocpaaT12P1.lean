/- Page tables as plain data: what is told of a page, and the cells of a second-level table. -/
import Derived.Test.YteognipfnbocpaaOwn
import Derived.Test.YteognipfnbocpaaProg
namespace Go.Proofs.Yteognipfnbocpaa.T12
open Go.RowKit

/-- An entry: frame, write, accessed, dirty. -/
structure E where
  fr : Int
  wr : Bool
  ac : Bool
  di : Bool
/-- Cell j of the place of page pg. -/
def cellv (o : Option E) (pg : Nat) (j : Nat) : Value :=
  match j with
  | 0 => .int .i64 (match o with | none => 0 | some _ => (pg : Int))
  | 1 => .int .i64 (match o with | none => 0 | some e => e.fr)
  | 2 => .bool (match o with | none => false | some e => e.wr)
  | 3 => .bool (match o with | none => false | some e => e.ac)
  | 4 => .bool (match o with | none => false | some e => e.di)
  | _ => .bool o.isSome
/-- How many of the first n places of group g are taken. -/
def used (m : Nat → Option E) (g : Nat) : Nat → Nat
  | 0 => 0
  | n + 1 => used m g n + if (m (16 * g + n)).isSome then 1 else 0
theorem used_le (m : Nat → Option E) (g n : Nat) : used m g n ≤ n := by
  induction n with
  | zero => exact Nat.le_refl _
  | succ n ih => unfold used; split <;> omega
theorem used_zero (m : Nat → Option E) (g n : Nat) : used m g n = 0 ↔ ∀ i, i < n → m (16 * g + i) = none := by
  induction n with
  | zero => simp [used]
  | succ n ih =>
    unfold used
    constructor
    · intro h i hi
      by_cases e : i = n
      · subst e
        cases hm : m (16 * g + i) with
        | none => rfl
        | some x => simp [hm] at h
      · exact ih.1 (by omega) i (by omega)
    · intro h
      have h1 := ih.2 (fun i hi => h i (by omega))
      simp [h1, h n (by omega)]
def upd (m : Nat → Option E) (pg : Nat) (o : Option E) : Nat → Option E := fun k => if k = pg then o else m k
theorem upd_same (m : Nat → Option E) (pg : Nat) (o : Option E) : upd m pg o pg = o := if_pos rfl
theorem upd_ne {m : Nat → Option E} {pg k : Nat} {o : Option E} (h : k ≠ pg) : upd m pg o k = m k := if_neg h
theorem used_upd_off {m : Nat → Option E} {pg : Nat} {o : Option E} {g n : Nat} (h : pg < 16 * g ∨ 16 * g + n ≤ pg) : used (upd m pg o) g n = used m g n := by
  induction n with
  | zero => rfl
  | succ n ih => unfold used; rw [ih (by omega), upd_ne (by omega)]
theorem used_upd {m : Nat → Option E} {o : Option E} {g i n : Nat} (hi : i < n) :
    used (upd m (16 * g + i) o) g n + (if (m (16 * g + i)).isSome then 1 else 0) = used m g n + (if o.isSome then 1 else 0) := by
  induction n with
  | zero => omega
  | succ n ih =>
    unfold used
    by_cases e : i = n
    · subst e
      rw [upd_same, used_upd_off (by omega)]
      omega
    · have := ih (by omega)
      rw [upd_ne (by omega)]
      omega

/-- The second-level table of group g lies at block s, and says that u of its places are taken. -/
structure SecAt (w : World) (s : Nat) (m : Nat → Option E) (g : Nat) (u : Nat) (cs : Array Value) : Prop where
  b : Blk w s 96 cs
  z : cs.size = 97
  c : ∀ i j, i < 16 → j < 6 → cs[i * 6 + j]? = some (cellv (m (16 * g + i)) (16 * g + i) j)
  u : cs[96]? = some (.int .i64 u)
/-- The page table with the entries m lies at block p; q g: where group g's table lies. Group x may have a table without entries. -/
structure TbAt (x : Nat) (w : World) (F : List Nat) (p : Nat) (m : Nat → Option E) (q : Nat → Option Nat) : Prop where
  f : ∀ g ∈ F, g < w.heap.size
  fp : p ∈ F
  fq : ∀ k s, k < 16 → q k = some s → s ∈ F
  b : ∃ cs, Blk w p 93 cs ∧ cs.size = 16 ∧ ∀ k, k < 16 → cs[k]? = some (.pointer ((q k).map fun s => ⟨s, 0, none⟩))
  s : ∀ k s, k < 16 → q k = some s → ∃ cs, SecAt w s m k (used m k 16) cs
  n : ∀ k, k < 16 → k ≠ x → (q k = none ↔ ∀ i, i < 16 → m (16 * k + i) = none)
  d : ∀ k l s, k < 16 → l < 16 → q k = some s → q l = some s → k = l
  o : ∀ pg, 256 ≤ pg → m pg = none
  r : ∀ pg e, m pg = some e → 0 ≤ e.fr ∧ e.fr ≤ 9223372036854775807
def TbRep (w : World) (F : List Nat) (p : Nat) (m : Nat → Option E) : Prop := ∃ q, TbAt 16 w F p m q
section
variable {x : Nat} {w w' : World} {F G : List Nat} {p : Nat} {m : Nat → Option E} {q : Nat → Option Nat}
theorem TbAt.lt (h : TbAt x w F p m q) : ∀ g ∈ F, g < w.heap.size := h.f
theorem TbAt.keep (h : TbAt x w F p m q) (hk : Keeps G w w') (hd : ∀ g ∈ F, g ∉ G) : TbAt x w' F p m q := by
  obtain ⟨cs, hb, h1, h2⟩ := h.b
  refine ⟨fun g hg => Nat.lt_of_lt_of_le (h.f g hg) hk.size, h.fp, h.fq, ⟨cs, hb.keep hk (hd p h.fp), h1, h2⟩, fun k s hk' e => ?_, h.n, h.d, h.o, h.r⟩
  obtain ⟨cs, hs⟩ := h.s k s hk' e
  exact ⟨cs, hs.b.keep hk (hd s (h.fq k s hk' e)), hs.z, hs.c, hs.u⟩
theorem TbRep.lt (h : TbRep w F p m) : ∀ g ∈ F, g < w.heap.size := by obtain ⟨q, h⟩ := h; exact h.lt
theorem TbRep.keep (h : TbRep w F p m) (hk : Keeps G w w') (hd : ∀ g ∈ F, g ∉ G) : TbRep w' F p m := by obtain ⟨q, h⟩ := h; exact ⟨q, h.keep hk hd⟩
end
end Go.Proofs.Yteognipfnbocpaa.T12
