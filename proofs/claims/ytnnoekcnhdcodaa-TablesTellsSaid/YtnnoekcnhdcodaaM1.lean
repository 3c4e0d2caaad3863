/- TablesMap: the plain side. -/
import Derived.Test.YtnnoekcnhdcodaaW9
import Derived.Test.YtnnoekcnhdcodaaOps
namespace Go.Proofs.Ytnnoekcnhdcodaa
open Go.RowKit

def cX (x : Int × E) : Array Value := #[.int .i64 x.1, .int .i64 x.2.fr, .bool x.2.wr, .bool x.2.ac, .bool x.2.di]
theorem ent_upd_ne {m : Nat → Option E} {pg page : Int} {o : Option E} (h : pg ≠ page) (hp : 0 ≤ pg) : ent (upd m pg.toNat o) page = ent m page := by
  unfold ent
  split
  · rw [upd_ne (by omega)]
  · rfl
theorem ent_upd {m : Nat → Option E} {pg : Int} {o : Option E} (hp : 0 ≤ pg) : ent (upd m pg.toNat o) pg = o := by
  unfold ent
  rw [if_pos hp, upd_same]
theorem ent_doM_ne {m : Nat → Option E} {d pg page f : Int} {b : Bool} (h : pg ≠ page) : ent (doM m d pg f b) page = ent m page := by
  unfold doM
  split
  · unfold mapM
    split
    · rename_i hr; exact ent_upd_ne h hr.1
    · rfl
  split
  · unfold unmM
    cases he : ent m pg with
    | none => rfl
    | some e => exact ent_upd_ne h (ent_nonneg he)
  split
  · unfold wlkM
    cases he : ent m pg with
    | none => rfl
    | some e =>
      simp only []
      split
      · rfl
      · exact ent_upd_ne h (ent_nonneg he)
  split
  · unfold clrM
    cases he : ent m pg with
    | none => rfl
    | some e => exact ent_upd_ne h (ent_nonneg he)
  · rfl
theorem ent_map {m : Nat → Option E} {pg f : Int} {b : Bool} (h : 0 ≤ pg ∧ pg < 256 ∧ 0 ≤ f) : ent (mapM m pg f b) pg = some ⟨f, b, false, false⟩ := by
  unfold mapM; rw [if_pos h]; exact ent_upd h.1
theorem ent_map_no {m : Nat → Option E} {pg f : Int} {b : Bool} (h : ¬(0 ≤ pg ∧ pg < 256 ∧ 0 ≤ f)) : ent (mapM m pg f b) pg = ent m pg := by
  unfold mapM; rw [if_neg h]
theorem ent_unm (m : Nat → Option E) (pg : Int) : ent (unmM m pg) pg = none := by
  unfold unmM
  cases he : ent m pg with
  | none => exact he
  | some e => exact ent_upd (ent_nonneg he)
theorem ent_wlk {m : Nat → Option E} {pg : Int} {b : Bool} {e : E} (he : ent m pg = some e) : ent (wlkM m pg b) pg = some (if b && !e.wr then e else ⟨e.fr, e.wr, true, e.di || b⟩) := by
  unfold wlkM
  rw [he]
  simp only []
  split
  · rw [he]
  · rw [ent_upd (ent_nonneg he)]
theorem ent_wlk_no {m : Nat → Option E} {pg : Int} {b : Bool} (he : ent m pg = none) : ent (wlkM m pg b) pg = none := by
  unfold wlkM; rw [he]; exact he
theorem ent_clr {m : Nat → Option E} {pg : Int} {e : E} (he : ent m pg = some e) : ent (clrM m pg) pg = some ⟨e.fr, e.wr, false, e.di⟩ := by
  unfold clrM; rw [he]; exact ent_upd (ent_nonneg he)
theorem ent_clr_no {m : Nat → Option E} {pg : Int} (he : ent m pg = none) : ent (clrM m pg) pg = none := by
  unfold clrM; rw [he]; exact he
theorem lookX_some {m : Nat → Option E} {pg : Int} {e : E} (h : ent m pg = some e) : lookX m pg = (pg, e) := by unfold lookX; rw [h]
theorem lookX_none {m : Nat → Option E} {pg : Int} (h : ent m pg = none) : lookX m pg = (0, ⟨0, false, false, false⟩) := by unfold lookX; rw [h]
theorem lookX_congr {m m' : Nat → Option E} {pg : Int} (h : ent m' pg = ent m pg) : lookX m' pg = lookX m pg := by unfold lookX; rw [h]

/-- What holds at the head of each round. -/
structure MapInv (w wr : World) (F : List Nat) (p g : Nat) (m : Nat → Option E) (page : Int) (th : Bool) : Prop where
  r : TbRep wr F p m
  b : Blk wr g 27 (cX (lookX m page))
  t : th = (ent m page).isSome
  ng : g ∉ F
  gw : w.heap.size ≤ g
  kp : Keeps [] w wr
  f : ∀ x ∈ F, w.heap.size ≤ x
end Go.Proofs.Ytnnoekcnhdcodaa
