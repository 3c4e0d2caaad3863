/- The walks of the table's methods. -/
import Derived.Test.YteognipfnbocpaaT12P1
import Derived.BigRegion
import Derived.Deep.QuietTactic
import Derived.BigQuiet
import Derived.WalkLawsBesides
import Derived.WalkSpells
import Derived.Handy
import Derived.Deep.RegionHeld3
import Derived.KernelRfl
namespace Go.Proofs.Yteognipfnbocpaa.T12
open Go.RowKit

theorem new_any (w : World) : Calls Try.prog 47 #[] w fun e w' => ∃ F p, e = .returned (.pointer (some ⟨p, 0, none⟩)) ∧ TbRep w' F p (fun _ => none) ∧ Keeps [] w w' ∧ ∀ g ∈ F, w.heap.size ≤ g := by
  go_enter Try.func47, Try.ntmps47
  go_wp2
  go_ret
  refine ⟨[w.heap.size], w.heap.size, rfl, ⟨fun _ => none, fun g hg => (by obtain rfl := List.mem_singleton.1 hg; simp), by simp, fun _ _ _ h => (nomatch h), ⟨_, Blk.new _ _ _, rfl, fun k hk => ?_⟩, fun _ _ _ h => (nomatch h), fun _ _ _ => ⟨fun _ _ _ => rfl, fun _ => rfl⟩, fun _ _ _ _ _ h => (nomatch h), fun _ _ => rfl, fun _ _ h => (nomatch h)⟩, (Keeps.refl _ _).alloc _, by simp⟩
  simp only [List.getElem?_toArray, Option.map_none]
  have : ∀ k : Fin 16, [Value.pointer none, Value.pointer none, Value.pointer none, Value.pointer none, Value.pointer none, Value.pointer none, Value.pointer none, Value.pointer none, Value.pointer none, Value.pointer none, Value.pointer none, Value.pointer none, Value.pointer none, Value.pointer none, Value.pointer none, Value.pointer none][k.1]? = some (Value.pointer none) := fun k => List.getElem?_replicate_of_lt (n := 16) (a := Value.pointer none) k.2
  exact this ⟨k, hk⟩

theorem SecAt.place {w : World} {s : Nat} {m : Nat → Option E} {k j u : Nat} {cs : Array Value} (h : SecAt w s m (k / 16) u cs) (hj : j < 6) : w.cell? ⟨s, k % 16 * 6 + j, none⟩ = some (cellv (m k) k j) := by
  have e : 16 * (k / 16) + k % 16 = k := Nat.div_add_mod k 16
  have := h.c (k % 16) j (Nat.mod_lt _ (by omega)) hj
  rw [e] at this
  exact (h.b.cell _).trans this

set_option maxRecDepth 100000 in
/-- Which place holds page k: its address, if it is taken. -/
theorem at_any (w : World) (F : List Nat) (p : Nat) (m : Nat → Option E) (q : Nat → Option Nat) (pg : Int) (h : TbAt 16 w F p m q) (h1 : -9223372036854775808 ≤ pg) (h2 : pg ≤ 9223372036854775807) :
    Calls Try.prog 48 #[.pointer (some ⟨p, 0, none⟩), .int .i64 pg] w fun e w' => w = w' ∧
      ((e = .returned (.pointer none) ∧ (0 ≤ pg → m pg.toNat = none)) ∨
       (∃ (k s : Nat) (x : E), pg = k ∧ k < 256 ∧ q (k / 16) = some s ∧ m k = some x ∧ e = .returned (.pointer (some ⟨s, k % 16 * 6, none⟩)))) := by
  by_cases a0 : 0 ≤ pg
  rotate_left
  · go_enter Try.func48, Try.ntmps48
    go_wp2
    go_ret
    exact ⟨rfl, .inl ⟨rfl, fun h => absurd h (by omega)⟩⟩
  by_cases a1 : pg < 256
  rotate_left
  · have HO := Lib.hid (h.o pg.toNat (by omega))
    go_enter Try.func48, Try.ntmps48
    go_wp2
    go_ret
    refine ⟨rfl, .inl ⟨rfl, ?_⟩⟩
    intros
    exact HO.out
  obtain ⟨k, rfl⟩ := Int.eq_ofNat_of_zero_le a0
  have hg : k / 16 < 16 := by omega
  obtain ⟨cs, hb, hz, hc⟩ := h.b
  have c0 : w.cell? ⟨p, k / 16, none⟩ = some (.pointer ((q (k / 16)).map fun s => ⟨s, 0, none⟩)) := (hb.cell _).trans (hc _ hg)
  have hS := h.s (k / 16)
  have hN := (h.n (k / 16) hg (by omega))
  have hk16 : 16 * (k / 16) + k % 16 = k := Nat.div_add_mod k 16
  have b0 : (0 : Int) ≤ (k : Int) / 16 := by omega
  have b1 : (k : Int) / 16 < 16 := by omega
  have b2 : (0 : Int) ≤ (k : Int) % 16 := by omega
  have b3 : (k : Int) % 16 < 16 := by omega
  cases hq : q (k / 16) with
  | none =>
    rw [hq] at c0
    simp only [Option.map_none] at c0
    have HX : Hid (m k = none) := by have := hN.1 hq (k % 16) (Nat.mod_lt _ (by omega)); rw [hk16] at this; exact this
    clear hN hS hc hb h hk16
    go_enter Try.func48, Try.ntmps48
    go_wp2
    go_ret
    refine ⟨rfl, .inl ⟨rfl, ?_⟩⟩
    intros
    exact HX.out
  | some s =>
    rw [hq] at c0
    simp only [Option.map_some] at c0
    obtain ⟨cs2, hs⟩ := hS s hg hq
    have c5 := hs.place (k := k) (j := 5) (by omega)
    have HQ := Lib.hid hq
    clear hN hS hc hb h hs hk16
    cases hm : m k with
    | none =>
      rw [hm] at c5
      have c5' : w.cell? ⟨s, k % 16 * 6 + 5, none⟩ = some (.bool false) := c5
      have HM := Lib.hid hm
      clear c5
      go_enter Try.func48, Try.ntmps48
      go_wp2
      go_ret
      refine ⟨rfl, .inl ⟨rfl, ?_⟩⟩
      intros
      exact HM.out
    | some x =>
      rw [hm] at c5
      have c5' : w.cell? ⟨s, k % 16 * 6 + 5, none⟩ = some (.bool true) := c5
      have HM := Lib.hid hm
      clear c5
      go_enter Try.func48, Try.ntmps48
      go_wp2
      go_ret
      exact ⟨rfl, .inr ⟨k, s, x, rfl, by omega, HQ.out, HM.out, rfl⟩⟩
end Go.Proofs.Yteognipfnbocpaa.T12
