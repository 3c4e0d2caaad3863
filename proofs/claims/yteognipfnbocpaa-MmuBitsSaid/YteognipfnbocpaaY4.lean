/- Helpers for MmuBits' walk. -/
import Derived.Test.YteognipfnbocpaaY3
namespace Go.Proofs.Yteognipfnbocpaa
open Go.RowKit
open T12 (E TbRep ent mapM mapN lookX)

section
variable {w wr w' w'' : World} {p gA gD N : Nat} {s : Mm} {ac di : Nat → Bool} {ks : List Int}
theorem BW.apart (h : BW w w' p gA gD s ac di) {g : Nat} {t : TypeId} {cs : Array Value} (hb : Blk w' g t cs) (ht : t ≠ 4) : g ≠ gA ∧ g ≠ gD := by
  have ha := h.ta
  have hd := h.td
  unfold Tab Blk at ha hd
  unfold Blk at hb
  refine ⟨fun e => ?_, fun e => ?_⟩
  · subst e; rw [ha] at hb; injection hb with hb; injection hb with _ h2 _; exact ht h2.symm
  · subst e; rw [hd] at hb; injection hb with hb; injection hb with _ h2 _; exact ht h2.symm
theorem BW.look_ (h : BW w w' p gA gD s ac di) {n : Nat} (hn : n < 256) : ∃ (a b : Int) (c : Bool),
    Calls Try.prog 10 #[.pointer (some ⟨p, 0, none⟩), .int .i64 5, .int .i64 n] w' fun e w'' => e = .returned (.tuple #[.agg #[.int .i64 a, .int .i64 b, .bool c, .bool (acO (s.tab 5 n)), .bool (diO (s.tab 5 n))], .bool (s.tab 5 n).isSome]) ∧ Keeps [] w' w'' := by
  have h0 := h.mm.look 5 n (by omega) (by omega) (by omega) (by omega)
  unfold lookX pteV at h0
  rw [T12.ent_nat] at h0
  cases hq : s.tab 5 n with
  | none => rw [hq] at h0; exact ⟨_, _, _, h0⟩
  | some e => rw [hq] at h0; exact ⟨_, _, _, h0⟩
end
/-- The operation's number of marks taken from the first n pages. -/
theorem cntB_succ (f : Nat → Bool) (n : Nat) : cntB f (n + 1) = cntB f n + if f n then 1 else 0 := rfl
theorem cntB_le (f : Nat → Bool) : ∀ n, cntB f n ≤ n := fun n => by
  induction n with
  | zero => exact Nat.le_refl _
  | succ n ih => rw [cntB_succ]; split <;> omega
theorem acS_mid {s : Mm} {o : Op} {ac : Nat → Bool} {q : Nat} {rb : Int} (hq : o.pg = q) (hr : rb = opB s o) :
    (o.d % 8 = 3 ∨ o.d % 8 = 4 → acS s o ac = updB (if o.d % 8 < 3 ∧ rb = 1 then updB ac q true else ac) q ((if o.d % 8 < 3 ∧ rb = 1 then updB ac q true else ac) q && decide (o.fr < 0))) ∧
    (0 ≤ o.d % 8 ∧ ¬(o.d % 8 = 3 ∨ o.d % 8 = 4) → acS s o ac = (if o.d % 8 < 3 ∧ rb = 1 then updB ac q true else ac)) := by
  subst hr
  unfold acS
  have e : o.pg.toNat = q := by omega
  rw [e]
  constructor
  · intro h
    rw [if_neg (by omega), if_pos (by omega), if_neg (by omega)]
  · intro h
    by_cases h1 : o.d % 8 < 3
    · rw [if_pos h1]
      by_cases h2 : opB s o = 1
      · rw [if_pos h2, if_pos ⟨h1, h2⟩]
      · rw [if_neg h2, if_neg (fun h => h2 h.2)]
    · rw [if_neg h1, if_neg (by omega), if_neg (fun h => h1 h.1)]
theorem diS_mid {s : Mm} {o : Op} {di : Nat → Bool} {q : Nat} {rb : Int} (hq : o.pg = q) (hr : rb = opB s o) :
    (o.d % 8 = 3 ∨ o.d % 8 = 4 → diS s o di = updB (if o.d % 8 < 3 ∧ rb = 1 then updB di q (di q || o.wr) else di) q ((if o.d % 8 < 3 ∧ rb = 1 then updB di q (di q || o.wr) else di) q && decide (o.fr < 0))) ∧
    (0 ≤ o.d % 8 ∧ ¬(o.d % 8 = 3 ∨ o.d % 8 = 4) → diS s o di = (if o.d % 8 < 3 ∧ rb = 1 then updB di q (di q || o.wr) else di)) := by
  subst hr
  unfold diS
  have e : o.pg.toNat = q := by omega
  rw [e]
  constructor
  · intro h
    rw [if_neg (by omega), if_pos (by omega), if_neg (by omega)]
  · intro h
    by_cases h1 : o.d % 8 < 3
    · rw [if_pos h1]
      by_cases h2 : opB s o = 1
      · rw [if_pos h2, if_pos ⟨h1, h2⟩]
      · rw [if_neg h2, if_neg (fun h => h2 h.2)]
    · rw [if_neg h1, if_neg (by omega), if_neg (fun h => h1 h.1)]
end Go.Proofs.Yteognipfnbocpaa
