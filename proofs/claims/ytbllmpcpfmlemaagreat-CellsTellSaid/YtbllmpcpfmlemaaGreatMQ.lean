/- The texts MQ, MR, MS in one. -/
import Derived.Test.YtbllmpcpfmlemaaGreatMO
import Derived.Laws.Externs
import Derived.MapKept
import Derived.WalkSpells
import Derived.Maps.RangeRun
import Derived.Maps.Range
namespace Go.Proofs.YtbllmpcpfmlemaaGreat
open Go.RowKit
set_option maxRecDepth 100000 in
set_option maxHeartbeats 1600000 in
theorem cloneR_any (w : World) (A : Option Addr) (n cap : Nat) (xs : List Value) (ho : w.ownsRow 0 34 4 (.slice A n cap) n xs) (h1 : ∀ u ∈ xs, u.oneCell' = true) (hn : n ≤ 2000000) :
    Calls Tryz.prog 71 #[.slice A n cap] w fun e w' => ∃ v, e = .returned v ∧ w'.ownsRow 0 34 4 v n xs ∧ Keeps [] w w' ∧ ∀ g ∈ fp v, w.heap.size ≤ g := by
  rcases A with _ | a
  · have hx : n = 0 ∧ cap = 0 := by
      rcases ho.2 with ⟨h, h0⟩ | ⟨g, c, cur, h, _⟩
      · injection h with _ _ h2; exact ⟨h0, h2⟩
      · injection h with h; cases h
    obtain ⟨rfl, rfl⟩ := hx
    have he := fun W => Lib.run_eql_slice_nil (P := Tryz.prog) W 50 34 none 0 0 0 0 Tryz.underlying50
    go_enter Tryz.func71, Tryz.ntmps71
    go_wp2
    go_ret
    exact ⟨_, rfl, ho, Keeps.refl _ _, by simp⟩
  · have he := fun W => Lib.run_eql_slice_nil (P := Tryz.prog) W 50 34 (some a) n cap 0 0 Tryz.underlying50
    go_enter Tryz.func71, Tryz.ntmps71
    go_wp2_with (at_builtin; refine wpList_app _ rfl (.tmp 5) (.tmp 6) _ rfl 34 zv32 4 64 Tryz.underlying50 info34 rfl (by omega) (.slice (some ⟨w.heap.size, 0, none⟩) 0 0) 0 [] rfl (own_of_blk (Blk.new w 34 #[]) (by omega) (by omega) rfl rfl) _ _ _ _ xs rfl (reads_own (own_keep ho ((Keeps.refl [] _).alloc _) (by simp))) h1 (by unfold maxLen; omega) (by omega) ?_)
    intro v' w' ho' hk' hf'
    go_wp2
    go_ret
    have hk1 : Keeps [] w (w.alloc (.cells #[] 34)) := (Keeps.refl _ _).alloc _
    refine ⟨v', rfl, by simpa using ho', hk1.trans hk' (by simp), fun g hg => ?_⟩
    rcases hf' g hg with h2 | h2
    · have : g = w.heap.size := by simpa using h2
      omega
    · omega
end Go.Proofs.YtbllmpcpfmlemaaGreat
namespace Go.Proofs.YtbllmpcpfmlemaaGreat
open Go.RowKit
open Go.ChangeMaps (setBlock)
section
variable {w w' : World} {b : Nat} {l : List (Nat × Nat)}
end
end Go.Proofs.YtbllmpcpfmlemaaGreat
namespace Go.Proofs.YtbllmpcpfmlemaaGreat
open Go.RowKit
open Go.ChangeMaps (setBlock)
section
variable {w w' : World} {b r : Nat} {l : List (Nat × Nat)} {left : Nat → Prop}
variable {ops : Array Oper} {rest : List Oper} {o : Oper} {a : Act} {Q : Exit → Act → World → Prop}
end
end Go.Proofs.YtbllmpcpfmlemaaGreat
namespace Go.Proofs.YtbllmpcpfmlemaaGreat
open Go.RowKit
end Go.Proofs.YtbllmpcpfmlemaaGreat
namespace Go.Proofs.YtbllmpcpfmlemaaGreat
open Go.RowKit
section
variable {w0 w w' : World} {c m : Nat} {Mo : Int → Mem} {L : Nat → Option (Int × Nat)} {F G : List Nat} {C : St} {c2 m2 n : Nat} {N : Int → Mem} {L2 : Nat → Option (Int × Nat)} {F2 : List Nat} {left : Int → Prop} {par : One → Option Nat}
end
end Go.Proofs.YtbllmpcpfmlemaaGreat
namespace Go.Proofs.YtbllmpcpfmlemaaGreat
open Go.RowKit
section
variable {w0 w : World} {Mo : Int → Mem} {C : St} {c2 m2 n : Nat} {N : Int → Mem} {L2 : Nat → Option (Int × Nat)} {F2 : List Nat} {left : Int → Prop} {pr : One → Option Nat}
end
section
variable {w : World} {c : Nat} {F G : List Nat} {C : St} {P : List Str}
end
end Go.Proofs.YtbllmpcpfmlemaaGreat
