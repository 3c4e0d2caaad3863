/- Texts of the elder seat, turned to this one: W37. -/
import Derived.Test.YtbllmpcpfmlemaaGreatMQ
import Derived.Test.YtbllmpcpfmlemaaGreatBits
namespace Go.Proofs.YtbllmpcpfmlemaaGreat
open Go.RowKit
theorem and_15 (n : Int) : bits .and .i64 n 15 = n % 16 := and_mask n 4 (by omega)
/-- The operation's numbers are in range; its strings are of the pool. -/
structure OkO (P : List Str) (x : Opn) : Prop where
  dw : I64 x.dw
  who : I64 x.who
  n : I64 x.n
  kd : I64 x.r.kind
  p : ∀ k ∈ pool x, k ∈ P
  v : x.val.length ≤ 100
theorem OkO.k {P : List Str} {x : Opn} (h : OkO P x) : x.key ∈ P := h.p _ (by simp [pool])
theorem OkO.rk {P : List Str} {x : Opn} (h : OkO P x) : x.r.key ∈ P := h.p _ (by simp [pool])
/-- What do's contract says. -/
def DoQ (w : World) (c : Nat) (F G : List Nat) (C : St) (x : Opn) (e : Ending) (w' : World) : Prop :=
  ∃ v, e = .returned (.tuple #[sv (doP C x).1.1, v, .int .i64 (doP C x).1.2.2]) ∧ w'.ownsRow 0 9 1 v (doP C x).1.2.1.length (vs (doP C x).1.2.1) ∧ (∀ g ∈ fp v, w.heap.size ≤ g) ∧ Turned w w' c F G (doP C x).2
set_option maxRecDepth 100000 in
set_option maxHeartbeats 3200000 in
theorem do0_any {w : World} {c : Nat} {F G : List Nat} {C : St} {P : List Str} (h : Cs w c F G C) (hW : WF P C) (hP : PoolOk P) (hl : C.length ≤ 1000000) (hlg : lgSize C ≤ 400000000) (x : Opn) (hx : OkO P x) (A : Option Addr) (cc : Nat) (hA : AtS w A x.r.list) (hk : bits .and .i64 x.dw 15 = 0) :
    Calls Tryz.prog 11 #[.pointer (some ⟨c, 0, none⟩), .agg #[.int .i64 x.dw, .int .i64 x.who, .int .i64 x.n, sv x.key, sv x.val, .int .i64 x.r.kind, sv x.r.key, sv x.r.val, .slice A x.r.list.length cc]] w (DoQ w c F G C x) := by
  have ka : Keeps [] w (w.alloc (.cells #[.int .i64 x.dw, .int .i64 x.who, .int .i64 x.n, sv x.key, sv x.val, .int .i64 x.r.kind, sv x.r.key, sv x.r.val, .slice A x.r.list.length cc] 36)) := (Keeps.refl _ _).alloc _
  have b0 : Hid (Blk (w.alloc (.cells #[.int .i64 x.dw, .int .i64 x.who, .int .i64 x.n, sv x.key, sv x.val, .int .i64 x.r.kind, sv x.r.key, sv x.r.val, .slice A x.r.list.length cc] 36)) w.heap.size 36 #[.int .i64 x.dw, .int .i64 x.who, .int .i64 x.n, sv x.key, sv x.val, .int .i64 x.r.kind, sv x.r.key, sv x.r.val, .slice A x.r.list.length cc]) := Lib.hid (Blk.new w 36 _)
  have h1 := h.keep0 ka
  have _u1 := hl
  have _u2 := hlg
  have _u3 := hP
  have _u4 := hW
  have KA := Lib.hid ka
  have KD : doing x = 0 := by unfold doing; rw [← and_15]; exact hk
  have E0 : Hid (doP C x = (([], [], 0), putP C x.who x.key x.val)) := Lib.hid (by
    unfold doP
    rw [if_pos (by omega)])
  have HA := Lib.hid (hA.keep ka)
  have HC := Lib.hid (putOp_any h1 hW hP hx.who x.key x.val hx.k)
  clear _u1 _u2 _u3 _u4 h h1 ka hW hP hA hl hlg hx KD
  go_enter Tryz.func11, Tryz.ntmps11
  have c0 : (w.alloc (.cells #[.int .i64 x.dw, .int .i64 x.who, .int .i64 x.n, sv x.key, sv x.val, .int .i64 x.r.kind, sv x.r.key, sv x.r.val, .slice A x.r.list.length cc] 36)).cell? ⟨w.heap.size, 0, none⟩ = some (.int .i64 x.dw) := b0.out.cell 0
  have c1 : (w.alloc (.cells #[.int .i64 x.dw, .int .i64 x.who, .int .i64 x.n, sv x.key, sv x.val, .int .i64 x.r.kind, sv x.r.key, sv x.r.val, .slice A x.r.list.length cc] 36)).cell? ⟨w.heap.size, 1, none⟩ = some (.int .i64 x.who) := b0.out.cell 1
  have c2 : (w.alloc (.cells #[.int .i64 x.dw, .int .i64 x.who, .int .i64 x.n, sv x.key, sv x.val, .int .i64 x.r.kind, sv x.r.key, sv x.r.val, .slice A x.r.list.length cc] 36)).cell? ⟨w.heap.size, 2, none⟩ = some (.int .i64 x.n) := b0.out.cell 2
  have c3 : (w.alloc (.cells #[.int .i64 x.dw, .int .i64 x.who, .int .i64 x.n, sv x.key, sv x.val, .int .i64 x.r.kind, sv x.r.key, sv x.r.val, .slice A x.r.list.length cc] 36)).cell? ⟨w.heap.size, 3, none⟩ = some (sv x.key) := b0.out.cell 3
  have c4 : (w.alloc (.cells #[.int .i64 x.dw, .int .i64 x.who, .int .i64 x.n, sv x.key, sv x.val, .int .i64 x.r.kind, sv x.r.key, sv x.r.val, .slice A x.r.list.length cc] 36)).cell? ⟨w.heap.size, 4, none⟩ = some (sv x.val) := b0.out.cell 4
  have c5 : (w.alloc (.cells #[.int .i64 x.dw, .int .i64 x.who, .int .i64 x.n, sv x.key, sv x.val, .int .i64 x.r.kind, sv x.r.key, sv x.r.val, .slice A x.r.list.length cc] 36)).cell? ⟨w.heap.size, 5, none⟩ = some (.int .i64 x.r.kind) := b0.out.cell 5
  have c6 : (w.alloc (.cells #[.int .i64 x.dw, .int .i64 x.who, .int .i64 x.n, sv x.key, sv x.val, .int .i64 x.r.kind, sv x.r.key, sv x.r.val, .slice A x.r.list.length cc] 36)).cell? ⟨w.heap.size, 6, none⟩ = some (sv x.r.key) := b0.out.cell 6
  have c7 : (w.alloc (.cells #[.int .i64 x.dw, .int .i64 x.who, .int .i64 x.n, sv x.key, sv x.val, .int .i64 x.r.kind, sv x.r.key, sv x.r.val, .slice A x.r.list.length cc] 36)).cell? ⟨w.heap.size, 7, none⟩ = some (sv x.r.val) := b0.out.cell 7
  have c8 : (w.alloc (.cells #[.int .i64 x.dw, .int .i64 x.who, .int .i64 x.n, sv x.key, sv x.val, .int .i64 x.r.kind, sv x.r.key, sv x.r.val, .slice A x.r.list.length cc] 36)).cell? ⟨w.heap.size, 8, none⟩ = some (.slice A x.r.list.length cc) := b0.out.cell 8
  go_wp2_with fail
  refine HC.out.mono ?_
  rintro e w1 ⟨rfl, ht⟩
  have HT := Lib.hid (ht.before KA.out)
  clear ht
  clear HC c0 c1 c2 c3 c4 c5 c6 c7 c8
  go_wp2_with fail
  go_ret3
  unfold DoQ
  rw [E0.out]
  exact ⟨_, rfl, World.ownsRow_nil _ _ _ _, by simp, HT.out⟩
set_option maxRecDepth 100000 in
set_option maxHeartbeats 3200000 in
theorem do1_any {w : World} {c : Nat} {F G : List Nat} {C : St} {P : List Str} (h : Cs w c F G C) (hW : WF P C) (hP : PoolOk P) (hl : C.length ≤ 1000000) (hlg : lgSize C ≤ 400000000) (x : Opn) (hx : OkO P x) (A : Option Addr) (cc : Nat) (hA : AtS w A x.r.list) (hk : bits .and .i64 x.dw 15 = 1) :
    Calls Tryz.prog 11 #[.pointer (some ⟨c, 0, none⟩), .agg #[.int .i64 x.dw, .int .i64 x.who, .int .i64 x.n, sv x.key, sv x.val, .int .i64 x.r.kind, sv x.r.key, sv x.r.val, .slice A x.r.list.length cc]] w (DoQ w c F G C x) := by
  have ka : Keeps [] w (w.alloc (.cells #[.int .i64 x.dw, .int .i64 x.who, .int .i64 x.n, sv x.key, sv x.val, .int .i64 x.r.kind, sv x.r.key, sv x.r.val, .slice A x.r.list.length cc] 36)) := (Keeps.refl _ _).alloc _
  have b0 : Hid (Blk (w.alloc (.cells #[.int .i64 x.dw, .int .i64 x.who, .int .i64 x.n, sv x.key, sv x.val, .int .i64 x.r.kind, sv x.r.key, sv x.r.val, .slice A x.r.list.length cc] 36)) w.heap.size 36 #[.int .i64 x.dw, .int .i64 x.who, .int .i64 x.n, sv x.key, sv x.val, .int .i64 x.r.kind, sv x.r.key, sv x.r.val, .slice A x.r.list.length cc]) := Lib.hid (Blk.new w 36 _)
  have h1 := h.keep0 ka
  have _u1 := hl
  have _u2 := hlg
  have _u3 := hP
  have _u4 := hW
  have KA := Lib.hid ka
  have KD : doing x = 1 := by unfold doing; rw [← and_15]; exact hk
  have E0 : Hid (doP C x = (([], [], 0), putP C x.who x.key x.val)) := Lib.hid (by
    unfold doP
    rw [if_pos (by omega)])
  have HA := Lib.hid (hA.keep ka)
  have HC := Lib.hid (putOp_any h1 hW hP hx.who x.key x.val hx.k)
  clear _u1 _u2 _u3 _u4 h h1 ka hW hP hA hl hlg hx KD
  go_enter Tryz.func11, Tryz.ntmps11
  have c0 : (w.alloc (.cells #[.int .i64 x.dw, .int .i64 x.who, .int .i64 x.n, sv x.key, sv x.val, .int .i64 x.r.kind, sv x.r.key, sv x.r.val, .slice A x.r.list.length cc] 36)).cell? ⟨w.heap.size, 0, none⟩ = some (.int .i64 x.dw) := b0.out.cell 0
  have c1 : (w.alloc (.cells #[.int .i64 x.dw, .int .i64 x.who, .int .i64 x.n, sv x.key, sv x.val, .int .i64 x.r.kind, sv x.r.key, sv x.r.val, .slice A x.r.list.length cc] 36)).cell? ⟨w.heap.size, 1, none⟩ = some (.int .i64 x.who) := b0.out.cell 1
  have c2 : (w.alloc (.cells #[.int .i64 x.dw, .int .i64 x.who, .int .i64 x.n, sv x.key, sv x.val, .int .i64 x.r.kind, sv x.r.key, sv x.r.val, .slice A x.r.list.length cc] 36)).cell? ⟨w.heap.size, 2, none⟩ = some (.int .i64 x.n) := b0.out.cell 2
  have c3 : (w.alloc (.cells #[.int .i64 x.dw, .int .i64 x.who, .int .i64 x.n, sv x.key, sv x.val, .int .i64 x.r.kind, sv x.r.key, sv x.r.val, .slice A x.r.list.length cc] 36)).cell? ⟨w.heap.size, 3, none⟩ = some (sv x.key) := b0.out.cell 3
  have c4 : (w.alloc (.cells #[.int .i64 x.dw, .int .i64 x.who, .int .i64 x.n, sv x.key, sv x.val, .int .i64 x.r.kind, sv x.r.key, sv x.r.val, .slice A x.r.list.length cc] 36)).cell? ⟨w.heap.size, 4, none⟩ = some (sv x.val) := b0.out.cell 4
  have c5 : (w.alloc (.cells #[.int .i64 x.dw, .int .i64 x.who, .int .i64 x.n, sv x.key, sv x.val, .int .i64 x.r.kind, sv x.r.key, sv x.r.val, .slice A x.r.list.length cc] 36)).cell? ⟨w.heap.size, 5, none⟩ = some (.int .i64 x.r.kind) := b0.out.cell 5
  have c6 : (w.alloc (.cells #[.int .i64 x.dw, .int .i64 x.who, .int .i64 x.n, sv x.key, sv x.val, .int .i64 x.r.kind, sv x.r.key, sv x.r.val, .slice A x.r.list.length cc] 36)).cell? ⟨w.heap.size, 6, none⟩ = some (sv x.r.key) := b0.out.cell 6
  have c7 : (w.alloc (.cells #[.int .i64 x.dw, .int .i64 x.who, .int .i64 x.n, sv x.key, sv x.val, .int .i64 x.r.kind, sv x.r.key, sv x.r.val, .slice A x.r.list.length cc] 36)).cell? ⟨w.heap.size, 7, none⟩ = some (sv x.r.val) := b0.out.cell 7
  have c8 : (w.alloc (.cells #[.int .i64 x.dw, .int .i64 x.who, .int .i64 x.n, sv x.key, sv x.val, .int .i64 x.r.kind, sv x.r.key, sv x.r.val, .slice A x.r.list.length cc] 36)).cell? ⟨w.heap.size, 8, none⟩ = some (.slice A x.r.list.length cc) := b0.out.cell 8
  go_wp2_with fail
  refine HC.out.mono ?_
  rintro e w1 ⟨rfl, ht⟩
  have HT := Lib.hid (ht.before KA.out)
  clear ht
  clear HC c0 c1 c2 c3 c4 c5 c6 c7 c8
  go_wp2_with fail
  go_ret3
  unfold DoQ
  rw [E0.out]
  exact ⟨_, rfl, World.ownsRow_nil _ _ _ _, by simp, HT.out⟩
set_option maxRecDepth 100000 in
set_option maxHeartbeats 3200000 in
theorem do2_any {w : World} {c : Nat} {F G : List Nat} {C : St} {P : List Str} (h : Cs w c F G C) (hW : WF P C) (hP : PoolOk P) (hl : C.length ≤ 1000000) (hlg : lgSize C ≤ 400000000) (x : Opn) (hx : OkO P x) (A : Option Addr) (cc : Nat) (hA : AtS w A x.r.list) (hk : bits .and .i64 x.dw 15 = 2) :
    Calls Tryz.prog 11 #[.pointer (some ⟨c, 0, none⟩), .agg #[.int .i64 x.dw, .int .i64 x.who, .int .i64 x.n, sv x.key, sv x.val, .int .i64 x.r.kind, sv x.r.key, sv x.r.val, .slice A x.r.list.length cc]] w (DoQ w c F G C x) := by
  have ka : Keeps [] w (w.alloc (.cells #[.int .i64 x.dw, .int .i64 x.who, .int .i64 x.n, sv x.key, sv x.val, .int .i64 x.r.kind, sv x.r.key, sv x.r.val, .slice A x.r.list.length cc] 36)) := (Keeps.refl _ _).alloc _
  have b0 : Hid (Blk (w.alloc (.cells #[.int .i64 x.dw, .int .i64 x.who, .int .i64 x.n, sv x.key, sv x.val, .int .i64 x.r.kind, sv x.r.key, sv x.r.val, .slice A x.r.list.length cc] 36)) w.heap.size 36 #[.int .i64 x.dw, .int .i64 x.who, .int .i64 x.n, sv x.key, sv x.val, .int .i64 x.r.kind, sv x.r.key, sv x.r.val, .slice A x.r.list.length cc]) := Lib.hid (Blk.new w 36 _)
  have h1 := h.keep0 ka
  have _u1 := hl
  have _u2 := hlg
  have _u3 := hP
  have _u4 := hW
  have KA := Lib.hid ka
  have KD : doing x = 2 := by unfold doing; rw [← and_15]; exact hk
  have E0 : Hid (doP C x = (([], [], 0), putP C x.who x.key x.val)) := Lib.hid (by
    unfold doP
    rw [if_pos (by omega)])
  have HA := Lib.hid (hA.keep ka)
  have HC := Lib.hid (putOp_any h1 hW hP hx.who x.key x.val hx.k)
  clear _u1 _u2 _u3 _u4 h h1 ka hW hP hA hl hlg hx KD
  go_enter Tryz.func11, Tryz.ntmps11
  have c0 : (w.alloc (.cells #[.int .i64 x.dw, .int .i64 x.who, .int .i64 x.n, sv x.key, sv x.val, .int .i64 x.r.kind, sv x.r.key, sv x.r.val, .slice A x.r.list.length cc] 36)).cell? ⟨w.heap.size, 0, none⟩ = some (.int .i64 x.dw) := b0.out.cell 0
  have c1 : (w.alloc (.cells #[.int .i64 x.dw, .int .i64 x.who, .int .i64 x.n, sv x.key, sv x.val, .int .i64 x.r.kind, sv x.r.key, sv x.r.val, .slice A x.r.list.length cc] 36)).cell? ⟨w.heap.size, 1, none⟩ = some (.int .i64 x.who) := b0.out.cell 1
  have c2 : (w.alloc (.cells #[.int .i64 x.dw, .int .i64 x.who, .int .i64 x.n, sv x.key, sv x.val, .int .i64 x.r.kind, sv x.r.key, sv x.r.val, .slice A x.r.list.length cc] 36)).cell? ⟨w.heap.size, 2, none⟩ = some (.int .i64 x.n) := b0.out.cell 2
  have c3 : (w.alloc (.cells #[.int .i64 x.dw, .int .i64 x.who, .int .i64 x.n, sv x.key, sv x.val, .int .i64 x.r.kind, sv x.r.key, sv x.r.val, .slice A x.r.list.length cc] 36)).cell? ⟨w.heap.size, 3, none⟩ = some (sv x.key) := b0.out.cell 3
  have c4 : (w.alloc (.cells #[.int .i64 x.dw, .int .i64 x.who, .int .i64 x.n, sv x.key, sv x.val, .int .i64 x.r.kind, sv x.r.key, sv x.r.val, .slice A x.r.list.length cc] 36)).cell? ⟨w.heap.size, 4, none⟩ = some (sv x.val) := b0.out.cell 4
  have c5 : (w.alloc (.cells #[.int .i64 x.dw, .int .i64 x.who, .int .i64 x.n, sv x.key, sv x.val, .int .i64 x.r.kind, sv x.r.key, sv x.r.val, .slice A x.r.list.length cc] 36)).cell? ⟨w.heap.size, 5, none⟩ = some (.int .i64 x.r.kind) := b0.out.cell 5
  have c6 : (w.alloc (.cells #[.int .i64 x.dw, .int .i64 x.who, .int .i64 x.n, sv x.key, sv x.val, .int .i64 x.r.kind, sv x.r.key, sv x.r.val, .slice A x.r.list.length cc] 36)).cell? ⟨w.heap.size, 6, none⟩ = some (sv x.r.key) := b0.out.cell 6
  have c7 : (w.alloc (.cells #[.int .i64 x.dw, .int .i64 x.who, .int .i64 x.n, sv x.key, sv x.val, .int .i64 x.r.kind, sv x.r.key, sv x.r.val, .slice A x.r.list.length cc] 36)).cell? ⟨w.heap.size, 7, none⟩ = some (sv x.r.val) := b0.out.cell 7
  have c8 : (w.alloc (.cells #[.int .i64 x.dw, .int .i64 x.who, .int .i64 x.n, sv x.key, sv x.val, .int .i64 x.r.kind, sv x.r.key, sv x.r.val, .slice A x.r.list.length cc] 36)).cell? ⟨w.heap.size, 8, none⟩ = some (.slice A x.r.list.length cc) := b0.out.cell 8
  go_wp2_with fail
  refine HC.out.mono ?_
  rintro e w1 ⟨rfl, ht⟩
  have HT := Lib.hid (ht.before KA.out)
  clear ht
  clear HC c0 c1 c2 c3 c4 c5 c6 c7 c8
  go_wp2_with fail
  go_ret3
  unfold DoQ
  rw [E0.out]
  exact ⟨_, rfl, World.ownsRow_nil _ _ _ _, by simp, HT.out⟩
set_option maxRecDepth 100000 in
set_option maxHeartbeats 3200000 in
theorem do3_any {w : World} {c : Nat} {F G : List Nat} {C : St} {P : List Str} (h : Cs w c F G C) (hW : WF P C) (hP : PoolOk P) (hl : C.length ≤ 1000000) (hlg : lgSize C ≤ 400000000) (x : Opn) (hx : OkO P x) (A : Option Addr) (cc : Nat) (hA : AtS w A x.r.list) (hk : bits .and .i64 x.dw 15 = 3) :
    Calls Tryz.prog 11 #[.pointer (some ⟨c, 0, none⟩), .agg #[.int .i64 x.dw, .int .i64 x.who, .int .i64 x.n, sv x.key, sv x.val, .int .i64 x.r.kind, sv x.r.key, sv x.r.val, .slice A x.r.list.length cc]] w (DoQ w c F G C x) := by
  have ka : Keeps [] w (w.alloc (.cells #[.int .i64 x.dw, .int .i64 x.who, .int .i64 x.n, sv x.key, sv x.val, .int .i64 x.r.kind, sv x.r.key, sv x.r.val, .slice A x.r.list.length cc] 36)) := (Keeps.refl _ _).alloc _
  have b0 : Hid (Blk (w.alloc (.cells #[.int .i64 x.dw, .int .i64 x.who, .int .i64 x.n, sv x.key, sv x.val, .int .i64 x.r.kind, sv x.r.key, sv x.r.val, .slice A x.r.list.length cc] 36)) w.heap.size 36 #[.int .i64 x.dw, .int .i64 x.who, .int .i64 x.n, sv x.key, sv x.val, .int .i64 x.r.kind, sv x.r.key, sv x.r.val, .slice A x.r.list.length cc]) := Lib.hid (Blk.new w 36 _)
  have h1 := h.keep0 ka
  have _u1 := hl
  have _u2 := hlg
  have _u3 := hP
  have _u4 := hW
  have KA := Lib.hid ka
  have KD : doing x = 3 := by unfold doing; rw [← and_15]; exact hk
  have E0 : Hid (doP C x = (([], [], 0), putP C x.who x.key x.val)) := Lib.hid (by
    unfold doP
    rw [if_pos (by omega)])
  have HA := Lib.hid (hA.keep ka)
  have HC := Lib.hid (putOp_any h1 hW hP hx.who x.key x.val hx.k)
  clear _u1 _u2 _u3 _u4 h h1 ka hW hP hA hl hlg hx KD
  go_enter Tryz.func11, Tryz.ntmps11
  have c0 : (w.alloc (.cells #[.int .i64 x.dw, .int .i64 x.who, .int .i64 x.n, sv x.key, sv x.val, .int .i64 x.r.kind, sv x.r.key, sv x.r.val, .slice A x.r.list.length cc] 36)).cell? ⟨w.heap.size, 0, none⟩ = some (.int .i64 x.dw) := b0.out.cell 0
  have c1 : (w.alloc (.cells #[.int .i64 x.dw, .int .i64 x.who, .int .i64 x.n, sv x.key, sv x.val, .int .i64 x.r.kind, sv x.r.key, sv x.r.val, .slice A x.r.list.length cc] 36)).cell? ⟨w.heap.size, 1, none⟩ = some (.int .i64 x.who) := b0.out.cell 1
  have c2 : (w.alloc (.cells #[.int .i64 x.dw, .int .i64 x.who, .int .i64 x.n, sv x.key, sv x.val, .int .i64 x.r.kind, sv x.r.key, sv x.r.val, .slice A x.r.list.length cc] 36)).cell? ⟨w.heap.size, 2, none⟩ = some (.int .i64 x.n) := b0.out.cell 2
  have c3 : (w.alloc (.cells #[.int .i64 x.dw, .int .i64 x.who, .int .i64 x.n, sv x.key, sv x.val, .int .i64 x.r.kind, sv x.r.key, sv x.r.val, .slice A x.r.list.length cc] 36)).cell? ⟨w.heap.size, 3, none⟩ = some (sv x.key) := b0.out.cell 3
  have c4 : (w.alloc (.cells #[.int .i64 x.dw, .int .i64 x.who, .int .i64 x.n, sv x.key, sv x.val, .int .i64 x.r.kind, sv x.r.key, sv x.r.val, .slice A x.r.list.length cc] 36)).cell? ⟨w.heap.size, 4, none⟩ = some (sv x.val) := b0.out.cell 4
  have c5 : (w.alloc (.cells #[.int .i64 x.dw, .int .i64 x.who, .int .i64 x.n, sv x.key, sv x.val, .int .i64 x.r.kind, sv x.r.key, sv x.r.val, .slice A x.r.list.length cc] 36)).cell? ⟨w.heap.size, 5, none⟩ = some (.int .i64 x.r.kind) := b0.out.cell 5
  have c6 : (w.alloc (.cells #[.int .i64 x.dw, .int .i64 x.who, .int .i64 x.n, sv x.key, sv x.val, .int .i64 x.r.kind, sv x.r.key, sv x.r.val, .slice A x.r.list.length cc] 36)).cell? ⟨w.heap.size, 6, none⟩ = some (sv x.r.key) := b0.out.cell 6
  have c7 : (w.alloc (.cells #[.int .i64 x.dw, .int .i64 x.who, .int .i64 x.n, sv x.key, sv x.val, .int .i64 x.r.kind, sv x.r.key, sv x.r.val, .slice A x.r.list.length cc] 36)).cell? ⟨w.heap.size, 7, none⟩ = some (sv x.r.val) := b0.out.cell 7
  have c8 : (w.alloc (.cells #[.int .i64 x.dw, .int .i64 x.who, .int .i64 x.n, sv x.key, sv x.val, .int .i64 x.r.kind, sv x.r.key, sv x.r.val, .slice A x.r.list.length cc] 36)).cell? ⟨w.heap.size, 8, none⟩ = some (.slice A x.r.list.length cc) := b0.out.cell 8
  go_wp2_with fail
  refine HC.out.mono ?_
  rintro e w1 ⟨rfl, ht⟩
  have HT := Lib.hid (ht.before KA.out)
  clear ht
  clear HC c0 c1 c2 c3 c4 c5 c6 c7 c8
  go_wp2_with fail
  go_ret3
  unfold DoQ
  rw [E0.out]
  exact ⟨_, rfl, World.ownsRow_nil _ _ _ _, by simp, HT.out⟩
set_option maxRecDepth 100000 in
set_option maxHeartbeats 3200000 in
theorem do4_any {w : World} {c : Nat} {F G : List Nat} {C : St} {P : List Str} (h : Cs w c F G C) (hW : WF P C) (hP : PoolOk P) (hl : C.length ≤ 1000000) (hlg : lgSize C ≤ 400000000) (x : Opn) (hx : OkO P x) (A : Option Addr) (cc : Nat) (hA : AtS w A x.r.list) (hk : bits .and .i64 x.dw 15 = 4) :
    Calls Tryz.prog 11 #[.pointer (some ⟨c, 0, none⟩), .agg #[.int .i64 x.dw, .int .i64 x.who, .int .i64 x.n, sv x.key, sv x.val, .int .i64 x.r.kind, sv x.r.key, sv x.r.val, .slice A x.r.list.length cc]] w (DoQ w c F G C x) := by
  have ka : Keeps [] w (w.alloc (.cells #[.int .i64 x.dw, .int .i64 x.who, .int .i64 x.n, sv x.key, sv x.val, .int .i64 x.r.kind, sv x.r.key, sv x.r.val, .slice A x.r.list.length cc] 36)) := (Keeps.refl _ _).alloc _
  have b0 : Hid (Blk (w.alloc (.cells #[.int .i64 x.dw, .int .i64 x.who, .int .i64 x.n, sv x.key, sv x.val, .int .i64 x.r.kind, sv x.r.key, sv x.r.val, .slice A x.r.list.length cc] 36)) w.heap.size 36 #[.int .i64 x.dw, .int .i64 x.who, .int .i64 x.n, sv x.key, sv x.val, .int .i64 x.r.kind, sv x.r.key, sv x.r.val, .slice A x.r.list.length cc]) := Lib.hid (Blk.new w 36 _)
  have h1 := h.keep0 ka
  have _u1 := hl
  have _u2 := hlg
  have _u3 := hP
  have _u4 := hW
  have KA := Lib.hid ka
  have KD : doing x = 4 := by unfold doing; rw [← and_15]; exact hk
  have E0 : Hid (doP C x = ((sees (askP C x.who x.key) x.who x.key, [], 0), askP C x.who x.key)) := Lib.hid (by
    unfold doP
    rw [if_neg (by omega), if_neg (by omega), if_neg (by omega), if_neg (by omega), if_neg (by omega), if_neg (by omega), if_neg (by omega), if_neg (by omega)])
  have HA := Lib.hid (hA.keep ka)
  have HC := Lib.hid (get_any h1 hW hP hx.who x.key hx.k)
  clear _u1 _u2 _u3 _u4 h h1 ka hW hP hA hl hlg hx KD
  go_enter Tryz.func11, Tryz.ntmps11
  have c0 : (w.alloc (.cells #[.int .i64 x.dw, .int .i64 x.who, .int .i64 x.n, sv x.key, sv x.val, .int .i64 x.r.kind, sv x.r.key, sv x.r.val, .slice A x.r.list.length cc] 36)).cell? ⟨w.heap.size, 0, none⟩ = some (.int .i64 x.dw) := b0.out.cell 0
  have c1 : (w.alloc (.cells #[.int .i64 x.dw, .int .i64 x.who, .int .i64 x.n, sv x.key, sv x.val, .int .i64 x.r.kind, sv x.r.key, sv x.r.val, .slice A x.r.list.length cc] 36)).cell? ⟨w.heap.size, 1, none⟩ = some (.int .i64 x.who) := b0.out.cell 1
  have c2 : (w.alloc (.cells #[.int .i64 x.dw, .int .i64 x.who, .int .i64 x.n, sv x.key, sv x.val, .int .i64 x.r.kind, sv x.r.key, sv x.r.val, .slice A x.r.list.length cc] 36)).cell? ⟨w.heap.size, 2, none⟩ = some (.int .i64 x.n) := b0.out.cell 2
  have c3 : (w.alloc (.cells #[.int .i64 x.dw, .int .i64 x.who, .int .i64 x.n, sv x.key, sv x.val, .int .i64 x.r.kind, sv x.r.key, sv x.r.val, .slice A x.r.list.length cc] 36)).cell? ⟨w.heap.size, 3, none⟩ = some (sv x.key) := b0.out.cell 3
  have c4 : (w.alloc (.cells #[.int .i64 x.dw, .int .i64 x.who, .int .i64 x.n, sv x.key, sv x.val, .int .i64 x.r.kind, sv x.r.key, sv x.r.val, .slice A x.r.list.length cc] 36)).cell? ⟨w.heap.size, 4, none⟩ = some (sv x.val) := b0.out.cell 4
  have c5 : (w.alloc (.cells #[.int .i64 x.dw, .int .i64 x.who, .int .i64 x.n, sv x.key, sv x.val, .int .i64 x.r.kind, sv x.r.key, sv x.r.val, .slice A x.r.list.length cc] 36)).cell? ⟨w.heap.size, 5, none⟩ = some (.int .i64 x.r.kind) := b0.out.cell 5
  have c6 : (w.alloc (.cells #[.int .i64 x.dw, .int .i64 x.who, .int .i64 x.n, sv x.key, sv x.val, .int .i64 x.r.kind, sv x.r.key, sv x.r.val, .slice A x.r.list.length cc] 36)).cell? ⟨w.heap.size, 6, none⟩ = some (sv x.r.key) := b0.out.cell 6
  have c7 : (w.alloc (.cells #[.int .i64 x.dw, .int .i64 x.who, .int .i64 x.n, sv x.key, sv x.val, .int .i64 x.r.kind, sv x.r.key, sv x.r.val, .slice A x.r.list.length cc] 36)).cell? ⟨w.heap.size, 7, none⟩ = some (sv x.r.val) := b0.out.cell 7
  have c8 : (w.alloc (.cells #[.int .i64 x.dw, .int .i64 x.who, .int .i64 x.n, sv x.key, sv x.val, .int .i64 x.r.kind, sv x.r.key, sv x.r.val, .slice A x.r.list.length cc] 36)).cell? ⟨w.heap.size, 8, none⟩ = some (.slice A x.r.list.length cc) := b0.out.cell 8
  go_wp2_with fail
  refine HC.out.mono ?_
  rintro e w1 ⟨rfl, ht⟩
  have HT := Lib.hid (ht.before KA.out)
  clear ht
  clear HC c0 c1 c2 c3 c4 c5 c6 c7 c8
  go_wp2_with fail
  go_ret3
  unfold DoQ
  rw [E0.out]
  exact ⟨_, rfl, World.ownsRow_nil _ _ _ _, by simp, HT.out⟩
set_option maxRecDepth 100000 in
set_option maxHeartbeats 3200000 in
theorem do5_any {w : World} {c : Nat} {F G : List Nat} {C : St} {P : List Str} (h : Cs w c F G C) (hW : WF P C) (hP : PoolOk P) (hl : C.length ≤ 1000000) (hlg : lgSize C ≤ 400000000) (x : Opn) (hx : OkO P x) (A : Option Addr) (cc : Nat) (hA : AtS w A x.r.list) (hk : bits .and .i64 x.dw 15 = 5) :
    Calls Tryz.prog 11 #[.pointer (some ⟨c, 0, none⟩), .agg #[.int .i64 x.dw, .int .i64 x.who, .int .i64 x.n, sv x.key, sv x.val, .int .i64 x.r.kind, sv x.r.key, sv x.r.val, .slice A x.r.list.length cc]] w (DoQ w c F G C x) := by
  have ka : Keeps [] w (w.alloc (.cells #[.int .i64 x.dw, .int .i64 x.who, .int .i64 x.n, sv x.key, sv x.val, .int .i64 x.r.kind, sv x.r.key, sv x.r.val, .slice A x.r.list.length cc] 36)) := (Keeps.refl _ _).alloc _
  have b0 : Hid (Blk (w.alloc (.cells #[.int .i64 x.dw, .int .i64 x.who, .int .i64 x.n, sv x.key, sv x.val, .int .i64 x.r.kind, sv x.r.key, sv x.r.val, .slice A x.r.list.length cc] 36)) w.heap.size 36 #[.int .i64 x.dw, .int .i64 x.who, .int .i64 x.n, sv x.key, sv x.val, .int .i64 x.r.kind, sv x.r.key, sv x.r.val, .slice A x.r.list.length cc]) := Lib.hid (Blk.new w 36 _)
  have h1 := h.keep0 ka
  have _u1 := hl
  have _u2 := hlg
  have _u3 := hP
  have _u4 := hW
  have KA := Lib.hid ka
  have KD : doing x = 5 := by unfold doing; rw [← and_15]; exact hk
  have E0 : Hid (doP C x = ((sees (askP C x.who x.key) x.who x.key, [], 0), askP C x.who x.key)) := Lib.hid (by
    unfold doP
    rw [if_neg (by omega), if_neg (by omega), if_neg (by omega), if_neg (by omega), if_neg (by omega), if_neg (by omega), if_neg (by omega), if_neg (by omega)])
  have HA := Lib.hid (hA.keep ka)
  have HC := Lib.hid (get_any h1 hW hP hx.who x.key hx.k)
  clear _u1 _u2 _u3 _u4 h h1 ka hW hP hA hl hlg hx KD
  go_enter Tryz.func11, Tryz.ntmps11
  have c0 : (w.alloc (.cells #[.int .i64 x.dw, .int .i64 x.who, .int .i64 x.n, sv x.key, sv x.val, .int .i64 x.r.kind, sv x.r.key, sv x.r.val, .slice A x.r.list.length cc] 36)).cell? ⟨w.heap.size, 0, none⟩ = some (.int .i64 x.dw) := b0.out.cell 0
  have c1 : (w.alloc (.cells #[.int .i64 x.dw, .int .i64 x.who, .int .i64 x.n, sv x.key, sv x.val, .int .i64 x.r.kind, sv x.r.key, sv x.r.val, .slice A x.r.list.length cc] 36)).cell? ⟨w.heap.size, 1, none⟩ = some (.int .i64 x.who) := b0.out.cell 1
  have c2 : (w.alloc (.cells #[.int .i64 x.dw, .int .i64 x.who, .int .i64 x.n, sv x.key, sv x.val, .int .i64 x.r.kind, sv x.r.key, sv x.r.val, .slice A x.r.list.length cc] 36)).cell? ⟨w.heap.size, 2, none⟩ = some (.int .i64 x.n) := b0.out.cell 2
  have c3 : (w.alloc (.cells #[.int .i64 x.dw, .int .i64 x.who, .int .i64 x.n, sv x.key, sv x.val, .int .i64 x.r.kind, sv x.r.key, sv x.r.val, .slice A x.r.list.length cc] 36)).cell? ⟨w.heap.size, 3, none⟩ = some (sv x.key) := b0.out.cell 3
  have c4 : (w.alloc (.cells #[.int .i64 x.dw, .int .i64 x.who, .int .i64 x.n, sv x.key, sv x.val, .int .i64 x.r.kind, sv x.r.key, sv x.r.val, .slice A x.r.list.length cc] 36)).cell? ⟨w.heap.size, 4, none⟩ = some (sv x.val) := b0.out.cell 4
  have c5 : (w.alloc (.cells #[.int .i64 x.dw, .int .i64 x.who, .int .i64 x.n, sv x.key, sv x.val, .int .i64 x.r.kind, sv x.r.key, sv x.r.val, .slice A x.r.list.length cc] 36)).cell? ⟨w.heap.size, 5, none⟩ = some (.int .i64 x.r.kind) := b0.out.cell 5
  have c6 : (w.alloc (.cells #[.int .i64 x.dw, .int .i64 x.who, .int .i64 x.n, sv x.key, sv x.val, .int .i64 x.r.kind, sv x.r.key, sv x.r.val, .slice A x.r.list.length cc] 36)).cell? ⟨w.heap.size, 6, none⟩ = some (sv x.r.key) := b0.out.cell 6
  have c7 : (w.alloc (.cells #[.int .i64 x.dw, .int .i64 x.who, .int .i64 x.n, sv x.key, sv x.val, .int .i64 x.r.kind, sv x.r.key, sv x.r.val, .slice A x.r.list.length cc] 36)).cell? ⟨w.heap.size, 7, none⟩ = some (sv x.r.val) := b0.out.cell 7
  have c8 : (w.alloc (.cells #[.int .i64 x.dw, .int .i64 x.who, .int .i64 x.n, sv x.key, sv x.val, .int .i64 x.r.kind, sv x.r.key, sv x.r.val, .slice A x.r.list.length cc] 36)).cell? ⟨w.heap.size, 8, none⟩ = some (.slice A x.r.list.length cc) := b0.out.cell 8
  go_wp2_with fail
  refine HC.out.mono ?_
  rintro e w1 ⟨rfl, ht⟩
  have HT := Lib.hid (ht.before KA.out)
  clear ht
  clear HC c0 c1 c2 c3 c4 c5 c6 c7 c8
  go_wp2_with fail
  go_ret3
  unfold DoQ
  rw [E0.out]
  exact ⟨_, rfl, World.ownsRow_nil _ _ _ _, by simp, HT.out⟩
set_option maxRecDepth 100000 in
set_option maxHeartbeats 3200000 in
theorem do6_any {w : World} {c : Nat} {F G : List Nat} {C : St} {P : List Str} (h : Cs w c F G C) (hW : WF P C) (hP : PoolOk P) (hl : C.length ≤ 1000000) (hlg : lgSize C ≤ 400000000) (x : Opn) (hx : OkO P x) (A : Option Addr) (cc : Nat) (hA : AtS w A x.r.list) (hk : bits .and .i64 x.dw 15 = 6) :
    Calls Tryz.prog 11 #[.pointer (some ⟨c, 0, none⟩), .agg #[.int .i64 x.dw, .int .i64 x.who, .int .i64 x.n, sv x.key, sv x.val, .int .i64 x.r.kind, sv x.r.key, sv x.r.val, .slice A x.r.list.length cc]] w (DoQ w c F G C x) := by
  have ka : Keeps [] w (w.alloc (.cells #[.int .i64 x.dw, .int .i64 x.who, .int .i64 x.n, sv x.key, sv x.val, .int .i64 x.r.kind, sv x.r.key, sv x.r.val, .slice A x.r.list.length cc] 36)) := (Keeps.refl _ _).alloc _
  have b0 : Hid (Blk (w.alloc (.cells #[.int .i64 x.dw, .int .i64 x.who, .int .i64 x.n, sv x.key, sv x.val, .int .i64 x.r.kind, sv x.r.key, sv x.r.val, .slice A x.r.list.length cc] 36)) w.heap.size 36 #[.int .i64 x.dw, .int .i64 x.who, .int .i64 x.n, sv x.key, sv x.val, .int .i64 x.r.kind, sv x.r.key, sv x.r.val, .slice A x.r.list.length cc]) := Lib.hid (Blk.new w 36 _)
  have h1 := h.keep0 ka
  have _u1 := hl
  have _u2 := hlg
  have _u3 := hP
  have _u4 := hW
  have KA := Lib.hid ka
  have KD : doing x = 6 := by unfold doing; rw [← and_15]; exact hk
  have E0 : Hid (doP C x = (([], seesKeys (askKP C x.who x.key) x.who x.key, 0), askKP C x.who x.key)) := Lib.hid (by
    unfold doP
    rw [if_neg (by omega), if_pos (by omega)])
  have HA := Lib.hid (hA.keep ka)
  have HC := Lib.hid (keysOp_any h1 hW hP hx.who x.key hx.k)
  clear _u1 _u2 _u3 _u4 h h1 ka hW hP hA hl hlg hx KD
  go_enter Tryz.func11, Tryz.ntmps11
  have c0 : (w.alloc (.cells #[.int .i64 x.dw, .int .i64 x.who, .int .i64 x.n, sv x.key, sv x.val, .int .i64 x.r.kind, sv x.r.key, sv x.r.val, .slice A x.r.list.length cc] 36)).cell? ⟨w.heap.size, 0, none⟩ = some (.int .i64 x.dw) := b0.out.cell 0
  have c1 : (w.alloc (.cells #[.int .i64 x.dw, .int .i64 x.who, .int .i64 x.n, sv x.key, sv x.val, .int .i64 x.r.kind, sv x.r.key, sv x.r.val, .slice A x.r.list.length cc] 36)).cell? ⟨w.heap.size, 1, none⟩ = some (.int .i64 x.who) := b0.out.cell 1
  have c2 : (w.alloc (.cells #[.int .i64 x.dw, .int .i64 x.who, .int .i64 x.n, sv x.key, sv x.val, .int .i64 x.r.kind, sv x.r.key, sv x.r.val, .slice A x.r.list.length cc] 36)).cell? ⟨w.heap.size, 2, none⟩ = some (.int .i64 x.n) := b0.out.cell 2
  have c3 : (w.alloc (.cells #[.int .i64 x.dw, .int .i64 x.who, .int .i64 x.n, sv x.key, sv x.val, .int .i64 x.r.kind, sv x.r.key, sv x.r.val, .slice A x.r.list.length cc] 36)).cell? ⟨w.heap.size, 3, none⟩ = some (sv x.key) := b0.out.cell 3
  have c4 : (w.alloc (.cells #[.int .i64 x.dw, .int .i64 x.who, .int .i64 x.n, sv x.key, sv x.val, .int .i64 x.r.kind, sv x.r.key, sv x.r.val, .slice A x.r.list.length cc] 36)).cell? ⟨w.heap.size, 4, none⟩ = some (sv x.val) := b0.out.cell 4
  have c5 : (w.alloc (.cells #[.int .i64 x.dw, .int .i64 x.who, .int .i64 x.n, sv x.key, sv x.val, .int .i64 x.r.kind, sv x.r.key, sv x.r.val, .slice A x.r.list.length cc] 36)).cell? ⟨w.heap.size, 5, none⟩ = some (.int .i64 x.r.kind) := b0.out.cell 5
  have c6 : (w.alloc (.cells #[.int .i64 x.dw, .int .i64 x.who, .int .i64 x.n, sv x.key, sv x.val, .int .i64 x.r.kind, sv x.r.key, sv x.r.val, .slice A x.r.list.length cc] 36)).cell? ⟨w.heap.size, 6, none⟩ = some (sv x.r.key) := b0.out.cell 6
  have c7 : (w.alloc (.cells #[.int .i64 x.dw, .int .i64 x.who, .int .i64 x.n, sv x.key, sv x.val, .int .i64 x.r.kind, sv x.r.key, sv x.r.val, .slice A x.r.list.length cc] 36)).cell? ⟨w.heap.size, 7, none⟩ = some (sv x.r.val) := b0.out.cell 7
  have c8 : (w.alloc (.cells #[.int .i64 x.dw, .int .i64 x.who, .int .i64 x.n, sv x.key, sv x.val, .int .i64 x.r.kind, sv x.r.key, sv x.r.val, .slice A x.r.list.length cc] 36)).cell? ⟨w.heap.size, 8, none⟩ = some (.slice A x.r.list.length cc) := b0.out.cell 8
  go_wp2_with fail
  refine HC.out.mono ?_
  rintro e w1 ⟨v, rfl, o1, g1, ht⟩
  have O1 := Lib.hid o1
  have G1 : Hid (∀ g ∈ fp v, w.heap.size ≤ g) := Lib.hid (fun g hg => Nat.le_trans KA.out.size (g1 g hg))
  have HT := Lib.hid (ht.before KA.out)
  clear ht o1 g1
  clear HC c0 c1 c2 c3 c4 c5 c6 c7 c8
  go_wp2_with fail
  go_ret3
  unfold DoQ
  rw [E0.out]
  exact ⟨v, rfl, O1.out, G1.out, HT.out⟩
set_option maxRecDepth 100000 in
set_option maxHeartbeats 3200000 in
theorem do7_any {w : World} {c : Nat} {F G : List Nat} {C : St} {P : List Str} (h : Cs w c F G C) (hW : WF P C) (hP : PoolOk P) (hl : C.length ≤ 1000000) (hlg : lgSize C ≤ 400000000) (x : Opn) (hx : OkO P x) (A : Option Addr) (cc : Nat) (hA : AtS w A x.r.list) (hk : bits .and .i64 x.dw 15 = 7) :
    Calls Tryz.prog 11 #[.pointer (some ⟨c, 0, none⟩), .agg #[.int .i64 x.dw, .int .i64 x.who, .int .i64 x.n, sv x.key, sv x.val, .int .i64 x.r.kind, sv x.r.key, sv x.r.val, .slice A x.r.list.length cc]] w (DoQ w c F G C x) := by
  have ka : Keeps [] w (w.alloc (.cells #[.int .i64 x.dw, .int .i64 x.who, .int .i64 x.n, sv x.key, sv x.val, .int .i64 x.r.kind, sv x.r.key, sv x.r.val, .slice A x.r.list.length cc] 36)) := (Keeps.refl _ _).alloc _
  have b0 : Hid (Blk (w.alloc (.cells #[.int .i64 x.dw, .int .i64 x.who, .int .i64 x.n, sv x.key, sv x.val, .int .i64 x.r.kind, sv x.r.key, sv x.r.val, .slice A x.r.list.length cc] 36)) w.heap.size 36 #[.int .i64 x.dw, .int .i64 x.who, .int .i64 x.n, sv x.key, sv x.val, .int .i64 x.r.kind, sv x.r.key, sv x.r.val, .slice A x.r.list.length cc]) := Lib.hid (Blk.new w 36 _)
  have h1 := h.keep0 ka
  have _u1 := hl
  have _u2 := hlg
  have _u3 := hP
  have _u4 := hW
  have KA := Lib.hid ka
  have KD : doing x = 7 := by unfold doing; rw [← and_15]; exact hk
  have E0 : Hid (doP C x = (([], [], 0), if x.val = [] then C else logP C x.who x.key x.val)) := Lib.hid (by
    unfold doP
    rw [if_neg (by omega), if_neg (by omega), if_pos (by omega)])
  have HA := Lib.hid (hA.keep ka)
  have HC := Lib.hid (logOp_any h1 hW hP hx.who x.key x.val hx.k (by have := hx.v; omega))
  clear _u1 _u2 _u3 _u4 h h1 ka hW hP hA hl hlg hx KD
  go_enter Tryz.func11, Tryz.ntmps11
  have c0 : (w.alloc (.cells #[.int .i64 x.dw, .int .i64 x.who, .int .i64 x.n, sv x.key, sv x.val, .int .i64 x.r.kind, sv x.r.key, sv x.r.val, .slice A x.r.list.length cc] 36)).cell? ⟨w.heap.size, 0, none⟩ = some (.int .i64 x.dw) := b0.out.cell 0
  have c1 : (w.alloc (.cells #[.int .i64 x.dw, .int .i64 x.who, .int .i64 x.n, sv x.key, sv x.val, .int .i64 x.r.kind, sv x.r.key, sv x.r.val, .slice A x.r.list.length cc] 36)).cell? ⟨w.heap.size, 1, none⟩ = some (.int .i64 x.who) := b0.out.cell 1
  have c2 : (w.alloc (.cells #[.int .i64 x.dw, .int .i64 x.who, .int .i64 x.n, sv x.key, sv x.val, .int .i64 x.r.kind, sv x.r.key, sv x.r.val, .slice A x.r.list.length cc] 36)).cell? ⟨w.heap.size, 2, none⟩ = some (.int .i64 x.n) := b0.out.cell 2
  have c3 : (w.alloc (.cells #[.int .i64 x.dw, .int .i64 x.who, .int .i64 x.n, sv x.key, sv x.val, .int .i64 x.r.kind, sv x.r.key, sv x.r.val, .slice A x.r.list.length cc] 36)).cell? ⟨w.heap.size, 3, none⟩ = some (sv x.key) := b0.out.cell 3
  have c4 : (w.alloc (.cells #[.int .i64 x.dw, .int .i64 x.who, .int .i64 x.n, sv x.key, sv x.val, .int .i64 x.r.kind, sv x.r.key, sv x.r.val, .slice A x.r.list.length cc] 36)).cell? ⟨w.heap.size, 4, none⟩ = some (sv x.val) := b0.out.cell 4
  have c5 : (w.alloc (.cells #[.int .i64 x.dw, .int .i64 x.who, .int .i64 x.n, sv x.key, sv x.val, .int .i64 x.r.kind, sv x.r.key, sv x.r.val, .slice A x.r.list.length cc] 36)).cell? ⟨w.heap.size, 5, none⟩ = some (.int .i64 x.r.kind) := b0.out.cell 5
  have c6 : (w.alloc (.cells #[.int .i64 x.dw, .int .i64 x.who, .int .i64 x.n, sv x.key, sv x.val, .int .i64 x.r.kind, sv x.r.key, sv x.r.val, .slice A x.r.list.length cc] 36)).cell? ⟨w.heap.size, 6, none⟩ = some (sv x.r.key) := b0.out.cell 6
  have c7 : (w.alloc (.cells #[.int .i64 x.dw, .int .i64 x.who, .int .i64 x.n, sv x.key, sv x.val, .int .i64 x.r.kind, sv x.r.key, sv x.r.val, .slice A x.r.list.length cc] 36)).cell? ⟨w.heap.size, 7, none⟩ = some (sv x.r.val) := b0.out.cell 7
  have c8 : (w.alloc (.cells #[.int .i64 x.dw, .int .i64 x.who, .int .i64 x.n, sv x.key, sv x.val, .int .i64 x.r.kind, sv x.r.key, sv x.r.val, .slice A x.r.list.length cc] 36)).cell? ⟨w.heap.size, 8, none⟩ = some (.slice A x.r.list.length cc) := b0.out.cell 8
  go_wp2_with fail
  refine HC.out.mono ?_
  rintro e w1 ⟨rfl, ht⟩
  have HT := Lib.hid (ht.before KA.out)
  clear ht
  clear HC c0 c1 c2 c3 c4 c5 c6 c7 c8
  go_wp2_with fail
  go_ret3
  unfold DoQ
  rw [E0.out]
  exact ⟨_, rfl, World.ownsRow_nil _ _ _ _, by simp, HT.out⟩
set_option maxRecDepth 100000 in
set_option maxHeartbeats 3200000 in
theorem do8_any {w : World} {c : Nat} {F G : List Nat} {C : St} {P : List Str} (h : Cs w c F G C) (hW : WF P C) (hP : PoolOk P) (hl : C.length ≤ 1000000) (hlg : lgSize C ≤ 400000000) (x : Opn) (hx : OkO P x) (A : Option Addr) (cc : Nat) (hA : AtS w A x.r.list) (hk : bits .and .i64 x.dw 15 = 8) :
    Calls Tryz.prog 11 #[.pointer (some ⟨c, 0, none⟩), .agg #[.int .i64 x.dw, .int .i64 x.who, .int .i64 x.n, sv x.key, sv x.val, .int .i64 x.r.kind, sv x.r.key, sv x.r.val, .slice A x.r.list.length cc]] w (DoQ w c F G C x) := by
  have ka : Keeps [] w (w.alloc (.cells #[.int .i64 x.dw, .int .i64 x.who, .int .i64 x.n, sv x.key, sv x.val, .int .i64 x.r.kind, sv x.r.key, sv x.r.val, .slice A x.r.list.length cc] 36)) := (Keeps.refl _ _).alloc _
  have b0 : Hid (Blk (w.alloc (.cells #[.int .i64 x.dw, .int .i64 x.who, .int .i64 x.n, sv x.key, sv x.val, .int .i64 x.r.kind, sv x.r.key, sv x.r.val, .slice A x.r.list.length cc] 36)) w.heap.size 36 #[.int .i64 x.dw, .int .i64 x.who, .int .i64 x.n, sv x.key, sv x.val, .int .i64 x.r.kind, sv x.r.key, sv x.r.val, .slice A x.r.list.length cc]) := Lib.hid (Blk.new w 36 _)
  have h1 := h.keep0 ka
  have _u1 := hl
  have _u2 := hlg
  have _u3 := hP
  have _u4 := hW
  have KA := Lib.hid ka
  have KD : doing x = 8 := by unfold doing; rw [← and_15]; exact hk
  have E0 : Hid (doP C x = (([], [], (beginP C x.n x.who).1), (beginP C x.n x.who).2)) := Lib.hid (by
    unfold doP
    rw [if_neg (by omega), if_neg (by omega), if_neg (by omega), if_pos (by omega)])
  have HA := Lib.hid (hA.keep ka)
  have HC := Lib.hid (beginOp_any h1 hW.tree hl hx.n hx.who)
  clear _u1 _u2 _u3 _u4 h h1 ka hW hP hA hl hlg hx KD
  go_enter Tryz.func11, Tryz.ntmps11
  have c0 : (w.alloc (.cells #[.int .i64 x.dw, .int .i64 x.who, .int .i64 x.n, sv x.key, sv x.val, .int .i64 x.r.kind, sv x.r.key, sv x.r.val, .slice A x.r.list.length cc] 36)).cell? ⟨w.heap.size, 0, none⟩ = some (.int .i64 x.dw) := b0.out.cell 0
  have c1 : (w.alloc (.cells #[.int .i64 x.dw, .int .i64 x.who, .int .i64 x.n, sv x.key, sv x.val, .int .i64 x.r.kind, sv x.r.key, sv x.r.val, .slice A x.r.list.length cc] 36)).cell? ⟨w.heap.size, 1, none⟩ = some (.int .i64 x.who) := b0.out.cell 1
  have c2 : (w.alloc (.cells #[.int .i64 x.dw, .int .i64 x.who, .int .i64 x.n, sv x.key, sv x.val, .int .i64 x.r.kind, sv x.r.key, sv x.r.val, .slice A x.r.list.length cc] 36)).cell? ⟨w.heap.size, 2, none⟩ = some (.int .i64 x.n) := b0.out.cell 2
  have c3 : (w.alloc (.cells #[.int .i64 x.dw, .int .i64 x.who, .int .i64 x.n, sv x.key, sv x.val, .int .i64 x.r.kind, sv x.r.key, sv x.r.val, .slice A x.r.list.length cc] 36)).cell? ⟨w.heap.size, 3, none⟩ = some (sv x.key) := b0.out.cell 3
  have c4 : (w.alloc (.cells #[.int .i64 x.dw, .int .i64 x.who, .int .i64 x.n, sv x.key, sv x.val, .int .i64 x.r.kind, sv x.r.key, sv x.r.val, .slice A x.r.list.length cc] 36)).cell? ⟨w.heap.size, 4, none⟩ = some (sv x.val) := b0.out.cell 4
  have c5 : (w.alloc (.cells #[.int .i64 x.dw, .int .i64 x.who, .int .i64 x.n, sv x.key, sv x.val, .int .i64 x.r.kind, sv x.r.key, sv x.r.val, .slice A x.r.list.length cc] 36)).cell? ⟨w.heap.size, 5, none⟩ = some (.int .i64 x.r.kind) := b0.out.cell 5
  have c6 : (w.alloc (.cells #[.int .i64 x.dw, .int .i64 x.who, .int .i64 x.n, sv x.key, sv x.val, .int .i64 x.r.kind, sv x.r.key, sv x.r.val, .slice A x.r.list.length cc] 36)).cell? ⟨w.heap.size, 6, none⟩ = some (sv x.r.key) := b0.out.cell 6
  have c7 : (w.alloc (.cells #[.int .i64 x.dw, .int .i64 x.who, .int .i64 x.n, sv x.key, sv x.val, .int .i64 x.r.kind, sv x.r.key, sv x.r.val, .slice A x.r.list.length cc] 36)).cell? ⟨w.heap.size, 7, none⟩ = some (sv x.r.val) := b0.out.cell 7
  have c8 : (w.alloc (.cells #[.int .i64 x.dw, .int .i64 x.who, .int .i64 x.n, sv x.key, sv x.val, .int .i64 x.r.kind, sv x.r.key, sv x.r.val, .slice A x.r.list.length cc] 36)).cell? ⟨w.heap.size, 8, none⟩ = some (.slice A x.r.list.length cc) := b0.out.cell 8
  go_wp2_with fail
  refine HC.out.mono ?_
  rintro e w1 ⟨rfl, ht⟩
  have HT := Lib.hid (ht.before KA.out)
  clear ht
  clear HC c0 c1 c2 c3 c4 c5 c6 c7 c8
  go_wp2_with fail
  go_ret3
  unfold DoQ
  rw [E0.out]
  exact ⟨_, rfl, World.ownsRow_nil _ _ _ _, by simp, HT.out⟩
set_option maxRecDepth 100000 in
set_option maxHeartbeats 3200000 in
theorem do9_any {w : World} {c : Nat} {F G : List Nat} {C : St} {P : List Str} (h : Cs w c F G C) (hW : WF P C) (hP : PoolOk P) (hl : C.length ≤ 1000000) (hlg : lgSize C ≤ 400000000) (x : Opn) (hx : OkO P x) (A : Option Addr) (cc : Nat) (hA : AtS w A x.r.list) (hk : bits .and .i64 x.dw 15 = 9) :
    Calls Tryz.prog 11 #[.pointer (some ⟨c, 0, none⟩), .agg #[.int .i64 x.dw, .int .i64 x.who, .int .i64 x.n, sv x.key, sv x.val, .int .i64 x.r.kind, sv x.r.key, sv x.r.val, .slice A x.r.list.length cc]] w (DoQ w c F G C x) := by
  have ka : Keeps [] w (w.alloc (.cells #[.int .i64 x.dw, .int .i64 x.who, .int .i64 x.n, sv x.key, sv x.val, .int .i64 x.r.kind, sv x.r.key, sv x.r.val, .slice A x.r.list.length cc] 36)) := (Keeps.refl _ _).alloc _
  have b0 : Hid (Blk (w.alloc (.cells #[.int .i64 x.dw, .int .i64 x.who, .int .i64 x.n, sv x.key, sv x.val, .int .i64 x.r.kind, sv x.r.key, sv x.r.val, .slice A x.r.list.length cc] 36)) w.heap.size 36 #[.int .i64 x.dw, .int .i64 x.who, .int .i64 x.n, sv x.key, sv x.val, .int .i64 x.r.kind, sv x.r.key, sv x.r.val, .slice A x.r.list.length cc]) := Lib.hid (Blk.new w 36 _)
  have h1 := h.keep0 ka
  have _u1 := hl
  have _u2 := hlg
  have _u3 := hP
  have _u4 := hW
  have KA := Lib.hid ka
  have KD : doing x = 9 := by unfold doing; rw [← and_15]; exact hk
  have E0 : Hid (doP C x = (([], [], (commitP C x.who).1), (commitP C x.who).2)) := Lib.hid (by
    unfold doP
    rw [if_neg (by omega), if_neg (by omega), if_neg (by omega), if_neg (by omega), if_pos (by omega)])
  have HA := Lib.hid (hA.keep ka)
  have HC := Lib.hid (commitOp_any h1 hW hP hl hlg hx.who)
  clear _u1 _u2 _u3 _u4 h h1 ka hW hP hA hl hlg hx KD
  go_enter Tryz.func11, Tryz.ntmps11
  have c0 : (w.alloc (.cells #[.int .i64 x.dw, .int .i64 x.who, .int .i64 x.n, sv x.key, sv x.val, .int .i64 x.r.kind, sv x.r.key, sv x.r.val, .slice A x.r.list.length cc] 36)).cell? ⟨w.heap.size, 0, none⟩ = some (.int .i64 x.dw) := b0.out.cell 0
  have c1 : (w.alloc (.cells #[.int .i64 x.dw, .int .i64 x.who, .int .i64 x.n, sv x.key, sv x.val, .int .i64 x.r.kind, sv x.r.key, sv x.r.val, .slice A x.r.list.length cc] 36)).cell? ⟨w.heap.size, 1, none⟩ = some (.int .i64 x.who) := b0.out.cell 1
  have c2 : (w.alloc (.cells #[.int .i64 x.dw, .int .i64 x.who, .int .i64 x.n, sv x.key, sv x.val, .int .i64 x.r.kind, sv x.r.key, sv x.r.val, .slice A x.r.list.length cc] 36)).cell? ⟨w.heap.size, 2, none⟩ = some (.int .i64 x.n) := b0.out.cell 2
  have c3 : (w.alloc (.cells #[.int .i64 x.dw, .int .i64 x.who, .int .i64 x.n, sv x.key, sv x.val, .int .i64 x.r.kind, sv x.r.key, sv x.r.val, .slice A x.r.list.length cc] 36)).cell? ⟨w.heap.size, 3, none⟩ = some (sv x.key) := b0.out.cell 3
  have c4 : (w.alloc (.cells #[.int .i64 x.dw, .int .i64 x.who, .int .i64 x.n, sv x.key, sv x.val, .int .i64 x.r.kind, sv x.r.key, sv x.r.val, .slice A x.r.list.length cc] 36)).cell? ⟨w.heap.size, 4, none⟩ = some (sv x.val) := b0.out.cell 4
  have c5 : (w.alloc (.cells #[.int .i64 x.dw, .int .i64 x.who, .int .i64 x.n, sv x.key, sv x.val, .int .i64 x.r.kind, sv x.r.key, sv x.r.val, .slice A x.r.list.length cc] 36)).cell? ⟨w.heap.size, 5, none⟩ = some (.int .i64 x.r.kind) := b0.out.cell 5
  have c6 : (w.alloc (.cells #[.int .i64 x.dw, .int .i64 x.who, .int .i64 x.n, sv x.key, sv x.val, .int .i64 x.r.kind, sv x.r.key, sv x.r.val, .slice A x.r.list.length cc] 36)).cell? ⟨w.heap.size, 6, none⟩ = some (sv x.r.key) := b0.out.cell 6
  have c7 : (w.alloc (.cells #[.int .i64 x.dw, .int .i64 x.who, .int .i64 x.n, sv x.key, sv x.val, .int .i64 x.r.kind, sv x.r.key, sv x.r.val, .slice A x.r.list.length cc] 36)).cell? ⟨w.heap.size, 7, none⟩ = some (sv x.r.val) := b0.out.cell 7
  have c8 : (w.alloc (.cells #[.int .i64 x.dw, .int .i64 x.who, .int .i64 x.n, sv x.key, sv x.val, .int .i64 x.r.kind, sv x.r.key, sv x.r.val, .slice A x.r.list.length cc] 36)).cell? ⟨w.heap.size, 8, none⟩ = some (.slice A x.r.list.length cc) := b0.out.cell 8
  go_wp2_with fail
  refine HC.out.mono ?_
  rintro e w1 ⟨rfl, ht⟩
  have HT := Lib.hid (ht.before KA.out)
  clear ht
  clear HC c0 c1 c2 c3 c4 c5 c6 c7 c8
  go_wp2_with fail
  go_ret3
  unfold DoQ
  rw [E0.out]
  exact ⟨_, rfl, World.ownsRow_nil _ _ _ _, by simp, HT.out⟩
set_option maxRecDepth 100000 in
set_option maxHeartbeats 3200000 in
theorem do10_any {w : World} {c : Nat} {F G : List Nat} {C : St} {P : List Str} (h : Cs w c F G C) (hW : WF P C) (hP : PoolOk P) (hl : C.length ≤ 1000000) (hlg : lgSize C ≤ 400000000) (x : Opn) (hx : OkO P x) (A : Option Addr) (cc : Nat) (hA : AtS w A x.r.list) (hk : bits .and .i64 x.dw 15 = 10) :
    Calls Tryz.prog 11 #[.pointer (some ⟨c, 0, none⟩), .agg #[.int .i64 x.dw, .int .i64 x.who, .int .i64 x.n, sv x.key, sv x.val, .int .i64 x.r.kind, sv x.r.key, sv x.r.val, .slice A x.r.list.length cc]] w (DoQ w c F G C x) := by
  have ka : Keeps [] w (w.alloc (.cells #[.int .i64 x.dw, .int .i64 x.who, .int .i64 x.n, sv x.key, sv x.val, .int .i64 x.r.kind, sv x.r.key, sv x.r.val, .slice A x.r.list.length cc] 36)) := (Keeps.refl _ _).alloc _
  have b0 : Hid (Blk (w.alloc (.cells #[.int .i64 x.dw, .int .i64 x.who, .int .i64 x.n, sv x.key, sv x.val, .int .i64 x.r.kind, sv x.r.key, sv x.r.val, .slice A x.r.list.length cc] 36)) w.heap.size 36 #[.int .i64 x.dw, .int .i64 x.who, .int .i64 x.n, sv x.key, sv x.val, .int .i64 x.r.kind, sv x.r.key, sv x.r.val, .slice A x.r.list.length cc]) := Lib.hid (Blk.new w 36 _)
  have h1 := h.keep0 ka
  have _u1 := hl
  have _u2 := hlg
  have _u3 := hP
  have _u4 := hW
  have KA := Lib.hid ka
  have KD : doing x = 10 := by unfold doing; rw [← and_15]; exact hk
  have E0 : Hid (doP C x = (([], [], 0), abortP C x.who)) := Lib.hid (by
    unfold doP
    rw [if_neg (by omega), if_neg (by omega), if_neg (by omega), if_neg (by omega), if_neg (by omega), if_pos (by omega)])
  have HA := Lib.hid (hA.keep ka)
  have HC := Lib.hid (abortOp_any h1 hW hl hx.who)
  clear _u1 _u2 _u3 _u4 h h1 ka hW hP hA hl hlg hx KD
  go_enter Tryz.func11, Tryz.ntmps11
  have c0 : (w.alloc (.cells #[.int .i64 x.dw, .int .i64 x.who, .int .i64 x.n, sv x.key, sv x.val, .int .i64 x.r.kind, sv x.r.key, sv x.r.val, .slice A x.r.list.length cc] 36)).cell? ⟨w.heap.size, 0, none⟩ = some (.int .i64 x.dw) := b0.out.cell 0
  have c1 : (w.alloc (.cells #[.int .i64 x.dw, .int .i64 x.who, .int .i64 x.n, sv x.key, sv x.val, .int .i64 x.r.kind, sv x.r.key, sv x.r.val, .slice A x.r.list.length cc] 36)).cell? ⟨w.heap.size, 1, none⟩ = some (.int .i64 x.who) := b0.out.cell 1
  have c2 : (w.alloc (.cells #[.int .i64 x.dw, .int .i64 x.who, .int .i64 x.n, sv x.key, sv x.val, .int .i64 x.r.kind, sv x.r.key, sv x.r.val, .slice A x.r.list.length cc] 36)).cell? ⟨w.heap.size, 2, none⟩ = some (.int .i64 x.n) := b0.out.cell 2
  have c3 : (w.alloc (.cells #[.int .i64 x.dw, .int .i64 x.who, .int .i64 x.n, sv x.key, sv x.val, .int .i64 x.r.kind, sv x.r.key, sv x.r.val, .slice A x.r.list.length cc] 36)).cell? ⟨w.heap.size, 3, none⟩ = some (sv x.key) := b0.out.cell 3
  have c4 : (w.alloc (.cells #[.int .i64 x.dw, .int .i64 x.who, .int .i64 x.n, sv x.key, sv x.val, .int .i64 x.r.kind, sv x.r.key, sv x.r.val, .slice A x.r.list.length cc] 36)).cell? ⟨w.heap.size, 4, none⟩ = some (sv x.val) := b0.out.cell 4
  have c5 : (w.alloc (.cells #[.int .i64 x.dw, .int .i64 x.who, .int .i64 x.n, sv x.key, sv x.val, .int .i64 x.r.kind, sv x.r.key, sv x.r.val, .slice A x.r.list.length cc] 36)).cell? ⟨w.heap.size, 5, none⟩ = some (.int .i64 x.r.kind) := b0.out.cell 5
  have c6 : (w.alloc (.cells #[.int .i64 x.dw, .int .i64 x.who, .int .i64 x.n, sv x.key, sv x.val, .int .i64 x.r.kind, sv x.r.key, sv x.r.val, .slice A x.r.list.length cc] 36)).cell? ⟨w.heap.size, 6, none⟩ = some (sv x.r.key) := b0.out.cell 6
  have c7 : (w.alloc (.cells #[.int .i64 x.dw, .int .i64 x.who, .int .i64 x.n, sv x.key, sv x.val, .int .i64 x.r.kind, sv x.r.key, sv x.r.val, .slice A x.r.list.length cc] 36)).cell? ⟨w.heap.size, 7, none⟩ = some (sv x.r.val) := b0.out.cell 7
  have c8 : (w.alloc (.cells #[.int .i64 x.dw, .int .i64 x.who, .int .i64 x.n, sv x.key, sv x.val, .int .i64 x.r.kind, sv x.r.key, sv x.r.val, .slice A x.r.list.length cc] 36)).cell? ⟨w.heap.size, 8, none⟩ = some (.slice A x.r.list.length cc) := b0.out.cell 8
  go_wp2_with fail
  refine HC.out.mono ?_
  rintro e w1 ⟨rfl, ht⟩
  have HT := Lib.hid (ht.before KA.out)
  clear ht
  clear HC c0 c1 c2 c3 c4 c5 c6 c7 c8
  go_wp2_with fail
  go_ret3
  unfold DoQ
  rw [E0.out]
  exact ⟨_, rfl, World.ownsRow_nil _ _ _ _, by simp, HT.out⟩
set_option maxRecDepth 100000 in
set_option maxHeartbeats 3200000 in
theorem do11_any {w : World} {c : Nat} {F G : List Nat} {C : St} {P : List Str} (h : Cs w c F G C) (hW : WF P C) (hP : PoolOk P) (hl : C.length ≤ 1000000) (hlg : lgSize C ≤ 400000000) (x : Opn) (hx : OkO P x) (A : Option Addr) (cc : Nat) (hA : AtS w A x.r.list) (hk : bits .and .i64 x.dw 15 = 11) :
    Calls Tryz.prog 11 #[.pointer (some ⟨c, 0, none⟩), .agg #[.int .i64 x.dw, .int .i64 x.who, .int .i64 x.n, sv x.key, sv x.val, .int .i64 x.r.kind, sv x.r.key, sv x.r.val, .slice A x.r.list.length cc]] w (DoQ w c F G C x) := by
  have ka : Keeps [] w (w.alloc (.cells #[.int .i64 x.dw, .int .i64 x.who, .int .i64 x.n, sv x.key, sv x.val, .int .i64 x.r.kind, sv x.r.key, sv x.r.val, .slice A x.r.list.length cc] 36)) := (Keeps.refl _ _).alloc _
  have b0 : Hid (Blk (w.alloc (.cells #[.int .i64 x.dw, .int .i64 x.who, .int .i64 x.n, sv x.key, sv x.val, .int .i64 x.r.kind, sv x.r.key, sv x.r.val, .slice A x.r.list.length cc] 36)) w.heap.size 36 #[.int .i64 x.dw, .int .i64 x.who, .int .i64 x.n, sv x.key, sv x.val, .int .i64 x.r.kind, sv x.r.key, sv x.r.val, .slice A x.r.list.length cc]) := Lib.hid (Blk.new w 36 _)
  have h1 := h.keep0 ka
  have _u1 := hl
  have _u2 := hlg
  have _u3 := hP
  have _u4 := hW
  have KA := Lib.hid ka
  have KD : doing x = 11 := by unfold doing; rw [← and_15]; exact hk
  have E0 : Hid (doP C x = (([], [], 0), noteP C x.who ⟨0, x.key, x.val, []⟩)) := Lib.hid (by
    unfold doP
    rw [if_neg (by omega), if_neg (by omega), if_neg (by omega), if_neg (by omega), if_neg (by omega), if_neg (by omega), if_pos (by omega)])
  have HA := Lib.hid (hA.keep ka)
  have HC := Lib.hid (assume_any h1 hW hP hx.who x.key x.val hx.k)
  clear _u1 _u2 _u3 _u4 h h1 ka hW hP hA hl hlg hx KD
  go_enter Tryz.func11, Tryz.ntmps11
  have c0 : (w.alloc (.cells #[.int .i64 x.dw, .int .i64 x.who, .int .i64 x.n, sv x.key, sv x.val, .int .i64 x.r.kind, sv x.r.key, sv x.r.val, .slice A x.r.list.length cc] 36)).cell? ⟨w.heap.size, 0, none⟩ = some (.int .i64 x.dw) := b0.out.cell 0
  have c1 : (w.alloc (.cells #[.int .i64 x.dw, .int .i64 x.who, .int .i64 x.n, sv x.key, sv x.val, .int .i64 x.r.kind, sv x.r.key, sv x.r.val, .slice A x.r.list.length cc] 36)).cell? ⟨w.heap.size, 1, none⟩ = some (.int .i64 x.who) := b0.out.cell 1
  have c2 : (w.alloc (.cells #[.int .i64 x.dw, .int .i64 x.who, .int .i64 x.n, sv x.key, sv x.val, .int .i64 x.r.kind, sv x.r.key, sv x.r.val, .slice A x.r.list.length cc] 36)).cell? ⟨w.heap.size, 2, none⟩ = some (.int .i64 x.n) := b0.out.cell 2
  have c3 : (w.alloc (.cells #[.int .i64 x.dw, .int .i64 x.who, .int .i64 x.n, sv x.key, sv x.val, .int .i64 x.r.kind, sv x.r.key, sv x.r.val, .slice A x.r.list.length cc] 36)).cell? ⟨w.heap.size, 3, none⟩ = some (sv x.key) := b0.out.cell 3
  have c4 : (w.alloc (.cells #[.int .i64 x.dw, .int .i64 x.who, .int .i64 x.n, sv x.key, sv x.val, .int .i64 x.r.kind, sv x.r.key, sv x.r.val, .slice A x.r.list.length cc] 36)).cell? ⟨w.heap.size, 4, none⟩ = some (sv x.val) := b0.out.cell 4
  have c5 : (w.alloc (.cells #[.int .i64 x.dw, .int .i64 x.who, .int .i64 x.n, sv x.key, sv x.val, .int .i64 x.r.kind, sv x.r.key, sv x.r.val, .slice A x.r.list.length cc] 36)).cell? ⟨w.heap.size, 5, none⟩ = some (.int .i64 x.r.kind) := b0.out.cell 5
  have c6 : (w.alloc (.cells #[.int .i64 x.dw, .int .i64 x.who, .int .i64 x.n, sv x.key, sv x.val, .int .i64 x.r.kind, sv x.r.key, sv x.r.val, .slice A x.r.list.length cc] 36)).cell? ⟨w.heap.size, 6, none⟩ = some (sv x.r.key) := b0.out.cell 6
  have c7 : (w.alloc (.cells #[.int .i64 x.dw, .int .i64 x.who, .int .i64 x.n, sv x.key, sv x.val, .int .i64 x.r.kind, sv x.r.key, sv x.r.val, .slice A x.r.list.length cc] 36)).cell? ⟨w.heap.size, 7, none⟩ = some (sv x.r.val) := b0.out.cell 7
  have c8 : (w.alloc (.cells #[.int .i64 x.dw, .int .i64 x.who, .int .i64 x.n, sv x.key, sv x.val, .int .i64 x.r.kind, sv x.r.key, sv x.r.val, .slice A x.r.list.length cc] 36)).cell? ⟨w.heap.size, 8, none⟩ = some (.slice A x.r.list.length cc) := b0.out.cell 8
  go_wp2_with fail
  refine HC.out.mono ?_
  rintro e w1 ⟨rfl, ht⟩
  have HT := Lib.hid (ht.before KA.out)
  clear ht
  clear HC c0 c1 c2 c3 c4 c5 c6 c7 c8
  go_wp2_with fail
  go_ret3
  unfold DoQ
  rw [E0.out]
  exact ⟨_, rfl, World.ownsRow_nil _ _ _ _, by simp, HT.out⟩
set_option maxRecDepth 100000 in
set_option maxHeartbeats 3200000 in
theorem do12_any {w : World} {c : Nat} {F G : List Nat} {C : St} {P : List Str} (h : Cs w c F G C) (hW : WF P C) (hP : PoolOk P) (hl : C.length ≤ 1000000) (hlg : lgSize C ≤ 400000000) (x : Opn) (hx : OkO P x) (A : Option Addr) (cc : Nat) (hA : AtS w A x.r.list) (hk : bits .and .i64 x.dw 15 = 12) :
    Calls Tryz.prog 11 #[.pointer (some ⟨c, 0, none⟩), .agg #[.int .i64 x.dw, .int .i64 x.who, .int .i64 x.n, sv x.key, sv x.val, .int .i64 x.r.kind, sv x.r.key, sv x.r.val, .slice A x.r.list.length cc]] w (DoQ w c F G C x) := by
  have ka : Keeps [] w (w.alloc (.cells #[.int .i64 x.dw, .int .i64 x.who, .int .i64 x.n, sv x.key, sv x.val, .int .i64 x.r.kind, sv x.r.key, sv x.r.val, .slice A x.r.list.length cc] 36)) := (Keeps.refl _ _).alloc _
  have b0 : Hid (Blk (w.alloc (.cells #[.int .i64 x.dw, .int .i64 x.who, .int .i64 x.n, sv x.key, sv x.val, .int .i64 x.r.kind, sv x.r.key, sv x.r.val, .slice A x.r.list.length cc] 36)) w.heap.size 36 #[.int .i64 x.dw, .int .i64 x.who, .int .i64 x.n, sv x.key, sv x.val, .int .i64 x.r.kind, sv x.r.key, sv x.r.val, .slice A x.r.list.length cc]) := Lib.hid (Blk.new w 36 _)
  have h1 := h.keep0 ka
  have _u1 := hl
  have _u2 := hlg
  have _u3 := hP
  have _u4 := hW
  have KA := Lib.hid ka
  have KD : doing x = 12 := by unfold doing; rw [← and_15]; exact hk
  have E0 : Hid (doP C x = (([], [], 0), noteP C x.who x.r)) := Lib.hid (by
    unfold doP
    rw [if_neg (by omega), if_neg (by omega), if_neg (by omega), if_neg (by omega), if_neg (by omega), if_neg (by omega), if_neg (by omega), if_pos (by omega)])
  have HA := Lib.hid (hA.keep ka)
  have HC := Lib.hid (noteOp_any h1 hW hP hx.who x.r.kind x.r.key x.r.val x.r.list A cc HA.out hx.rk)
  clear _u1 _u2 _u3 _u4 h h1 ka hW hP hA hl hlg hx KD
  go_enter Tryz.func11, Tryz.ntmps11
  have c0 : (w.alloc (.cells #[.int .i64 x.dw, .int .i64 x.who, .int .i64 x.n, sv x.key, sv x.val, .int .i64 x.r.kind, sv x.r.key, sv x.r.val, .slice A x.r.list.length cc] 36)).cell? ⟨w.heap.size, 0, none⟩ = some (.int .i64 x.dw) := b0.out.cell 0
  have c1 : (w.alloc (.cells #[.int .i64 x.dw, .int .i64 x.who, .int .i64 x.n, sv x.key, sv x.val, .int .i64 x.r.kind, sv x.r.key, sv x.r.val, .slice A x.r.list.length cc] 36)).cell? ⟨w.heap.size, 1, none⟩ = some (.int .i64 x.who) := b0.out.cell 1
  have c2 : (w.alloc (.cells #[.int .i64 x.dw, .int .i64 x.who, .int .i64 x.n, sv x.key, sv x.val, .int .i64 x.r.kind, sv x.r.key, sv x.r.val, .slice A x.r.list.length cc] 36)).cell? ⟨w.heap.size, 2, none⟩ = some (.int .i64 x.n) := b0.out.cell 2
  have c3 : (w.alloc (.cells #[.int .i64 x.dw, .int .i64 x.who, .int .i64 x.n, sv x.key, sv x.val, .int .i64 x.r.kind, sv x.r.key, sv x.r.val, .slice A x.r.list.length cc] 36)).cell? ⟨w.heap.size, 3, none⟩ = some (sv x.key) := b0.out.cell 3
  have c4 : (w.alloc (.cells #[.int .i64 x.dw, .int .i64 x.who, .int .i64 x.n, sv x.key, sv x.val, .int .i64 x.r.kind, sv x.r.key, sv x.r.val, .slice A x.r.list.length cc] 36)).cell? ⟨w.heap.size, 4, none⟩ = some (sv x.val) := b0.out.cell 4
  have c5 : (w.alloc (.cells #[.int .i64 x.dw, .int .i64 x.who, .int .i64 x.n, sv x.key, sv x.val, .int .i64 x.r.kind, sv x.r.key, sv x.r.val, .slice A x.r.list.length cc] 36)).cell? ⟨w.heap.size, 5, none⟩ = some (.int .i64 x.r.kind) := b0.out.cell 5
  have c6 : (w.alloc (.cells #[.int .i64 x.dw, .int .i64 x.who, .int .i64 x.n, sv x.key, sv x.val, .int .i64 x.r.kind, sv x.r.key, sv x.r.val, .slice A x.r.list.length cc] 36)).cell? ⟨w.heap.size, 6, none⟩ = some (sv x.r.key) := b0.out.cell 6
  have c7 : (w.alloc (.cells #[.int .i64 x.dw, .int .i64 x.who, .int .i64 x.n, sv x.key, sv x.val, .int .i64 x.r.kind, sv x.r.key, sv x.r.val, .slice A x.r.list.length cc] 36)).cell? ⟨w.heap.size, 7, none⟩ = some (sv x.r.val) := b0.out.cell 7
  have c8 : (w.alloc (.cells #[.int .i64 x.dw, .int .i64 x.who, .int .i64 x.n, sv x.key, sv x.val, .int .i64 x.r.kind, sv x.r.key, sv x.r.val, .slice A x.r.list.length cc] 36)).cell? ⟨w.heap.size, 8, none⟩ = some (.slice A x.r.list.length cc) := b0.out.cell 8
  go_wp2_with fail
  refine HC.out.mono ?_
  rintro e w1 ⟨rfl, ht⟩
  have HT := Lib.hid (ht.before KA.out)
  clear ht
  clear HC c0 c1 c2 c3 c4 c5 c6 c7 c8
  go_wp2_with fail
  go_ret3
  unfold DoQ
  rw [E0.out]
  exact ⟨_, rfl, World.ownsRow_nil _ _ _ _, by simp, HT.out⟩
set_option maxRecDepth 100000 in
set_option maxHeartbeats 3200000 in
theorem do13_any {w : World} {c : Nat} {F G : List Nat} {C : St} {P : List Str} (h : Cs w c F G C) (hW : WF P C) (hP : PoolOk P) (hl : C.length ≤ 1000000) (hlg : lgSize C ≤ 400000000) (x : Opn) (hx : OkO P x) (A : Option Addr) (cc : Nat) (hA : AtS w A x.r.list) (hk : bits .and .i64 x.dw 15 = 13) :
    Calls Tryz.prog 11 #[.pointer (some ⟨c, 0, none⟩), .agg #[.int .i64 x.dw, .int .i64 x.who, .int .i64 x.n, sv x.key, sv x.val, .int .i64 x.r.kind, sv x.r.key, sv x.r.val, .slice A x.r.list.length cc]] w (DoQ w c F G C x) := by
  have ka : Keeps [] w (w.alloc (.cells #[.int .i64 x.dw, .int .i64 x.who, .int .i64 x.n, sv x.key, sv x.val, .int .i64 x.r.kind, sv x.r.key, sv x.r.val, .slice A x.r.list.length cc] 36)) := (Keeps.refl _ _).alloc _
  have b0 : Hid (Blk (w.alloc (.cells #[.int .i64 x.dw, .int .i64 x.who, .int .i64 x.n, sv x.key, sv x.val, .int .i64 x.r.kind, sv x.r.key, sv x.r.val, .slice A x.r.list.length cc] 36)) w.heap.size 36 #[.int .i64 x.dw, .int .i64 x.who, .int .i64 x.n, sv x.key, sv x.val, .int .i64 x.r.kind, sv x.r.key, sv x.r.val, .slice A x.r.list.length cc]) := Lib.hid (Blk.new w 36 _)
  have h1 := h.keep0 ka
  have _u1 := hl
  have _u2 := hlg
  have _u3 := hP
  have _u4 := hW
  have KA := Lib.hid ka
  have KD : doing x = 13 := by unfold doing; rw [← and_15]; exact hk
  have E0 : Hid (doP C x = ((sees (askP C x.who x.key) x.who x.key, [], 0), askP C x.who x.key)) := Lib.hid (by
    unfold doP
    rw [if_neg (by omega), if_neg (by omega), if_neg (by omega), if_neg (by omega), if_neg (by omega), if_neg (by omega), if_neg (by omega), if_neg (by omega)])
  have HA := Lib.hid (hA.keep ka)
  have HC := Lib.hid (get_any h1 hW hP hx.who x.key hx.k)
  clear _u1 _u2 _u3 _u4 h h1 ka hW hP hA hl hlg hx KD
  go_enter Tryz.func11, Tryz.ntmps11
  have c0 : (w.alloc (.cells #[.int .i64 x.dw, .int .i64 x.who, .int .i64 x.n, sv x.key, sv x.val, .int .i64 x.r.kind, sv x.r.key, sv x.r.val, .slice A x.r.list.length cc] 36)).cell? ⟨w.heap.size, 0, none⟩ = some (.int .i64 x.dw) := b0.out.cell 0
  have c1 : (w.alloc (.cells #[.int .i64 x.dw, .int .i64 x.who, .int .i64 x.n, sv x.key, sv x.val, .int .i64 x.r.kind, sv x.r.key, sv x.r.val, .slice A x.r.list.length cc] 36)).cell? ⟨w.heap.size, 1, none⟩ = some (.int .i64 x.who) := b0.out.cell 1
  have c2 : (w.alloc (.cells #[.int .i64 x.dw, .int .i64 x.who, .int .i64 x.n, sv x.key, sv x.val, .int .i64 x.r.kind, sv x.r.key, sv x.r.val, .slice A x.r.list.length cc] 36)).cell? ⟨w.heap.size, 2, none⟩ = some (.int .i64 x.n) := b0.out.cell 2
  have c3 : (w.alloc (.cells #[.int .i64 x.dw, .int .i64 x.who, .int .i64 x.n, sv x.key, sv x.val, .int .i64 x.r.kind, sv x.r.key, sv x.r.val, .slice A x.r.list.length cc] 36)).cell? ⟨w.heap.size, 3, none⟩ = some (sv x.key) := b0.out.cell 3
  have c4 : (w.alloc (.cells #[.int .i64 x.dw, .int .i64 x.who, .int .i64 x.n, sv x.key, sv x.val, .int .i64 x.r.kind, sv x.r.key, sv x.r.val, .slice A x.r.list.length cc] 36)).cell? ⟨w.heap.size, 4, none⟩ = some (sv x.val) := b0.out.cell 4
  have c5 : (w.alloc (.cells #[.int .i64 x.dw, .int .i64 x.who, .int .i64 x.n, sv x.key, sv x.val, .int .i64 x.r.kind, sv x.r.key, sv x.r.val, .slice A x.r.list.length cc] 36)).cell? ⟨w.heap.size, 5, none⟩ = some (.int .i64 x.r.kind) := b0.out.cell 5
  have c6 : (w.alloc (.cells #[.int .i64 x.dw, .int .i64 x.who, .int .i64 x.n, sv x.key, sv x.val, .int .i64 x.r.kind, sv x.r.key, sv x.r.val, .slice A x.r.list.length cc] 36)).cell? ⟨w.heap.size, 6, none⟩ = some (sv x.r.key) := b0.out.cell 6
  have c7 : (w.alloc (.cells #[.int .i64 x.dw, .int .i64 x.who, .int .i64 x.n, sv x.key, sv x.val, .int .i64 x.r.kind, sv x.r.key, sv x.r.val, .slice A x.r.list.length cc] 36)).cell? ⟨w.heap.size, 7, none⟩ = some (sv x.r.val) := b0.out.cell 7
  have c8 : (w.alloc (.cells #[.int .i64 x.dw, .int .i64 x.who, .int .i64 x.n, sv x.key, sv x.val, .int .i64 x.r.kind, sv x.r.key, sv x.r.val, .slice A x.r.list.length cc] 36)).cell? ⟨w.heap.size, 8, none⟩ = some (.slice A x.r.list.length cc) := b0.out.cell 8
  go_wp2_with fail
  refine HC.out.mono ?_
  rintro e w1 ⟨rfl, ht⟩
  have HT := Lib.hid (ht.before KA.out)
  clear ht
  clear HC c0 c1 c2 c3 c4 c5 c6 c7 c8
  go_wp2_with fail
  go_ret3
  unfold DoQ
  rw [E0.out]
  exact ⟨_, rfl, World.ownsRow_nil _ _ _ _, by simp, HT.out⟩
set_option maxRecDepth 100000 in
set_option maxHeartbeats 3200000 in
theorem do14_any {w : World} {c : Nat} {F G : List Nat} {C : St} {P : List Str} (h : Cs w c F G C) (hW : WF P C) (hP : PoolOk P) (hl : C.length ≤ 1000000) (hlg : lgSize C ≤ 400000000) (x : Opn) (hx : OkO P x) (A : Option Addr) (cc : Nat) (hA : AtS w A x.r.list) (hk : bits .and .i64 x.dw 15 = 14) :
    Calls Tryz.prog 11 #[.pointer (some ⟨c, 0, none⟩), .agg #[.int .i64 x.dw, .int .i64 x.who, .int .i64 x.n, sv x.key, sv x.val, .int .i64 x.r.kind, sv x.r.key, sv x.r.val, .slice A x.r.list.length cc]] w (DoQ w c F G C x) := by
  have ka : Keeps [] w (w.alloc (.cells #[.int .i64 x.dw, .int .i64 x.who, .int .i64 x.n, sv x.key, sv x.val, .int .i64 x.r.kind, sv x.r.key, sv x.r.val, .slice A x.r.list.length cc] 36)) := (Keeps.refl _ _).alloc _
  have b0 : Hid (Blk (w.alloc (.cells #[.int .i64 x.dw, .int .i64 x.who, .int .i64 x.n, sv x.key, sv x.val, .int .i64 x.r.kind, sv x.r.key, sv x.r.val, .slice A x.r.list.length cc] 36)) w.heap.size 36 #[.int .i64 x.dw, .int .i64 x.who, .int .i64 x.n, sv x.key, sv x.val, .int .i64 x.r.kind, sv x.r.key, sv x.r.val, .slice A x.r.list.length cc]) := Lib.hid (Blk.new w 36 _)
  have h1 := h.keep0 ka
  have _u1 := hl
  have _u2 := hlg
  have _u3 := hP
  have _u4 := hW
  have KA := Lib.hid ka
  have KD : doing x = 14 := by unfold doing; rw [← and_15]; exact hk
  have E0 : Hid (doP C x = ((sees (askP C x.who x.key) x.who x.key, [], 0), askP C x.who x.key)) := Lib.hid (by
    unfold doP
    rw [if_neg (by omega), if_neg (by omega), if_neg (by omega), if_neg (by omega), if_neg (by omega), if_neg (by omega), if_neg (by omega), if_neg (by omega)])
  have HA := Lib.hid (hA.keep ka)
  have HC := Lib.hid (get_any h1 hW hP hx.who x.key hx.k)
  clear _u1 _u2 _u3 _u4 h h1 ka hW hP hA hl hlg hx KD
  go_enter Tryz.func11, Tryz.ntmps11
  have c0 : (w.alloc (.cells #[.int .i64 x.dw, .int .i64 x.who, .int .i64 x.n, sv x.key, sv x.val, .int .i64 x.r.kind, sv x.r.key, sv x.r.val, .slice A x.r.list.length cc] 36)).cell? ⟨w.heap.size, 0, none⟩ = some (.int .i64 x.dw) := b0.out.cell 0
  have c1 : (w.alloc (.cells #[.int .i64 x.dw, .int .i64 x.who, .int .i64 x.n, sv x.key, sv x.val, .int .i64 x.r.kind, sv x.r.key, sv x.r.val, .slice A x.r.list.length cc] 36)).cell? ⟨w.heap.size, 1, none⟩ = some (.int .i64 x.who) := b0.out.cell 1
  have c2 : (w.alloc (.cells #[.int .i64 x.dw, .int .i64 x.who, .int .i64 x.n, sv x.key, sv x.val, .int .i64 x.r.kind, sv x.r.key, sv x.r.val, .slice A x.r.list.length cc] 36)).cell? ⟨w.heap.size, 2, none⟩ = some (.int .i64 x.n) := b0.out.cell 2
  have c3 : (w.alloc (.cells #[.int .i64 x.dw, .int .i64 x.who, .int .i64 x.n, sv x.key, sv x.val, .int .i64 x.r.kind, sv x.r.key, sv x.r.val, .slice A x.r.list.length cc] 36)).cell? ⟨w.heap.size, 3, none⟩ = some (sv x.key) := b0.out.cell 3
  have c4 : (w.alloc (.cells #[.int .i64 x.dw, .int .i64 x.who, .int .i64 x.n, sv x.key, sv x.val, .int .i64 x.r.kind, sv x.r.key, sv x.r.val, .slice A x.r.list.length cc] 36)).cell? ⟨w.heap.size, 4, none⟩ = some (sv x.val) := b0.out.cell 4
  have c5 : (w.alloc (.cells #[.int .i64 x.dw, .int .i64 x.who, .int .i64 x.n, sv x.key, sv x.val, .int .i64 x.r.kind, sv x.r.key, sv x.r.val, .slice A x.r.list.length cc] 36)).cell? ⟨w.heap.size, 5, none⟩ = some (.int .i64 x.r.kind) := b0.out.cell 5
  have c6 : (w.alloc (.cells #[.int .i64 x.dw, .int .i64 x.who, .int .i64 x.n, sv x.key, sv x.val, .int .i64 x.r.kind, sv x.r.key, sv x.r.val, .slice A x.r.list.length cc] 36)).cell? ⟨w.heap.size, 6, none⟩ = some (sv x.r.key) := b0.out.cell 6
  have c7 : (w.alloc (.cells #[.int .i64 x.dw, .int .i64 x.who, .int .i64 x.n, sv x.key, sv x.val, .int .i64 x.r.kind, sv x.r.key, sv x.r.val, .slice A x.r.list.length cc] 36)).cell? ⟨w.heap.size, 7, none⟩ = some (sv x.r.val) := b0.out.cell 7
  have c8 : (w.alloc (.cells #[.int .i64 x.dw, .int .i64 x.who, .int .i64 x.n, sv x.key, sv x.val, .int .i64 x.r.kind, sv x.r.key, sv x.r.val, .slice A x.r.list.length cc] 36)).cell? ⟨w.heap.size, 8, none⟩ = some (.slice A x.r.list.length cc) := b0.out.cell 8
  go_wp2_with fail
  refine HC.out.mono ?_
  rintro e w1 ⟨rfl, ht⟩
  have HT := Lib.hid (ht.before KA.out)
  clear ht
  clear HC c0 c1 c2 c3 c4 c5 c6 c7 c8
  go_wp2_with fail
  go_ret3
  unfold DoQ
  rw [E0.out]
  exact ⟨_, rfl, World.ownsRow_nil _ _ _ _, by simp, HT.out⟩
set_option maxRecDepth 100000 in
set_option maxHeartbeats 3200000 in
theorem do15_any {w : World} {c : Nat} {F G : List Nat} {C : St} {P : List Str} (h : Cs w c F G C) (hW : WF P C) (hP : PoolOk P) (hl : C.length ≤ 1000000) (hlg : lgSize C ≤ 400000000) (x : Opn) (hx : OkO P x) (A : Option Addr) (cc : Nat) (hA : AtS w A x.r.list) (hk : bits .and .i64 x.dw 15 = 15) :
    Calls Tryz.prog 11 #[.pointer (some ⟨c, 0, none⟩), .agg #[.int .i64 x.dw, .int .i64 x.who, .int .i64 x.n, sv x.key, sv x.val, .int .i64 x.r.kind, sv x.r.key, sv x.r.val, .slice A x.r.list.length cc]] w (DoQ w c F G C x) := by
  have ka : Keeps [] w (w.alloc (.cells #[.int .i64 x.dw, .int .i64 x.who, .int .i64 x.n, sv x.key, sv x.val, .int .i64 x.r.kind, sv x.r.key, sv x.r.val, .slice A x.r.list.length cc] 36)) := (Keeps.refl _ _).alloc _
  have b0 : Hid (Blk (w.alloc (.cells #[.int .i64 x.dw, .int .i64 x.who, .int .i64 x.n, sv x.key, sv x.val, .int .i64 x.r.kind, sv x.r.key, sv x.r.val, .slice A x.r.list.length cc] 36)) w.heap.size 36 #[.int .i64 x.dw, .int .i64 x.who, .int .i64 x.n, sv x.key, sv x.val, .int .i64 x.r.kind, sv x.r.key, sv x.r.val, .slice A x.r.list.length cc]) := Lib.hid (Blk.new w 36 _)
  have h1 := h.keep0 ka
  have _u1 := hl
  have _u2 := hlg
  have _u3 := hP
  have _u4 := hW
  have KA := Lib.hid ka
  have KD : doing x = 15 := by unfold doing; rw [← and_15]; exact hk
  have E0 : Hid (doP C x = ((sees (askP C x.who x.key) x.who x.key, [], 0), askP C x.who x.key)) := Lib.hid (by
    unfold doP
    rw [if_neg (by omega), if_neg (by omega), if_neg (by omega), if_neg (by omega), if_neg (by omega), if_neg (by omega), if_neg (by omega), if_neg (by omega)])
  have HA := Lib.hid (hA.keep ka)
  have HC := Lib.hid (get_any h1 hW hP hx.who x.key hx.k)
  clear _u1 _u2 _u3 _u4 h h1 ka hW hP hA hl hlg hx KD
  go_enter Tryz.func11, Tryz.ntmps11
  have c0 : (w.alloc (.cells #[.int .i64 x.dw, .int .i64 x.who, .int .i64 x.n, sv x.key, sv x.val, .int .i64 x.r.kind, sv x.r.key, sv x.r.val, .slice A x.r.list.length cc] 36)).cell? ⟨w.heap.size, 0, none⟩ = some (.int .i64 x.dw) := b0.out.cell 0
  have c1 : (w.alloc (.cells #[.int .i64 x.dw, .int .i64 x.who, .int .i64 x.n, sv x.key, sv x.val, .int .i64 x.r.kind, sv x.r.key, sv x.r.val, .slice A x.r.list.length cc] 36)).cell? ⟨w.heap.size, 1, none⟩ = some (.int .i64 x.who) := b0.out.cell 1
  have c2 : (w.alloc (.cells #[.int .i64 x.dw, .int .i64 x.who, .int .i64 x.n, sv x.key, sv x.val, .int .i64 x.r.kind, sv x.r.key, sv x.r.val, .slice A x.r.list.length cc] 36)).cell? ⟨w.heap.size, 2, none⟩ = some (.int .i64 x.n) := b0.out.cell 2
  have c3 : (w.alloc (.cells #[.int .i64 x.dw, .int .i64 x.who, .int .i64 x.n, sv x.key, sv x.val, .int .i64 x.r.kind, sv x.r.key, sv x.r.val, .slice A x.r.list.length cc] 36)).cell? ⟨w.heap.size, 3, none⟩ = some (sv x.key) := b0.out.cell 3
  have c4 : (w.alloc (.cells #[.int .i64 x.dw, .int .i64 x.who, .int .i64 x.n, sv x.key, sv x.val, .int .i64 x.r.kind, sv x.r.key, sv x.r.val, .slice A x.r.list.length cc] 36)).cell? ⟨w.heap.size, 4, none⟩ = some (sv x.val) := b0.out.cell 4
  have c5 : (w.alloc (.cells #[.int .i64 x.dw, .int .i64 x.who, .int .i64 x.n, sv x.key, sv x.val, .int .i64 x.r.kind, sv x.r.key, sv x.r.val, .slice A x.r.list.length cc] 36)).cell? ⟨w.heap.size, 5, none⟩ = some (.int .i64 x.r.kind) := b0.out.cell 5
  have c6 : (w.alloc (.cells #[.int .i64 x.dw, .int .i64 x.who, .int .i64 x.n, sv x.key, sv x.val, .int .i64 x.r.kind, sv x.r.key, sv x.r.val, .slice A x.r.list.length cc] 36)).cell? ⟨w.heap.size, 6, none⟩ = some (sv x.r.key) := b0.out.cell 6
  have c7 : (w.alloc (.cells #[.int .i64 x.dw, .int .i64 x.who, .int .i64 x.n, sv x.key, sv x.val, .int .i64 x.r.kind, sv x.r.key, sv x.r.val, .slice A x.r.list.length cc] 36)).cell? ⟨w.heap.size, 7, none⟩ = some (sv x.r.val) := b0.out.cell 7
  have c8 : (w.alloc (.cells #[.int .i64 x.dw, .int .i64 x.who, .int .i64 x.n, sv x.key, sv x.val, .int .i64 x.r.kind, sv x.r.key, sv x.r.val, .slice A x.r.list.length cc] 36)).cell? ⟨w.heap.size, 8, none⟩ = some (.slice A x.r.list.length cc) := b0.out.cell 8
  go_wp2_with fail
  refine HC.out.mono ?_
  rintro e w1 ⟨rfl, ht⟩
  have HT := Lib.hid (ht.before KA.out)
  clear ht
  clear HC c0 c1 c2 c3 c4 c5 c6 c7 c8
  go_wp2_with fail
  go_ret3
  unfold DoQ
  rw [E0.out]
  exact ⟨_, rfl, World.ownsRow_nil _ _ _ _, by simp, HT.out⟩
theorem do_any {w : World} {c : Nat} {F G : List Nat} {C : St} {P : List Str} (h : Cs w c F G C) (hW : WF P C) (hP : PoolOk P) (hl : C.length ≤ 1000000) (hlg : lgSize C ≤ 400000000) (x : Opn) (hx : OkO P x) (A : Option Addr) (cc : Nat) (hA : AtS w A x.r.list) :
    Calls Tryz.prog 11 #[.pointer (some ⟨c, 0, none⟩), .agg #[.int .i64 x.dw, .int .i64 x.who, .int .i64 x.n, sv x.key, sv x.val, .int .i64 x.r.kind, sv x.r.key, sv x.r.val, .slice A x.r.list.length cc]] w (DoQ w c F G C x) := by
  have e := and_15 x.dw
  have h0 : 0 ≤ x.dw % 16 := Int.emod_nonneg _ (by omega)
  have h1 : x.dw % 16 < 16 := Int.emod_lt_of_pos _ (by omega)
  obtain ⟨k, hk⟩ : ∃ k, x.dw % 16 = k := ⟨_, rfl⟩
  rw [hk] at e h0 h1
  have hcs : k = 0 ∨ k = 1 ∨ k = 2 ∨ k = 3 ∨ k = 4 ∨ k = 5 ∨ k = 6 ∨ k = 7 ∨ k = 8 ∨ k = 9 ∨ k = 10 ∨ k = 11 ∨ k = 12 ∨ k = 13 ∨ k = 14 ∨ k = 15 := by omega
  rcases hcs with rfl | rfl | rfl | rfl | rfl | rfl | rfl | rfl | rfl | rfl | rfl | rfl | rfl | rfl | rfl | rfl
  · exact do0_any h hW hP hl hlg x hx A cc hA e
  · exact do1_any h hW hP hl hlg x hx A cc hA e
  · exact do2_any h hW hP hl hlg x hx A cc hA e
  · exact do3_any h hW hP hl hlg x hx A cc hA e
  · exact do4_any h hW hP hl hlg x hx A cc hA e
  · exact do5_any h hW hP hl hlg x hx A cc hA e
  · exact do6_any h hW hP hl hlg x hx A cc hA e
  · exact do7_any h hW hP hl hlg x hx A cc hA e
  · exact do8_any h hW hP hl hlg x hx A cc hA e
  · exact do9_any h hW hP hl hlg x hx A cc hA e
  · exact do10_any h hW hP hl hlg x hx A cc hA e
  · exact do11_any h hW hP hl hlg x hx A cc hA e
  · exact do12_any h hW hP hl hlg x hx A cc hA e
  · exact do13_any h hW hP hl hlg x hx A cc hA e
  · exact do14_any h hW hP hl hlg x hx A cc hA e
  · exact do15_any h hW hP hl hlg x hx A cc hA e
end Go.Proofs.YtbllmpcpfmlemaaGreat
