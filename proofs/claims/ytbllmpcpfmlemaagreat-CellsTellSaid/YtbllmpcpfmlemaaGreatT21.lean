/- The reference: model; the program's cell beside the reference's (printed by t21gen.py). -/
import Derived.Test.YtbllmpcpfmlemaaGreatT20
namespace Go.Proofs.YtbllmpcpfmlemaaGreat
open Go.RowKit
/-- What model's contract says. -/
def RDoQ (w : World) (d : Nat) (F G : List Nat) (C : St) (x : Opn) (e : Ending) (w' : World) : Prop :=
  ∃ v, e = .returned (.tuple #[sv (doP C x).1.1, v, .int .i64 (doP C x).1.2.2]) ∧ w'.ownsRow 0 9 1 v (doP C x).1.2.1.length (vs (doP C x).1.2.1) ∧ RTurn w w' d F G (doP C x).2
set_option maxRecDepth 100000 in
set_option maxHeartbeats 3200000 in
theorem rdo0_any {w : World} {d : Nat} {F G : List Nat} {C : St} {P : List Str} (h : Rf w d F G C) (hW : WF P C) (hP : PoolOk P) (hl : C.length ≤ 1000000) (hlg : lgSize C ≤ 200000000) (x : Opn) (_hx : OkO P x) (A : Option Addr) (cc : Nat) (hA : AtS w A x.r.list) (hk : bits .and .i64 x.dw 15 = 0) :
    Calls Tryz.prog 12 #[.pointer (some ⟨d, 0, none⟩), .agg #[.int .i64 x.dw, .int .i64 x.who, .int .i64 x.n, sv x.key, sv x.val, .int .i64 x.r.kind, sv x.r.key, sv x.r.val, .slice A x.r.list.length cc]] w (RDoQ w d F G C x) := by
  have ka : Keeps [] w (w.alloc (.cells #[.int .i64 x.dw, .int .i64 x.who, .int .i64 x.n, sv x.key, sv x.val, .int .i64 x.r.kind, sv x.r.key, sv x.r.val, .slice A x.r.list.length cc] 36)) := (Keeps.refl _ _).alloc _
  have b0 : Hid (Blk (w.alloc (.cells #[.int .i64 x.dw, .int .i64 x.who, .int .i64 x.n, sv x.key, sv x.val, .int .i64 x.r.kind, sv x.r.key, sv x.r.val, .slice A x.r.list.length cc] 36)) w.heap.size 36 #[.int .i64 x.dw, .int .i64 x.who, .int .i64 x.n, sv x.key, sv x.val, .int .i64 x.r.kind, sv x.r.key, sv x.r.val, .slice A x.r.list.length cc]) := Lib.hid (Blk.new w 36 _)
  have h1 := h.keep0 ka
  have hdF := h.dF
  have _u1 := hl
  have _u2 := hlg
  have _u3 := hP
  have _u4 := hW
  have KA := Lib.hid ka
  have KD : doing x = 0 := by unfold doing; rw [← and_15]; exact hk
  have E0 : Hid (doP C x = (([], [], 0), putP C x.who x.key x.val)) := Lib.hid (by
    unfold doP
    rw [if_pos (by omega)])
  have HA := Lib.hid (hA.keep ka)
  have HC := Lib.hid (rPut_any h1 hW hP hl x.who x.key x.val)
  clear _u1 _u2 _u3 _u4 h h1 ka hW hP hA hl hlg _hx KD
  go_enter Tryz.func12, Tryz.ntmps12
  have c0 : World.cell? _ ⟨w.heap.size, 0, none⟩ = some (.int .i64 x.dw) := b0.out.cell 0
  have c1 : World.cell? _ ⟨w.heap.size, 1, none⟩ = some (.int .i64 x.who) := b0.out.cell 1
  have c2 : World.cell? _ ⟨w.heap.size, 2, none⟩ = some (.int .i64 x.n) := b0.out.cell 2
  have c3 : World.cell? _ ⟨w.heap.size, 3, none⟩ = some (sv x.key) := b0.out.cell 3
  have c4 : World.cell? _ ⟨w.heap.size, 4, none⟩ = some (sv x.val) := b0.out.cell 4
  have c5 : World.cell? _ ⟨w.heap.size, 5, none⟩ = some (.int .i64 x.r.kind) := b0.out.cell 5
  have c6 : World.cell? _ ⟨w.heap.size, 6, none⟩ = some (sv x.r.key) := b0.out.cell 6
  have c7 : World.cell? _ ⟨w.heap.size, 7, none⟩ = some (sv x.r.val) := b0.out.cell 7
  have c8 : World.cell? _ ⟨w.heap.size, 8, none⟩ = some (.slice A x.r.list.length cc) := b0.out.cell 8
  go_wp2_with fail
  refine HC.out.mono ?_
  rintro e w1 ⟨rfl, ht⟩
  have HT := Lib.hid (RTurn.after KA.out (ht))
  clear ht
  clear HC c0 c1 c2 c3 c4 c5 c6 c7 c8
  go_wp2_with fail
  go_ret3
  unfold RDoQ
  rw [E0.out]
  exact ⟨_, rfl, World.ownsRow_nil _ _ _ _, HT.out⟩
set_option maxRecDepth 100000 in
set_option maxHeartbeats 3200000 in
theorem rdo1_any {w : World} {d : Nat} {F G : List Nat} {C : St} {P : List Str} (h : Rf w d F G C) (hW : WF P C) (hP : PoolOk P) (hl : C.length ≤ 1000000) (hlg : lgSize C ≤ 200000000) (x : Opn) (_hx : OkO P x) (A : Option Addr) (cc : Nat) (hA : AtS w A x.r.list) (hk : bits .and .i64 x.dw 15 = 1) :
    Calls Tryz.prog 12 #[.pointer (some ⟨d, 0, none⟩), .agg #[.int .i64 x.dw, .int .i64 x.who, .int .i64 x.n, sv x.key, sv x.val, .int .i64 x.r.kind, sv x.r.key, sv x.r.val, .slice A x.r.list.length cc]] w (RDoQ w d F G C x) := by
  have ka : Keeps [] w (w.alloc (.cells #[.int .i64 x.dw, .int .i64 x.who, .int .i64 x.n, sv x.key, sv x.val, .int .i64 x.r.kind, sv x.r.key, sv x.r.val, .slice A x.r.list.length cc] 36)) := (Keeps.refl _ _).alloc _
  have b0 : Hid (Blk (w.alloc (.cells #[.int .i64 x.dw, .int .i64 x.who, .int .i64 x.n, sv x.key, sv x.val, .int .i64 x.r.kind, sv x.r.key, sv x.r.val, .slice A x.r.list.length cc] 36)) w.heap.size 36 #[.int .i64 x.dw, .int .i64 x.who, .int .i64 x.n, sv x.key, sv x.val, .int .i64 x.r.kind, sv x.r.key, sv x.r.val, .slice A x.r.list.length cc]) := Lib.hid (Blk.new w 36 _)
  have h1 := h.keep0 ka
  have hdF := h.dF
  have _u1 := hl
  have _u2 := hlg
  have _u3 := hP
  have _u4 := hW
  have KA := Lib.hid ka
  have KD : doing x = 1 := by unfold doing; rw [← and_15]; exact hk
  have E0 : Hid (doP C x = (([], [], 0), putP C x.who x.key x.val)) := Lib.hid (by
    unfold doP
    rw [if_pos (by omega)])
  have HA := Lib.hid (hA.keep ka)
  have HC := Lib.hid (rPut_any h1 hW hP hl x.who x.key x.val)
  clear _u1 _u2 _u3 _u4 h h1 ka hW hP hA hl hlg _hx KD
  go_enter Tryz.func12, Tryz.ntmps12
  have c0 : World.cell? _ ⟨w.heap.size, 0, none⟩ = some (.int .i64 x.dw) := b0.out.cell 0
  have c1 : World.cell? _ ⟨w.heap.size, 1, none⟩ = some (.int .i64 x.who) := b0.out.cell 1
  have c2 : World.cell? _ ⟨w.heap.size, 2, none⟩ = some (.int .i64 x.n) := b0.out.cell 2
  have c3 : World.cell? _ ⟨w.heap.size, 3, none⟩ = some (sv x.key) := b0.out.cell 3
  have c4 : World.cell? _ ⟨w.heap.size, 4, none⟩ = some (sv x.val) := b0.out.cell 4
  have c5 : World.cell? _ ⟨w.heap.size, 5, none⟩ = some (.int .i64 x.r.kind) := b0.out.cell 5
  have c6 : World.cell? _ ⟨w.heap.size, 6, none⟩ = some (sv x.r.key) := b0.out.cell 6
  have c7 : World.cell? _ ⟨w.heap.size, 7, none⟩ = some (sv x.r.val) := b0.out.cell 7
  have c8 : World.cell? _ ⟨w.heap.size, 8, none⟩ = some (.slice A x.r.list.length cc) := b0.out.cell 8
  go_wp2_with fail
  refine HC.out.mono ?_
  rintro e w1 ⟨rfl, ht⟩
  have HT := Lib.hid (RTurn.after KA.out (ht))
  clear ht
  clear HC c0 c1 c2 c3 c4 c5 c6 c7 c8
  go_wp2_with fail
  go_ret3
  unfold RDoQ
  rw [E0.out]
  exact ⟨_, rfl, World.ownsRow_nil _ _ _ _, HT.out⟩
set_option maxRecDepth 100000 in
set_option maxHeartbeats 3200000 in
theorem rdo2_any {w : World} {d : Nat} {F G : List Nat} {C : St} {P : List Str} (h : Rf w d F G C) (hW : WF P C) (hP : PoolOk P) (hl : C.length ≤ 1000000) (hlg : lgSize C ≤ 200000000) (x : Opn) (_hx : OkO P x) (A : Option Addr) (cc : Nat) (hA : AtS w A x.r.list) (hk : bits .and .i64 x.dw 15 = 2) :
    Calls Tryz.prog 12 #[.pointer (some ⟨d, 0, none⟩), .agg #[.int .i64 x.dw, .int .i64 x.who, .int .i64 x.n, sv x.key, sv x.val, .int .i64 x.r.kind, sv x.r.key, sv x.r.val, .slice A x.r.list.length cc]] w (RDoQ w d F G C x) := by
  have ka : Keeps [] w (w.alloc (.cells #[.int .i64 x.dw, .int .i64 x.who, .int .i64 x.n, sv x.key, sv x.val, .int .i64 x.r.kind, sv x.r.key, sv x.r.val, .slice A x.r.list.length cc] 36)) := (Keeps.refl _ _).alloc _
  have b0 : Hid (Blk (w.alloc (.cells #[.int .i64 x.dw, .int .i64 x.who, .int .i64 x.n, sv x.key, sv x.val, .int .i64 x.r.kind, sv x.r.key, sv x.r.val, .slice A x.r.list.length cc] 36)) w.heap.size 36 #[.int .i64 x.dw, .int .i64 x.who, .int .i64 x.n, sv x.key, sv x.val, .int .i64 x.r.kind, sv x.r.key, sv x.r.val, .slice A x.r.list.length cc]) := Lib.hid (Blk.new w 36 _)
  have h1 := h.keep0 ka
  have hdF := h.dF
  have _u1 := hl
  have _u2 := hlg
  have _u3 := hP
  have _u4 := hW
  have KA := Lib.hid ka
  have KD : doing x = 2 := by unfold doing; rw [← and_15]; exact hk
  have E0 : Hid (doP C x = (([], [], 0), putP C x.who x.key x.val)) := Lib.hid (by
    unfold doP
    rw [if_pos (by omega)])
  have HA := Lib.hid (hA.keep ka)
  have HC := Lib.hid (rPut_any h1 hW hP hl x.who x.key x.val)
  clear _u1 _u2 _u3 _u4 h h1 ka hW hP hA hl hlg _hx KD
  go_enter Tryz.func12, Tryz.ntmps12
  have c0 : World.cell? _ ⟨w.heap.size, 0, none⟩ = some (.int .i64 x.dw) := b0.out.cell 0
  have c1 : World.cell? _ ⟨w.heap.size, 1, none⟩ = some (.int .i64 x.who) := b0.out.cell 1
  have c2 : World.cell? _ ⟨w.heap.size, 2, none⟩ = some (.int .i64 x.n) := b0.out.cell 2
  have c3 : World.cell? _ ⟨w.heap.size, 3, none⟩ = some (sv x.key) := b0.out.cell 3
  have c4 : World.cell? _ ⟨w.heap.size, 4, none⟩ = some (sv x.val) := b0.out.cell 4
  have c5 : World.cell? _ ⟨w.heap.size, 5, none⟩ = some (.int .i64 x.r.kind) := b0.out.cell 5
  have c6 : World.cell? _ ⟨w.heap.size, 6, none⟩ = some (sv x.r.key) := b0.out.cell 6
  have c7 : World.cell? _ ⟨w.heap.size, 7, none⟩ = some (sv x.r.val) := b0.out.cell 7
  have c8 : World.cell? _ ⟨w.heap.size, 8, none⟩ = some (.slice A x.r.list.length cc) := b0.out.cell 8
  go_wp2_with fail
  refine HC.out.mono ?_
  rintro e w1 ⟨rfl, ht⟩
  have HT := Lib.hid (RTurn.after KA.out (ht))
  clear ht
  clear HC c0 c1 c2 c3 c4 c5 c6 c7 c8
  go_wp2_with fail
  go_ret3
  unfold RDoQ
  rw [E0.out]
  exact ⟨_, rfl, World.ownsRow_nil _ _ _ _, HT.out⟩
set_option maxRecDepth 100000 in
set_option maxHeartbeats 3200000 in
theorem rdo3_any {w : World} {d : Nat} {F G : List Nat} {C : St} {P : List Str} (h : Rf w d F G C) (hW : WF P C) (hP : PoolOk P) (hl : C.length ≤ 1000000) (hlg : lgSize C ≤ 200000000) (x : Opn) (_hx : OkO P x) (A : Option Addr) (cc : Nat) (hA : AtS w A x.r.list) (hk : bits .and .i64 x.dw 15 = 3) :
    Calls Tryz.prog 12 #[.pointer (some ⟨d, 0, none⟩), .agg #[.int .i64 x.dw, .int .i64 x.who, .int .i64 x.n, sv x.key, sv x.val, .int .i64 x.r.kind, sv x.r.key, sv x.r.val, .slice A x.r.list.length cc]] w (RDoQ w d F G C x) := by
  have ka : Keeps [] w (w.alloc (.cells #[.int .i64 x.dw, .int .i64 x.who, .int .i64 x.n, sv x.key, sv x.val, .int .i64 x.r.kind, sv x.r.key, sv x.r.val, .slice A x.r.list.length cc] 36)) := (Keeps.refl _ _).alloc _
  have b0 : Hid (Blk (w.alloc (.cells #[.int .i64 x.dw, .int .i64 x.who, .int .i64 x.n, sv x.key, sv x.val, .int .i64 x.r.kind, sv x.r.key, sv x.r.val, .slice A x.r.list.length cc] 36)) w.heap.size 36 #[.int .i64 x.dw, .int .i64 x.who, .int .i64 x.n, sv x.key, sv x.val, .int .i64 x.r.kind, sv x.r.key, sv x.r.val, .slice A x.r.list.length cc]) := Lib.hid (Blk.new w 36 _)
  have h1 := h.keep0 ka
  have hdF := h.dF
  have _u1 := hl
  have _u2 := hlg
  have _u3 := hP
  have _u4 := hW
  have KA := Lib.hid ka
  have KD : doing x = 3 := by unfold doing; rw [← and_15]; exact hk
  have E0 : Hid (doP C x = (([], [], 0), putP C x.who x.key x.val)) := Lib.hid (by
    unfold doP
    rw [if_pos (by omega)])
  have HA := Lib.hid (hA.keep ka)
  have HC := Lib.hid (rPut_any h1 hW hP hl x.who x.key x.val)
  clear _u1 _u2 _u3 _u4 h h1 ka hW hP hA hl hlg _hx KD
  go_enter Tryz.func12, Tryz.ntmps12
  have c0 : World.cell? _ ⟨w.heap.size, 0, none⟩ = some (.int .i64 x.dw) := b0.out.cell 0
  have c1 : World.cell? _ ⟨w.heap.size, 1, none⟩ = some (.int .i64 x.who) := b0.out.cell 1
  have c2 : World.cell? _ ⟨w.heap.size, 2, none⟩ = some (.int .i64 x.n) := b0.out.cell 2
  have c3 : World.cell? _ ⟨w.heap.size, 3, none⟩ = some (sv x.key) := b0.out.cell 3
  have c4 : World.cell? _ ⟨w.heap.size, 4, none⟩ = some (sv x.val) := b0.out.cell 4
  have c5 : World.cell? _ ⟨w.heap.size, 5, none⟩ = some (.int .i64 x.r.kind) := b0.out.cell 5
  have c6 : World.cell? _ ⟨w.heap.size, 6, none⟩ = some (sv x.r.key) := b0.out.cell 6
  have c7 : World.cell? _ ⟨w.heap.size, 7, none⟩ = some (sv x.r.val) := b0.out.cell 7
  have c8 : World.cell? _ ⟨w.heap.size, 8, none⟩ = some (.slice A x.r.list.length cc) := b0.out.cell 8
  go_wp2_with fail
  refine HC.out.mono ?_
  rintro e w1 ⟨rfl, ht⟩
  have HT := Lib.hid (RTurn.after KA.out (ht))
  clear ht
  clear HC c0 c1 c2 c3 c4 c5 c6 c7 c8
  go_wp2_with fail
  go_ret3
  unfold RDoQ
  rw [E0.out]
  exact ⟨_, rfl, World.ownsRow_nil _ _ _ _, HT.out⟩
set_option maxRecDepth 100000 in
set_option maxHeartbeats 3200000 in
theorem rdo4_any {w : World} {d : Nat} {F G : List Nat} {C : St} {P : List Str} (h : Rf w d F G C) (hW : WF P C) (hP : PoolOk P) (hl : C.length ≤ 1000000) (hlg : lgSize C ≤ 200000000) (x : Opn) (hx : OkO P x) (A : Option Addr) (cc : Nat) (hA : AtS w A x.r.list) (hk : bits .and .i64 x.dw 15 = 4) :
    Calls Tryz.prog 12 #[.pointer (some ⟨d, 0, none⟩), .agg #[.int .i64 x.dw, .int .i64 x.who, .int .i64 x.n, sv x.key, sv x.val, .int .i64 x.r.kind, sv x.r.key, sv x.r.val, .slice A x.r.list.length cc]] w (RDoQ w d F G C x) := by
  have ka : Keeps [] w (w.alloc (.cells #[.int .i64 x.dw, .int .i64 x.who, .int .i64 x.n, sv x.key, sv x.val, .int .i64 x.r.kind, sv x.r.key, sv x.r.val, .slice A x.r.list.length cc] 36)) := (Keeps.refl _ _).alloc _
  have b0 : Hid (Blk (w.alloc (.cells #[.int .i64 x.dw, .int .i64 x.who, .int .i64 x.n, sv x.key, sv x.val, .int .i64 x.r.kind, sv x.r.key, sv x.r.val, .slice A x.r.list.length cc] 36)) w.heap.size 36 #[.int .i64 x.dw, .int .i64 x.who, .int .i64 x.n, sv x.key, sv x.val, .int .i64 x.r.kind, sv x.r.key, sv x.r.val, .slice A x.r.list.length cc]) := Lib.hid (Blk.new w 36 _)
  have h1 := h.keep0 ka
  have hdF := h.dF
  have _u1 := hl
  have _u2 := hlg
  have _u3 := hP
  have _u4 := hW
  have KA := Lib.hid ka
  have KD : doing x = 4 := by unfold doing; rw [← and_15]; exact hk
  have E0 : Hid (doP C x = ((sees (askP C x.who x.key) x.who x.key, [], 0), askP C x.who x.key)) := Lib.hid (by
    unfold doP
    rw [if_neg (by omega), if_neg (by omega), if_neg (by omega), if_neg (by omega), if_neg (by omega), if_neg (by omega), if_neg (by omega), if_neg (by omega)])
  have HA := Lib.hid (hA.keep ka)
  have HC := Lib.hid (rGet_any h1 hW hP hl x.who x.key hx.k)
  clear _u1 _u2 _u3 _u4 h h1 ka hW hP hA hl hlg hx KD
  go_enter Tryz.func12, Tryz.ntmps12
  have c0 : World.cell? _ ⟨w.heap.size, 0, none⟩ = some (.int .i64 x.dw) := b0.out.cell 0
  have c1 : World.cell? _ ⟨w.heap.size, 1, none⟩ = some (.int .i64 x.who) := b0.out.cell 1
  have c2 : World.cell? _ ⟨w.heap.size, 2, none⟩ = some (.int .i64 x.n) := b0.out.cell 2
  have c3 : World.cell? _ ⟨w.heap.size, 3, none⟩ = some (sv x.key) := b0.out.cell 3
  have c4 : World.cell? _ ⟨w.heap.size, 4, none⟩ = some (sv x.val) := b0.out.cell 4
  have c5 : World.cell? _ ⟨w.heap.size, 5, none⟩ = some (.int .i64 x.r.kind) := b0.out.cell 5
  have c6 : World.cell? _ ⟨w.heap.size, 6, none⟩ = some (sv x.r.key) := b0.out.cell 6
  have c7 : World.cell? _ ⟨w.heap.size, 7, none⟩ = some (sv x.r.val) := b0.out.cell 7
  have c8 : World.cell? _ ⟨w.heap.size, 8, none⟩ = some (.slice A x.r.list.length cc) := b0.out.cell 8
  go_wp2_with fail
  refine HC.out.mono ?_
  rintro e w1 ⟨rfl, ht⟩
  have HT := Lib.hid (RTurn.after KA.out (ht))
  clear ht
  clear HC c0 c1 c2 c3 c4 c5 c6 c7 c8
  go_wp2_with fail
  go_ret3
  unfold RDoQ
  rw [E0.out]
  exact ⟨_, rfl, World.ownsRow_nil _ _ _ _, HT.out⟩
set_option maxRecDepth 100000 in
set_option maxHeartbeats 3200000 in
theorem rdo5_any {w : World} {d : Nat} {F G : List Nat} {C : St} {P : List Str} (h : Rf w d F G C) (hW : WF P C) (hP : PoolOk P) (hl : C.length ≤ 1000000) (hlg : lgSize C ≤ 200000000) (x : Opn) (hx : OkO P x) (A : Option Addr) (cc : Nat) (hA : AtS w A x.r.list) (hk : bits .and .i64 x.dw 15 = 5) :
    Calls Tryz.prog 12 #[.pointer (some ⟨d, 0, none⟩), .agg #[.int .i64 x.dw, .int .i64 x.who, .int .i64 x.n, sv x.key, sv x.val, .int .i64 x.r.kind, sv x.r.key, sv x.r.val, .slice A x.r.list.length cc]] w (RDoQ w d F G C x) := by
  have ka : Keeps [] w (w.alloc (.cells #[.int .i64 x.dw, .int .i64 x.who, .int .i64 x.n, sv x.key, sv x.val, .int .i64 x.r.kind, sv x.r.key, sv x.r.val, .slice A x.r.list.length cc] 36)) := (Keeps.refl _ _).alloc _
  have b0 : Hid (Blk (w.alloc (.cells #[.int .i64 x.dw, .int .i64 x.who, .int .i64 x.n, sv x.key, sv x.val, .int .i64 x.r.kind, sv x.r.key, sv x.r.val, .slice A x.r.list.length cc] 36)) w.heap.size 36 #[.int .i64 x.dw, .int .i64 x.who, .int .i64 x.n, sv x.key, sv x.val, .int .i64 x.r.kind, sv x.r.key, sv x.r.val, .slice A x.r.list.length cc]) := Lib.hid (Blk.new w 36 _)
  have h1 := h.keep0 ka
  have hdF := h.dF
  have _u1 := hl
  have _u2 := hlg
  have _u3 := hP
  have _u4 := hW
  have KA := Lib.hid ka
  have KD : doing x = 5 := by unfold doing; rw [← and_15]; exact hk
  have E0 : Hid (doP C x = ((sees (askP C x.who x.key) x.who x.key, [], 0), askP C x.who x.key)) := Lib.hid (by
    unfold doP
    rw [if_neg (by omega), if_neg (by omega), if_neg (by omega), if_neg (by omega), if_neg (by omega), if_neg (by omega), if_neg (by omega), if_neg (by omega)])
  have HA := Lib.hid (hA.keep ka)
  have HC := Lib.hid (rGet_any h1 hW hP hl x.who x.key hx.k)
  clear _u1 _u2 _u3 _u4 h h1 ka hW hP hA hl hlg hx KD
  go_enter Tryz.func12, Tryz.ntmps12
  have c0 : World.cell? _ ⟨w.heap.size, 0, none⟩ = some (.int .i64 x.dw) := b0.out.cell 0
  have c1 : World.cell? _ ⟨w.heap.size, 1, none⟩ = some (.int .i64 x.who) := b0.out.cell 1
  have c2 : World.cell? _ ⟨w.heap.size, 2, none⟩ = some (.int .i64 x.n) := b0.out.cell 2
  have c3 : World.cell? _ ⟨w.heap.size, 3, none⟩ = some (sv x.key) := b0.out.cell 3
  have c4 : World.cell? _ ⟨w.heap.size, 4, none⟩ = some (sv x.val) := b0.out.cell 4
  have c5 : World.cell? _ ⟨w.heap.size, 5, none⟩ = some (.int .i64 x.r.kind) := b0.out.cell 5
  have c6 : World.cell? _ ⟨w.heap.size, 6, none⟩ = some (sv x.r.key) := b0.out.cell 6
  have c7 : World.cell? _ ⟨w.heap.size, 7, none⟩ = some (sv x.r.val) := b0.out.cell 7
  have c8 : World.cell? _ ⟨w.heap.size, 8, none⟩ = some (.slice A x.r.list.length cc) := b0.out.cell 8
  go_wp2_with fail
  refine HC.out.mono ?_
  rintro e w1 ⟨rfl, ht⟩
  have HT := Lib.hid (RTurn.after KA.out (ht))
  clear ht
  clear HC c0 c1 c2 c3 c4 c5 c6 c7 c8
  go_wp2_with fail
  go_ret3
  unfold RDoQ
  rw [E0.out]
  exact ⟨_, rfl, World.ownsRow_nil _ _ _ _, HT.out⟩
set_option maxRecDepth 100000 in
set_option maxHeartbeats 3200000 in
theorem rdo6_any {w : World} {d : Nat} {F G : List Nat} {C : St} {P : List Str} (h : Rf w d F G C) (hW : WF P C) (hP : PoolOk P) (hl : C.length ≤ 1000000) (hlg : lgSize C ≤ 200000000) (x : Opn) (hx : OkO P x) (A : Option Addr) (cc : Nat) (hA : AtS w A x.r.list) (hk : bits .and .i64 x.dw 15 = 6) :
    Calls Tryz.prog 12 #[.pointer (some ⟨d, 0, none⟩), .agg #[.int .i64 x.dw, .int .i64 x.who, .int .i64 x.n, sv x.key, sv x.val, .int .i64 x.r.kind, sv x.r.key, sv x.r.val, .slice A x.r.list.length cc]] w (RDoQ w d F G C x) := by
  have ka : Keeps [] w (w.alloc (.cells #[.int .i64 x.dw, .int .i64 x.who, .int .i64 x.n, sv x.key, sv x.val, .int .i64 x.r.kind, sv x.r.key, sv x.r.val, .slice A x.r.list.length cc] 36)) := (Keeps.refl _ _).alloc _
  have b0 : Hid (Blk (w.alloc (.cells #[.int .i64 x.dw, .int .i64 x.who, .int .i64 x.n, sv x.key, sv x.val, .int .i64 x.r.kind, sv x.r.key, sv x.r.val, .slice A x.r.list.length cc] 36)) w.heap.size 36 #[.int .i64 x.dw, .int .i64 x.who, .int .i64 x.n, sv x.key, sv x.val, .int .i64 x.r.kind, sv x.r.key, sv x.r.val, .slice A x.r.list.length cc]) := Lib.hid (Blk.new w 36 _)
  have h1 := h.keep0 ka
  have hdF := h.dF
  have _u1 := hl
  have _u2 := hlg
  have _u3 := hP
  have _u4 := hW
  have KA := Lib.hid ka
  have KD : doing x = 6 := by unfold doing; rw [← and_15]; exact hk
  have E0 : Hid (doP C x = (([], seesKeys (askKP C x.who x.key) x.who x.key, 0), askKP C x.who x.key)) := Lib.hid (by
    unfold doP
    rw [if_neg (by omega), if_pos (by omega)])
  have HA := Lib.hid (hA.keep ka)
  have HC := Lib.hid (rKeys_any h1 hW hP hl x.who x.key hx.k)
  clear _u1 _u2 _u3 _u4 h h1 ka hW hP hA hl hlg hx KD
  go_enter Tryz.func12, Tryz.ntmps12
  have c0 : World.cell? _ ⟨w.heap.size, 0, none⟩ = some (.int .i64 x.dw) := b0.out.cell 0
  have c1 : World.cell? _ ⟨w.heap.size, 1, none⟩ = some (.int .i64 x.who) := b0.out.cell 1
  have c2 : World.cell? _ ⟨w.heap.size, 2, none⟩ = some (.int .i64 x.n) := b0.out.cell 2
  have c3 : World.cell? _ ⟨w.heap.size, 3, none⟩ = some (sv x.key) := b0.out.cell 3
  have c4 : World.cell? _ ⟨w.heap.size, 4, none⟩ = some (sv x.val) := b0.out.cell 4
  have c5 : World.cell? _ ⟨w.heap.size, 5, none⟩ = some (.int .i64 x.r.kind) := b0.out.cell 5
  have c6 : World.cell? _ ⟨w.heap.size, 6, none⟩ = some (sv x.r.key) := b0.out.cell 6
  have c7 : World.cell? _ ⟨w.heap.size, 7, none⟩ = some (sv x.r.val) := b0.out.cell 7
  have c8 : World.cell? _ ⟨w.heap.size, 8, none⟩ = some (.slice A x.r.list.length cc) := b0.out.cell 8
  go_wp2_with fail
  refine HC.out.mono ?_
  rintro e w1 ⟨⟨v, rfl, o1⟩, ht⟩
  have O1 := Lib.hid o1
  have HT := Lib.hid (RTurn.after KA.out ht)
  clear ht o1
  clear HC c0 c1 c2 c3 c4 c5 c6 c7 c8
  go_wp2_with fail
  go_ret3
  unfold RDoQ
  rw [E0.out]
  exact ⟨v, rfl, O1.out, HT.out⟩
set_option maxRecDepth 100000 in
set_option maxHeartbeats 3200000 in
theorem rdo7_any {w : World} {d : Nat} {F G : List Nat} {C : St} {P : List Str} (h : Rf w d F G C) (hW : WF P C) (hP : PoolOk P) (hl : C.length ≤ 1000000) (hlg : lgSize C ≤ 200000000) (x : Opn) (hx : OkO P x) (A : Option Addr) (cc : Nat) (hA : AtS w A x.r.list) (hk : bits .and .i64 x.dw 15 = 7) :
    Calls Tryz.prog 12 #[.pointer (some ⟨d, 0, none⟩), .agg #[.int .i64 x.dw, .int .i64 x.who, .int .i64 x.n, sv x.key, sv x.val, .int .i64 x.r.kind, sv x.r.key, sv x.r.val, .slice A x.r.list.length cc]] w (RDoQ w d F G C x) := by
  have ka : Keeps [] w (w.alloc (.cells #[.int .i64 x.dw, .int .i64 x.who, .int .i64 x.n, sv x.key, sv x.val, .int .i64 x.r.kind, sv x.r.key, sv x.r.val, .slice A x.r.list.length cc] 36)) := (Keeps.refl _ _).alloc _
  have b0 : Hid (Blk (w.alloc (.cells #[.int .i64 x.dw, .int .i64 x.who, .int .i64 x.n, sv x.key, sv x.val, .int .i64 x.r.kind, sv x.r.key, sv x.r.val, .slice A x.r.list.length cc] 36)) w.heap.size 36 #[.int .i64 x.dw, .int .i64 x.who, .int .i64 x.n, sv x.key, sv x.val, .int .i64 x.r.kind, sv x.r.key, sv x.r.val, .slice A x.r.list.length cc]) := Lib.hid (Blk.new w 36 _)
  have h1 := h.keep0 ka
  have hdF := h.dF
  have _u1 := hl
  have _u2 := hlg
  have _u3 := hP
  have _u4 := hW
  have KA := Lib.hid ka
  have KD : doing x = 7 := by unfold doing; rw [← and_15]; exact hk
  have E0 : Hid (doP C x = (([], [], 0), if x.val = [] then C else logP C x.who x.key x.val)) := Lib.hid (by
    unfold doP
    rw [if_neg (by omega), if_neg (by omega), if_pos (by omega)])
  have HA := Lib.hid (hA.keep ka)
  have HC := Lib.hid (rLog_any h1 hW hP hl (by omega) x.who x.key x.val (by have := hx.v; omega))
  clear _u1 _u2 _u3 _u4 h h1 ka hW hP hA hl hlg hx KD
  go_enter Tryz.func12, Tryz.ntmps12
  have c0 : World.cell? _ ⟨w.heap.size, 0, none⟩ = some (.int .i64 x.dw) := b0.out.cell 0
  have c1 : World.cell? _ ⟨w.heap.size, 1, none⟩ = some (.int .i64 x.who) := b0.out.cell 1
  have c2 : World.cell? _ ⟨w.heap.size, 2, none⟩ = some (.int .i64 x.n) := b0.out.cell 2
  have c3 : World.cell? _ ⟨w.heap.size, 3, none⟩ = some (sv x.key) := b0.out.cell 3
  have c4 : World.cell? _ ⟨w.heap.size, 4, none⟩ = some (sv x.val) := b0.out.cell 4
  have c5 : World.cell? _ ⟨w.heap.size, 5, none⟩ = some (.int .i64 x.r.kind) := b0.out.cell 5
  have c6 : World.cell? _ ⟨w.heap.size, 6, none⟩ = some (sv x.r.key) := b0.out.cell 6
  have c7 : World.cell? _ ⟨w.heap.size, 7, none⟩ = some (sv x.r.val) := b0.out.cell 7
  have c8 : World.cell? _ ⟨w.heap.size, 8, none⟩ = some (.slice A x.r.list.length cc) := b0.out.cell 8
  go_wp2_with fail
  refine HC.out.mono ?_
  rintro e w1 ⟨rfl, ht⟩
  have HT := Lib.hid (RTurn.after KA.out (ht))
  clear ht
  clear HC c0 c1 c2 c3 c4 c5 c6 c7 c8
  go_wp2_with fail
  go_ret3
  unfold RDoQ
  rw [E0.out]
  exact ⟨_, rfl, World.ownsRow_nil _ _ _ _, HT.out⟩
set_option maxRecDepth 100000 in
set_option maxHeartbeats 3200000 in
theorem rdo8_any {w : World} {d : Nat} {F G : List Nat} {C : St} {P : List Str} (h : Rf w d F G C) (hW : WF P C) (hP : PoolOk P) (hl : C.length ≤ 1000000) (hlg : lgSize C ≤ 200000000) (x : Opn) (_hx : OkO P x) (A : Option Addr) (cc : Nat) (hA : AtS w A x.r.list) (hk : bits .and .i64 x.dw 15 = 8) :
    Calls Tryz.prog 12 #[.pointer (some ⟨d, 0, none⟩), .agg #[.int .i64 x.dw, .int .i64 x.who, .int .i64 x.n, sv x.key, sv x.val, .int .i64 x.r.kind, sv x.r.key, sv x.r.val, .slice A x.r.list.length cc]] w (RDoQ w d F G C x) := by
  have ka : Keeps [] w (w.alloc (.cells #[.int .i64 x.dw, .int .i64 x.who, .int .i64 x.n, sv x.key, sv x.val, .int .i64 x.r.kind, sv x.r.key, sv x.r.val, .slice A x.r.list.length cc] 36)) := (Keeps.refl _ _).alloc _
  have b0 : Hid (Blk (w.alloc (.cells #[.int .i64 x.dw, .int .i64 x.who, .int .i64 x.n, sv x.key, sv x.val, .int .i64 x.r.kind, sv x.r.key, sv x.r.val, .slice A x.r.list.length cc] 36)) w.heap.size 36 #[.int .i64 x.dw, .int .i64 x.who, .int .i64 x.n, sv x.key, sv x.val, .int .i64 x.r.kind, sv x.r.key, sv x.r.val, .slice A x.r.list.length cc]) := Lib.hid (Blk.new w 36 _)
  have h1 := h.keep0 ka
  have hdF := h.dF
  have _u1 := hl
  have _u2 := hlg
  have _u3 := hP
  have _u4 := hW
  have KA := Lib.hid ka
  have KD : doing x = 8 := by unfold doing; rw [← and_15]; exact hk
  have E0 : Hid (doP C x = (([], [], (beginP C x.n x.who).1), (beginP C x.n x.who).2)) := Lib.hid (by
    unfold doP
    rw [if_neg (by omega), if_neg (by omega), if_neg (by omega), if_pos (by omega)])
  have HA := Lib.hid (hA.keep ka)
  have HC := Lib.hid (rBegin_any h1 hl x.n x.who)
  clear _u1 _u2 _u3 _u4 h h1 ka hW hP hA hl hlg _hx KD
  go_enter Tryz.func12, Tryz.ntmps12
  have c0 : World.cell? _ ⟨w.heap.size, 0, none⟩ = some (.int .i64 x.dw) := b0.out.cell 0
  have c1 : World.cell? _ ⟨w.heap.size, 1, none⟩ = some (.int .i64 x.who) := b0.out.cell 1
  have c2 : World.cell? _ ⟨w.heap.size, 2, none⟩ = some (.int .i64 x.n) := b0.out.cell 2
  have c3 : World.cell? _ ⟨w.heap.size, 3, none⟩ = some (sv x.key) := b0.out.cell 3
  have c4 : World.cell? _ ⟨w.heap.size, 4, none⟩ = some (sv x.val) := b0.out.cell 4
  have c5 : World.cell? _ ⟨w.heap.size, 5, none⟩ = some (.int .i64 x.r.kind) := b0.out.cell 5
  have c6 : World.cell? _ ⟨w.heap.size, 6, none⟩ = some (sv x.r.key) := b0.out.cell 6
  have c7 : World.cell? _ ⟨w.heap.size, 7, none⟩ = some (sv x.r.val) := b0.out.cell 7
  have c8 : World.cell? _ ⟨w.heap.size, 8, none⟩ = some (.slice A x.r.list.length cc) := b0.out.cell 8
  go_wp2_with fail
  refine HC.out.mono ?_
  rintro e w1 ⟨rfl, ht⟩
  have HT := Lib.hid (RTurn.after KA.out (ht.turn hdF))
  clear ht
  clear HC c0 c1 c2 c3 c4 c5 c6 c7 c8
  go_wp2_with fail
  go_ret3
  unfold RDoQ
  rw [E0.out]
  exact ⟨_, rfl, World.ownsRow_nil _ _ _ _, HT.out⟩
set_option maxRecDepth 100000 in
set_option maxHeartbeats 3200000 in
theorem rdo9_any {w : World} {d : Nat} {F G : List Nat} {C : St} {P : List Str} (h : Rf w d F G C) (hW : WF P C) (hP : PoolOk P) (hl : C.length ≤ 1000000) (hlg : lgSize C ≤ 200000000) (x : Opn) (_hx : OkO P x) (A : Option Addr) (cc : Nat) (hA : AtS w A x.r.list) (hk : bits .and .i64 x.dw 15 = 9) :
    Calls Tryz.prog 12 #[.pointer (some ⟨d, 0, none⟩), .agg #[.int .i64 x.dw, .int .i64 x.who, .int .i64 x.n, sv x.key, sv x.val, .int .i64 x.r.kind, sv x.r.key, sv x.r.val, .slice A x.r.list.length cc]] w (RDoQ w d F G C x) := by
  have ka : Keeps [] w (w.alloc (.cells #[.int .i64 x.dw, .int .i64 x.who, .int .i64 x.n, sv x.key, sv x.val, .int .i64 x.r.kind, sv x.r.key, sv x.r.val, .slice A x.r.list.length cc] 36)) := (Keeps.refl _ _).alloc _
  have b0 : Hid (Blk (w.alloc (.cells #[.int .i64 x.dw, .int .i64 x.who, .int .i64 x.n, sv x.key, sv x.val, .int .i64 x.r.kind, sv x.r.key, sv x.r.val, .slice A x.r.list.length cc] 36)) w.heap.size 36 #[.int .i64 x.dw, .int .i64 x.who, .int .i64 x.n, sv x.key, sv x.val, .int .i64 x.r.kind, sv x.r.key, sv x.r.val, .slice A x.r.list.length cc]) := Lib.hid (Blk.new w 36 _)
  have h1 := h.keep0 ka
  have hdF := h.dF
  have _u1 := hl
  have _u2 := hlg
  have _u3 := hP
  have _u4 := hW
  have KA := Lib.hid ka
  have KD : doing x = 9 := by unfold doing; rw [← and_15]; exact hk
  have E0 : Hid (doP C x = (([], [], (commitP C x.who).1), (commitP C x.who).2)) := Lib.hid (by
    unfold doP
    rw [if_neg (by omega), if_neg (by omega), if_neg (by omega), if_neg (by omega), if_pos (by omega)])
  have HA := Lib.hid (hA.keep ka)
  have HC := Lib.hid (rCommit_any h1 hW hP hl hlg x.who)
  clear _u1 _u2 _u3 _u4 h h1 ka hW hP hA hl hlg _hx KD
  go_enter Tryz.func12, Tryz.ntmps12
  have c0 : World.cell? _ ⟨w.heap.size, 0, none⟩ = some (.int .i64 x.dw) := b0.out.cell 0
  have c1 : World.cell? _ ⟨w.heap.size, 1, none⟩ = some (.int .i64 x.who) := b0.out.cell 1
  have c2 : World.cell? _ ⟨w.heap.size, 2, none⟩ = some (.int .i64 x.n) := b0.out.cell 2
  have c3 : World.cell? _ ⟨w.heap.size, 3, none⟩ = some (sv x.key) := b0.out.cell 3
  have c4 : World.cell? _ ⟨w.heap.size, 4, none⟩ = some (sv x.val) := b0.out.cell 4
  have c5 : World.cell? _ ⟨w.heap.size, 5, none⟩ = some (.int .i64 x.r.kind) := b0.out.cell 5
  have c6 : World.cell? _ ⟨w.heap.size, 6, none⟩ = some (sv x.r.key) := b0.out.cell 6
  have c7 : World.cell? _ ⟨w.heap.size, 7, none⟩ = some (sv x.r.val) := b0.out.cell 7
  have c8 : World.cell? _ ⟨w.heap.size, 8, none⟩ = some (.slice A x.r.list.length cc) := b0.out.cell 8
  go_wp2_with fail
  refine HC.out.mono ?_
  rintro e w1 ⟨rfl, ht⟩
  have HT := Lib.hid (RTurn.after KA.out (ht))
  clear ht
  clear HC c0 c1 c2 c3 c4 c5 c6 c7 c8
  go_wp2_with fail
  go_ret3
  unfold RDoQ
  rw [E0.out]
  exact ⟨_, rfl, World.ownsRow_nil _ _ _ _, HT.out⟩
set_option maxRecDepth 100000 in
set_option maxHeartbeats 3200000 in
theorem rdo10_any {w : World} {d : Nat} {F G : List Nat} {C : St} {P : List Str} (h : Rf w d F G C) (hW : WF P C) (hP : PoolOk P) (hl : C.length ≤ 1000000) (hlg : lgSize C ≤ 200000000) (x : Opn) (_hx : OkO P x) (A : Option Addr) (cc : Nat) (hA : AtS w A x.r.list) (hk : bits .and .i64 x.dw 15 = 10) :
    Calls Tryz.prog 12 #[.pointer (some ⟨d, 0, none⟩), .agg #[.int .i64 x.dw, .int .i64 x.who, .int .i64 x.n, sv x.key, sv x.val, .int .i64 x.r.kind, sv x.r.key, sv x.r.val, .slice A x.r.list.length cc]] w (RDoQ w d F G C x) := by
  have ka : Keeps [] w (w.alloc (.cells #[.int .i64 x.dw, .int .i64 x.who, .int .i64 x.n, sv x.key, sv x.val, .int .i64 x.r.kind, sv x.r.key, sv x.r.val, .slice A x.r.list.length cc] 36)) := (Keeps.refl _ _).alloc _
  have b0 : Hid (Blk (w.alloc (.cells #[.int .i64 x.dw, .int .i64 x.who, .int .i64 x.n, sv x.key, sv x.val, .int .i64 x.r.kind, sv x.r.key, sv x.r.val, .slice A x.r.list.length cc] 36)) w.heap.size 36 #[.int .i64 x.dw, .int .i64 x.who, .int .i64 x.n, sv x.key, sv x.val, .int .i64 x.r.kind, sv x.r.key, sv x.r.val, .slice A x.r.list.length cc]) := Lib.hid (Blk.new w 36 _)
  have h1 := h.keep0 ka
  have hdF := h.dF
  have _u1 := hl
  have _u2 := hlg
  have _u3 := hP
  have _u4 := hW
  have KA := Lib.hid ka
  have KD : doing x = 10 := by unfold doing; rw [← and_15]; exact hk
  have E0 : Hid (doP C x = (([], [], 0), abortP C x.who)) := Lib.hid (by
    unfold doP
    rw [if_neg (by omega), if_neg (by omega), if_neg (by omega), if_neg (by omega), if_neg (by omega), if_pos (by omega)])
  have HA := Lib.hid (hA.keep ka)
  have HC := Lib.hid (rAbort_any h1 hW hl x.who)
  clear _u1 _u2 _u3 _u4 h h1 ka hW hP hA hl hlg _hx KD
  go_enter Tryz.func12, Tryz.ntmps12
  have c0 : World.cell? _ ⟨w.heap.size, 0, none⟩ = some (.int .i64 x.dw) := b0.out.cell 0
  have c1 : World.cell? _ ⟨w.heap.size, 1, none⟩ = some (.int .i64 x.who) := b0.out.cell 1
  have c2 : World.cell? _ ⟨w.heap.size, 2, none⟩ = some (.int .i64 x.n) := b0.out.cell 2
  have c3 : World.cell? _ ⟨w.heap.size, 3, none⟩ = some (sv x.key) := b0.out.cell 3
  have c4 : World.cell? _ ⟨w.heap.size, 4, none⟩ = some (sv x.val) := b0.out.cell 4
  have c5 : World.cell? _ ⟨w.heap.size, 5, none⟩ = some (.int .i64 x.r.kind) := b0.out.cell 5
  have c6 : World.cell? _ ⟨w.heap.size, 6, none⟩ = some (sv x.r.key) := b0.out.cell 6
  have c7 : World.cell? _ ⟨w.heap.size, 7, none⟩ = some (sv x.r.val) := b0.out.cell 7
  have c8 : World.cell? _ ⟨w.heap.size, 8, none⟩ = some (.slice A x.r.list.length cc) := b0.out.cell 8
  go_wp2_with fail
  refine HC.out.mono ?_
  rintro e w1 ⟨rfl, ht⟩
  have HT := Lib.hid (RTurn.after KA.out (ht.turn hdF))
  clear ht
  clear HC c0 c1 c2 c3 c4 c5 c6 c7 c8
  go_wp2_with fail
  go_ret3
  unfold RDoQ
  rw [E0.out]
  exact ⟨_, rfl, World.ownsRow_nil _ _ _ _, HT.out⟩
set_option maxRecDepth 100000 in
set_option maxHeartbeats 3200000 in
theorem rdo11_any {w : World} {d : Nat} {F G : List Nat} {C : St} {P : List Str} (h : Rf w d F G C) (hW : WF P C) (hP : PoolOk P) (hl : C.length ≤ 1000000) (hlg : lgSize C ≤ 200000000) (x : Opn) (_hx : OkO P x) (A : Option Addr) (cc : Nat) (hA : AtS w A x.r.list) (hk : bits .and .i64 x.dw 15 = 11) :
    Calls Tryz.prog 12 #[.pointer (some ⟨d, 0, none⟩), .agg #[.int .i64 x.dw, .int .i64 x.who, .int .i64 x.n, sv x.key, sv x.val, .int .i64 x.r.kind, sv x.r.key, sv x.r.val, .slice A x.r.list.length cc]] w (RDoQ w d F G C x) := by
  have ka : Keeps [] w (w.alloc (.cells #[.int .i64 x.dw, .int .i64 x.who, .int .i64 x.n, sv x.key, sv x.val, .int .i64 x.r.kind, sv x.r.key, sv x.r.val, .slice A x.r.list.length cc] 36)) := (Keeps.refl _ _).alloc _
  have b0 : Hid (Blk (w.alloc (.cells #[.int .i64 x.dw, .int .i64 x.who, .int .i64 x.n, sv x.key, sv x.val, .int .i64 x.r.kind, sv x.r.key, sv x.r.val, .slice A x.r.list.length cc] 36)) w.heap.size 36 #[.int .i64 x.dw, .int .i64 x.who, .int .i64 x.n, sv x.key, sv x.val, .int .i64 x.r.kind, sv x.r.key, sv x.r.val, .slice A x.r.list.length cc]) := Lib.hid (Blk.new w 36 _)
  have h1 := h.keep0 ka
  have hdF := h.dF
  have _u1 := hl
  have _u2 := hlg
  have _u3 := hP
  have _u4 := hW
  have KA := Lib.hid ka
  have KD : doing x = 11 := by unfold doing; rw [← and_15]; exact hk
  have E0 : Hid (doP C x = (([], [], 0), noteP C x.who ⟨0, x.key, x.val, []⟩)) := Lib.hid (by
    unfold doP
    rw [if_neg (by omega), if_neg (by omega), if_neg (by omega), if_neg (by omega), if_neg (by omega), if_neg (by omega), if_pos (by omega)])
  have HA := Lib.hid (hA.keep ka)
  have HC := Lib.hid (rAssume_any h1 hW hP hl x.who x.key x.val)
  clear _u1 _u2 _u3 _u4 h h1 ka hW hP hA hl hlg _hx KD
  go_enter Tryz.func12, Tryz.ntmps12
  have c0 : World.cell? _ ⟨w.heap.size, 0, none⟩ = some (.int .i64 x.dw) := b0.out.cell 0
  have c1 : World.cell? _ ⟨w.heap.size, 1, none⟩ = some (.int .i64 x.who) := b0.out.cell 1
  have c2 : World.cell? _ ⟨w.heap.size, 2, none⟩ = some (.int .i64 x.n) := b0.out.cell 2
  have c3 : World.cell? _ ⟨w.heap.size, 3, none⟩ = some (sv x.key) := b0.out.cell 3
  have c4 : World.cell? _ ⟨w.heap.size, 4, none⟩ = some (sv x.val) := b0.out.cell 4
  have c5 : World.cell? _ ⟨w.heap.size, 5, none⟩ = some (.int .i64 x.r.kind) := b0.out.cell 5
  have c6 : World.cell? _ ⟨w.heap.size, 6, none⟩ = some (sv x.r.key) := b0.out.cell 6
  have c7 : World.cell? _ ⟨w.heap.size, 7, none⟩ = some (sv x.r.val) := b0.out.cell 7
  have c8 : World.cell? _ ⟨w.heap.size, 8, none⟩ = some (.slice A x.r.list.length cc) := b0.out.cell 8
  go_wp2_with fail
  refine HC.out.mono ?_
  rintro e w1 ⟨rfl, ht⟩
  have HT := Lib.hid (RTurn.after KA.out (ht))
  clear ht
  clear HC c0 c1 c2 c3 c4 c5 c6 c7 c8
  go_wp2_with fail
  go_ret3
  unfold RDoQ
  rw [E0.out]
  exact ⟨_, rfl, World.ownsRow_nil _ _ _ _, HT.out⟩
set_option maxRecDepth 100000 in
set_option maxHeartbeats 3200000 in
theorem rdo12_any {w : World} {d : Nat} {F G : List Nat} {C : St} {P : List Str} (h : Rf w d F G C) (hW : WF P C) (hP : PoolOk P) (hl : C.length ≤ 1000000) (hlg : lgSize C ≤ 200000000) (x : Opn) (_hx : OkO P x) (A : Option Addr) (cc : Nat) (hA : AtS w A x.r.list) (hk : bits .and .i64 x.dw 15 = 12) :
    Calls Tryz.prog 12 #[.pointer (some ⟨d, 0, none⟩), .agg #[.int .i64 x.dw, .int .i64 x.who, .int .i64 x.n, sv x.key, sv x.val, .int .i64 x.r.kind, sv x.r.key, sv x.r.val, .slice A x.r.list.length cc]] w (RDoQ w d F G C x) := by
  have ka : Keeps [] w (w.alloc (.cells #[.int .i64 x.dw, .int .i64 x.who, .int .i64 x.n, sv x.key, sv x.val, .int .i64 x.r.kind, sv x.r.key, sv x.r.val, .slice A x.r.list.length cc] 36)) := (Keeps.refl _ _).alloc _
  have b0 : Hid (Blk (w.alloc (.cells #[.int .i64 x.dw, .int .i64 x.who, .int .i64 x.n, sv x.key, sv x.val, .int .i64 x.r.kind, sv x.r.key, sv x.r.val, .slice A x.r.list.length cc] 36)) w.heap.size 36 #[.int .i64 x.dw, .int .i64 x.who, .int .i64 x.n, sv x.key, sv x.val, .int .i64 x.r.kind, sv x.r.key, sv x.r.val, .slice A x.r.list.length cc]) := Lib.hid (Blk.new w 36 _)
  have h1 := h.keep0 ka
  have hdF := h.dF
  have _u1 := hl
  have _u2 := hlg
  have _u3 := hP
  have _u4 := hW
  have KA := Lib.hid ka
  have KD : doing x = 12 := by unfold doing; rw [← and_15]; exact hk
  have E0 : Hid (doP C x = (([], [], 0), noteP C x.who x.r)) := Lib.hid (by
    unfold doP
    rw [if_neg (by omega), if_neg (by omega), if_neg (by omega), if_neg (by omega), if_neg (by omega), if_neg (by omega), if_neg (by omega), if_pos (by omega)])
  have HA := Lib.hid (hA.keep ka)
  have HC := Lib.hid (rNoteOp_any h1 hW hP hl x.who x.r A cc HA.out)
  clear _u1 _u2 _u3 _u4 h h1 ka hW hP hA hl hlg _hx KD
  go_enter Tryz.func12, Tryz.ntmps12
  have c0 : World.cell? _ ⟨w.heap.size, 0, none⟩ = some (.int .i64 x.dw) := b0.out.cell 0
  have c1 : World.cell? _ ⟨w.heap.size, 1, none⟩ = some (.int .i64 x.who) := b0.out.cell 1
  have c2 : World.cell? _ ⟨w.heap.size, 2, none⟩ = some (.int .i64 x.n) := b0.out.cell 2
  have c3 : World.cell? _ ⟨w.heap.size, 3, none⟩ = some (sv x.key) := b0.out.cell 3
  have c4 : World.cell? _ ⟨w.heap.size, 4, none⟩ = some (sv x.val) := b0.out.cell 4
  have c5 : World.cell? _ ⟨w.heap.size, 5, none⟩ = some (.int .i64 x.r.kind) := b0.out.cell 5
  have c6 : World.cell? _ ⟨w.heap.size, 6, none⟩ = some (sv x.r.key) := b0.out.cell 6
  have c7 : World.cell? _ ⟨w.heap.size, 7, none⟩ = some (sv x.r.val) := b0.out.cell 7
  have c8 : World.cell? _ ⟨w.heap.size, 8, none⟩ = some (.slice A x.r.list.length cc) := b0.out.cell 8
  go_wp2_with fail
  refine HC.out.mono ?_
  rintro e w1 ⟨rfl, ht⟩
  have HT := Lib.hid (RTurn.after KA.out (ht))
  clear ht
  clear HC c0 c1 c2 c3 c4 c5 c6 c7 c8
  go_wp2_with fail
  go_ret3
  unfold RDoQ
  rw [E0.out]
  exact ⟨_, rfl, World.ownsRow_nil _ _ _ _, HT.out⟩
set_option maxRecDepth 100000 in
set_option maxHeartbeats 3200000 in
theorem rdo13_any {w : World} {d : Nat} {F G : List Nat} {C : St} {P : List Str} (h : Rf w d F G C) (hW : WF P C) (hP : PoolOk P) (hl : C.length ≤ 1000000) (hlg : lgSize C ≤ 200000000) (x : Opn) (hx : OkO P x) (A : Option Addr) (cc : Nat) (hA : AtS w A x.r.list) (hk : bits .and .i64 x.dw 15 = 13) :
    Calls Tryz.prog 12 #[.pointer (some ⟨d, 0, none⟩), .agg #[.int .i64 x.dw, .int .i64 x.who, .int .i64 x.n, sv x.key, sv x.val, .int .i64 x.r.kind, sv x.r.key, sv x.r.val, .slice A x.r.list.length cc]] w (RDoQ w d F G C x) := by
  have ka : Keeps [] w (w.alloc (.cells #[.int .i64 x.dw, .int .i64 x.who, .int .i64 x.n, sv x.key, sv x.val, .int .i64 x.r.kind, sv x.r.key, sv x.r.val, .slice A x.r.list.length cc] 36)) := (Keeps.refl _ _).alloc _
  have b0 : Hid (Blk (w.alloc (.cells #[.int .i64 x.dw, .int .i64 x.who, .int .i64 x.n, sv x.key, sv x.val, .int .i64 x.r.kind, sv x.r.key, sv x.r.val, .slice A x.r.list.length cc] 36)) w.heap.size 36 #[.int .i64 x.dw, .int .i64 x.who, .int .i64 x.n, sv x.key, sv x.val, .int .i64 x.r.kind, sv x.r.key, sv x.r.val, .slice A x.r.list.length cc]) := Lib.hid (Blk.new w 36 _)
  have h1 := h.keep0 ka
  have hdF := h.dF
  have _u1 := hl
  have _u2 := hlg
  have _u3 := hP
  have _u4 := hW
  have KA := Lib.hid ka
  have KD : doing x = 13 := by unfold doing; rw [← and_15]; exact hk
  have E0 : Hid (doP C x = ((sees (askP C x.who x.key) x.who x.key, [], 0), askP C x.who x.key)) := Lib.hid (by
    unfold doP
    rw [if_neg (by omega), if_neg (by omega), if_neg (by omega), if_neg (by omega), if_neg (by omega), if_neg (by omega), if_neg (by omega), if_neg (by omega)])
  have HA := Lib.hid (hA.keep ka)
  have HC := Lib.hid (rGet_any h1 hW hP hl x.who x.key hx.k)
  clear _u1 _u2 _u3 _u4 h h1 ka hW hP hA hl hlg hx KD
  go_enter Tryz.func12, Tryz.ntmps12
  have c0 : World.cell? _ ⟨w.heap.size, 0, none⟩ = some (.int .i64 x.dw) := b0.out.cell 0
  have c1 : World.cell? _ ⟨w.heap.size, 1, none⟩ = some (.int .i64 x.who) := b0.out.cell 1
  have c2 : World.cell? _ ⟨w.heap.size, 2, none⟩ = some (.int .i64 x.n) := b0.out.cell 2
  have c3 : World.cell? _ ⟨w.heap.size, 3, none⟩ = some (sv x.key) := b0.out.cell 3
  have c4 : World.cell? _ ⟨w.heap.size, 4, none⟩ = some (sv x.val) := b0.out.cell 4
  have c5 : World.cell? _ ⟨w.heap.size, 5, none⟩ = some (.int .i64 x.r.kind) := b0.out.cell 5
  have c6 : World.cell? _ ⟨w.heap.size, 6, none⟩ = some (sv x.r.key) := b0.out.cell 6
  have c7 : World.cell? _ ⟨w.heap.size, 7, none⟩ = some (sv x.r.val) := b0.out.cell 7
  have c8 : World.cell? _ ⟨w.heap.size, 8, none⟩ = some (.slice A x.r.list.length cc) := b0.out.cell 8
  go_wp2_with fail
  refine HC.out.mono ?_
  rintro e w1 ⟨rfl, ht⟩
  have HT := Lib.hid (RTurn.after KA.out (ht))
  clear ht
  clear HC c0 c1 c2 c3 c4 c5 c6 c7 c8
  go_wp2_with fail
  go_ret3
  unfold RDoQ
  rw [E0.out]
  exact ⟨_, rfl, World.ownsRow_nil _ _ _ _, HT.out⟩
set_option maxRecDepth 100000 in
set_option maxHeartbeats 3200000 in
theorem rdo14_any {w : World} {d : Nat} {F G : List Nat} {C : St} {P : List Str} (h : Rf w d F G C) (hW : WF P C) (hP : PoolOk P) (hl : C.length ≤ 1000000) (hlg : lgSize C ≤ 200000000) (x : Opn) (hx : OkO P x) (A : Option Addr) (cc : Nat) (hA : AtS w A x.r.list) (hk : bits .and .i64 x.dw 15 = 14) :
    Calls Tryz.prog 12 #[.pointer (some ⟨d, 0, none⟩), .agg #[.int .i64 x.dw, .int .i64 x.who, .int .i64 x.n, sv x.key, sv x.val, .int .i64 x.r.kind, sv x.r.key, sv x.r.val, .slice A x.r.list.length cc]] w (RDoQ w d F G C x) := by
  have ka : Keeps [] w (w.alloc (.cells #[.int .i64 x.dw, .int .i64 x.who, .int .i64 x.n, sv x.key, sv x.val, .int .i64 x.r.kind, sv x.r.key, sv x.r.val, .slice A x.r.list.length cc] 36)) := (Keeps.refl _ _).alloc _
  have b0 : Hid (Blk (w.alloc (.cells #[.int .i64 x.dw, .int .i64 x.who, .int .i64 x.n, sv x.key, sv x.val, .int .i64 x.r.kind, sv x.r.key, sv x.r.val, .slice A x.r.list.length cc] 36)) w.heap.size 36 #[.int .i64 x.dw, .int .i64 x.who, .int .i64 x.n, sv x.key, sv x.val, .int .i64 x.r.kind, sv x.r.key, sv x.r.val, .slice A x.r.list.length cc]) := Lib.hid (Blk.new w 36 _)
  have h1 := h.keep0 ka
  have hdF := h.dF
  have _u1 := hl
  have _u2 := hlg
  have _u3 := hP
  have _u4 := hW
  have KA := Lib.hid ka
  have KD : doing x = 14 := by unfold doing; rw [← and_15]; exact hk
  have E0 : Hid (doP C x = ((sees (askP C x.who x.key) x.who x.key, [], 0), askP C x.who x.key)) := Lib.hid (by
    unfold doP
    rw [if_neg (by omega), if_neg (by omega), if_neg (by omega), if_neg (by omega), if_neg (by omega), if_neg (by omega), if_neg (by omega), if_neg (by omega)])
  have HA := Lib.hid (hA.keep ka)
  have HC := Lib.hid (rGet_any h1 hW hP hl x.who x.key hx.k)
  clear _u1 _u2 _u3 _u4 h h1 ka hW hP hA hl hlg hx KD
  go_enter Tryz.func12, Tryz.ntmps12
  have c0 : World.cell? _ ⟨w.heap.size, 0, none⟩ = some (.int .i64 x.dw) := b0.out.cell 0
  have c1 : World.cell? _ ⟨w.heap.size, 1, none⟩ = some (.int .i64 x.who) := b0.out.cell 1
  have c2 : World.cell? _ ⟨w.heap.size, 2, none⟩ = some (.int .i64 x.n) := b0.out.cell 2
  have c3 : World.cell? _ ⟨w.heap.size, 3, none⟩ = some (sv x.key) := b0.out.cell 3
  have c4 : World.cell? _ ⟨w.heap.size, 4, none⟩ = some (sv x.val) := b0.out.cell 4
  have c5 : World.cell? _ ⟨w.heap.size, 5, none⟩ = some (.int .i64 x.r.kind) := b0.out.cell 5
  have c6 : World.cell? _ ⟨w.heap.size, 6, none⟩ = some (sv x.r.key) := b0.out.cell 6
  have c7 : World.cell? _ ⟨w.heap.size, 7, none⟩ = some (sv x.r.val) := b0.out.cell 7
  have c8 : World.cell? _ ⟨w.heap.size, 8, none⟩ = some (.slice A x.r.list.length cc) := b0.out.cell 8
  go_wp2_with fail
  refine HC.out.mono ?_
  rintro e w1 ⟨rfl, ht⟩
  have HT := Lib.hid (RTurn.after KA.out (ht))
  clear ht
  clear HC c0 c1 c2 c3 c4 c5 c6 c7 c8
  go_wp2_with fail
  go_ret3
  unfold RDoQ
  rw [E0.out]
  exact ⟨_, rfl, World.ownsRow_nil _ _ _ _, HT.out⟩
set_option maxRecDepth 100000 in
set_option maxHeartbeats 3200000 in
theorem rdo15_any {w : World} {d : Nat} {F G : List Nat} {C : St} {P : List Str} (h : Rf w d F G C) (hW : WF P C) (hP : PoolOk P) (hl : C.length ≤ 1000000) (hlg : lgSize C ≤ 200000000) (x : Opn) (hx : OkO P x) (A : Option Addr) (cc : Nat) (hA : AtS w A x.r.list) (hk : bits .and .i64 x.dw 15 = 15) :
    Calls Tryz.prog 12 #[.pointer (some ⟨d, 0, none⟩), .agg #[.int .i64 x.dw, .int .i64 x.who, .int .i64 x.n, sv x.key, sv x.val, .int .i64 x.r.kind, sv x.r.key, sv x.r.val, .slice A x.r.list.length cc]] w (RDoQ w d F G C x) := by
  have ka : Keeps [] w (w.alloc (.cells #[.int .i64 x.dw, .int .i64 x.who, .int .i64 x.n, sv x.key, sv x.val, .int .i64 x.r.kind, sv x.r.key, sv x.r.val, .slice A x.r.list.length cc] 36)) := (Keeps.refl _ _).alloc _
  have b0 : Hid (Blk (w.alloc (.cells #[.int .i64 x.dw, .int .i64 x.who, .int .i64 x.n, sv x.key, sv x.val, .int .i64 x.r.kind, sv x.r.key, sv x.r.val, .slice A x.r.list.length cc] 36)) w.heap.size 36 #[.int .i64 x.dw, .int .i64 x.who, .int .i64 x.n, sv x.key, sv x.val, .int .i64 x.r.kind, sv x.r.key, sv x.r.val, .slice A x.r.list.length cc]) := Lib.hid (Blk.new w 36 _)
  have h1 := h.keep0 ka
  have hdF := h.dF
  have _u1 := hl
  have _u2 := hlg
  have _u3 := hP
  have _u4 := hW
  have KA := Lib.hid ka
  have KD : doing x = 15 := by unfold doing; rw [← and_15]; exact hk
  have E0 : Hid (doP C x = ((sees (askP C x.who x.key) x.who x.key, [], 0), askP C x.who x.key)) := Lib.hid (by
    unfold doP
    rw [if_neg (by omega), if_neg (by omega), if_neg (by omega), if_neg (by omega), if_neg (by omega), if_neg (by omega), if_neg (by omega), if_neg (by omega)])
  have HA := Lib.hid (hA.keep ka)
  have HC := Lib.hid (rGet_any h1 hW hP hl x.who x.key hx.k)
  clear _u1 _u2 _u3 _u4 h h1 ka hW hP hA hl hlg hx KD
  go_enter Tryz.func12, Tryz.ntmps12
  have c0 : World.cell? _ ⟨w.heap.size, 0, none⟩ = some (.int .i64 x.dw) := b0.out.cell 0
  have c1 : World.cell? _ ⟨w.heap.size, 1, none⟩ = some (.int .i64 x.who) := b0.out.cell 1
  have c2 : World.cell? _ ⟨w.heap.size, 2, none⟩ = some (.int .i64 x.n) := b0.out.cell 2
  have c3 : World.cell? _ ⟨w.heap.size, 3, none⟩ = some (sv x.key) := b0.out.cell 3
  have c4 : World.cell? _ ⟨w.heap.size, 4, none⟩ = some (sv x.val) := b0.out.cell 4
  have c5 : World.cell? _ ⟨w.heap.size, 5, none⟩ = some (.int .i64 x.r.kind) := b0.out.cell 5
  have c6 : World.cell? _ ⟨w.heap.size, 6, none⟩ = some (sv x.r.key) := b0.out.cell 6
  have c7 : World.cell? _ ⟨w.heap.size, 7, none⟩ = some (sv x.r.val) := b0.out.cell 7
  have c8 : World.cell? _ ⟨w.heap.size, 8, none⟩ = some (.slice A x.r.list.length cc) := b0.out.cell 8
  go_wp2_with fail
  refine HC.out.mono ?_
  rintro e w1 ⟨rfl, ht⟩
  have HT := Lib.hid (RTurn.after KA.out (ht))
  clear ht
  clear HC c0 c1 c2 c3 c4 c5 c6 c7 c8
  go_wp2_with fail
  go_ret3
  unfold RDoQ
  rw [E0.out]
  exact ⟨_, rfl, World.ownsRow_nil _ _ _ _, HT.out⟩
theorem model_any {w : World} {d : Nat} {F G : List Nat} {C : St} {P : List Str} (h : Rf w d F G C) (hW : WF P C) (hP : PoolOk P) (hl : C.length ≤ 1000000) (hlg : lgSize C ≤ 200000000) (x : Opn) (hx : OkO P x) (A : Option Addr) (cc : Nat) (hA : AtS w A x.r.list) :
    Calls Tryz.prog 12 #[.pointer (some ⟨d, 0, none⟩), .agg #[.int .i64 x.dw, .int .i64 x.who, .int .i64 x.n, sv x.key, sv x.val, .int .i64 x.r.kind, sv x.r.key, sv x.r.val, .slice A x.r.list.length cc]] w (RDoQ w d F G C x) := by
  have e := and_15 x.dw
  have h0 : 0 ≤ x.dw % 16 := Int.emod_nonneg _ (by omega)
  have h1 : x.dw % 16 < 16 := Int.emod_lt_of_pos _ (by omega)
  obtain ⟨k, hk⟩ : ∃ k, x.dw % 16 = k := ⟨_, rfl⟩
  rw [hk] at e h0 h1
  have hcs : k = 0 ∨ k = 1 ∨ k = 2 ∨ k = 3 ∨ k = 4 ∨ k = 5 ∨ k = 6 ∨ k = 7 ∨ k = 8 ∨ k = 9 ∨ k = 10 ∨ k = 11 ∨ k = 12 ∨ k = 13 ∨ k = 14 ∨ k = 15 := by omega
  rcases hcs with rfl | rfl | rfl | rfl | rfl | rfl | rfl | rfl | rfl | rfl | rfl | rfl | rfl | rfl | rfl | rfl
  · exact rdo0_any h hW hP hl hlg x hx A cc hA e
  · exact rdo1_any h hW hP hl hlg x hx A cc hA e
  · exact rdo2_any h hW hP hl hlg x hx A cc hA e
  · exact rdo3_any h hW hP hl hlg x hx A cc hA e
  · exact rdo4_any h hW hP hl hlg x hx A cc hA e
  · exact rdo5_any h hW hP hl hlg x hx A cc hA e
  · exact rdo6_any h hW hP hl hlg x hx A cc hA e
  · exact rdo7_any h hW hP hl hlg x hx A cc hA e
  · exact rdo8_any h hW hP hl hlg x hx A cc hA e
  · exact rdo9_any h hW hP hl hlg x hx A cc hA e
  · exact rdo10_any h hW hP hl hlg x hx A cc hA e
  · exact rdo11_any h hW hP hl hlg x hx A cc hA e
  · exact rdo12_any h hW hP hl hlg x hx A cc hA e
  · exact rdo13_any h hW hP hl hlg x hx A cc hA e
  · exact rdo14_any h hW hP hl hlg x hx A cc hA e
  · exact rdo15_any h hW hP hl hlg x hx A cc hA e
/-- The program's cell beside the reference's; T is apart from the reference. -/
def Bth (a W : World) (c d : Nat) (C D : St) (T : List Nat) : Prop :=
  ∃ F G F2 G2, Cs W c F G C ∧ Rf W d F2 G2 D ∧ (∀ g ∈ F, a.heap.size ≤ g) ∧ (∀ g ∈ F2, a.heap.size ≤ g) ∧ (∀ g ∈ F, g ∉ F2 ∧ g ∉ G2) ∧ (∀ g ∈ F2, g ∉ F ∧ g ∉ G) ∧ Keeps [] a W ∧ ∀ g ∈ T, g < W.heap.size ∧ g ∉ F2
section
variable {a W W' : World} {c d : Nat} {C D : St} {T : List Nat} {P : List Str}
theorem Bth.k (h : Bth a W c d C D T) : Keeps [] a W := by obtain ⟨_, _, _, _, _, _, _, _, _, _, h, _⟩ := h; exact h
theorem Bth.left (h : Bth a W c d C D T) : Own0 a W c C := by
  obtain ⟨F, G, F2, G2, h1, h2, h3, h4, h5, h6, h7, h8⟩ := h
  exact ⟨F, G, h1, h3, h7⟩
theorem Bth.right (h : Bth a W c d C D T) : ∃ F G, Rf W d F G D := by
  obtain ⟨F, G, F2, G2, h1, h2, h3, h4, h5, h6, h7, h8⟩ := h
  exact ⟨F2, G2, h2⟩
theorem Bth.keep0 (h : Bth a W c d C D T) (hk : Keeps [] W W') : Bth a W' c d C D T := by
  obtain ⟨F, G, F2, G2, h1, h2, h3, h4, h5, h6, h7, h8⟩ := h
  have := hk.size
  exact ⟨F, G, F2, G2, h1.keep0 hk, h2.keep0 hk, h3, h4, h5, h6, h7.trans hk (by simp), fun g hg => ⟨by have := (h8 g hg).1; omega, (h8 g hg).2⟩⟩
theorem Bth.do_ (h : Bth a W c d C D T) (hW : WF P C) (hP : PoolOk P) (hl : C.length ≤ 1000000) (hlg : lgSize C ≤ 400000000) (x : Opn) (hx : OkO P x) (A : Option Addr) (cc : Nat) (hA : AtS W A x.r.list) :
    Calls Tryz.prog 11 #[.pointer (some ⟨c, 0, none⟩), .agg #[.int .i64 x.dw, .int .i64 x.who, .int .i64 x.n, sv x.key, sv x.val, .int .i64 x.r.kind, sv x.r.key, sv x.r.val, .slice A x.r.list.length cc]] W fun e w' => ∃ v, e = .returned (.tuple #[sv (doP C x).1.1, v, .int .i64 (doP C x).1.2.2]) ∧ w'.ownsRow 0 9 1 v (doP C x).1.2.1.length (vs (doP C x).1.2.1) ∧ Bth a w' c d (doP C x).2 D (fp v) := by
  obtain ⟨F, G, F2, G2, h1, h2, h3, h4, h5, h6, h7, h8⟩ := h
  refine (do_any h1 hW hP hl hlg x hx A cc hA).mono ?_
  rintro e w' ⟨v, rfl, o1, fv, F', G', k1, k2, k3, k4⟩
  have hs := k4.size
  refine ⟨v, rfl, o1, F', G', F2, G2, k1, h2.keep k4 (fun g hg => (h5 g hg).1) (fun g hg => (h5 g hg).2), fun g hg => ?_, h4, fun g hg => ?_, fun g hg => ?_, h7.trans k4 (fun g hg => .inr (h3 g hg)), fun g hg => ?_⟩
  · rcases k2.2 g hg with h | h
    · exact h3 g h
    · exact Nat.le_trans h7.size h
  · rcases k2.2 g hg with h | h
    · exact h5 g h
    · exact ⟨fun h' => by have := h2.ltF g h'; omega, fun h' => by have := h2.ltG g h'; omega⟩
  · constructor
    · intro h'
      rcases k2.2 g h' with h | h
      · exact (h6 g hg).1 h
      · have := h2.ltF g hg; omega
    · intro h'
      rcases k3.2 g h' with h | h
      · exact (h6 g hg).2 h
      · have := h2.ltF g hg; omega
  · exact ⟨own_lt o1 hg, fun h' => by have := h2.ltF g h'; have := fv g hg; omega⟩
theorem Bth.model (h : Bth a W c d C D T) (hW : WF P D) (hP : PoolOk P) (hl : D.length ≤ 1000000) (hlg : lgSize D ≤ 200000000) (x : Opn) (hx : OkO P x) (A : Option Addr) (cc : Nat) (hA : AtS W A x.r.list) :
    Calls Tryz.prog 12 #[.pointer (some ⟨d, 0, none⟩), .agg #[.int .i64 x.dw, .int .i64 x.who, .int .i64 x.n, sv x.key, sv x.val, .int .i64 x.r.kind, sv x.r.key, sv x.r.val, .slice A x.r.list.length cc]] W fun e w' => ∃ v, e = .returned (.tuple #[sv (doP D x).1.1, v, .int .i64 (doP D x).1.2.2]) ∧ w'.ownsRow 0 9 1 v (doP D x).1.2.1.length (vs (doP D x).1.2.1) ∧ Bth a w' c d C (doP D x).2 [] ∧ Kept T W w' := by
  obtain ⟨F, G, F2, G2, h1, h2, h3, h4, h5, h6, h7, h8⟩ := h
  refine (model_any h2 hW hP hl hlg x hx A cc hA).mono ?_
  rintro e w' ⟨v, rfl, o1, F', G', k1, k2, k3, k4⟩
  have hs := k4.size
  refine ⟨v, rfl, o1, ⟨F, G, F', G', h1.keep k4 (fun g hg => (h6 g hg).1) (fun g hg => (h6 g hg).2), k1, h3, fun g hg => ?_, fun g hg => ?_, fun g hg => ?_, h7.trans k4 (fun g hg => .inr (h4 g hg)), by simp⟩, F2, k4, fun g hg => (h8 g hg).2⟩
  · rcases k2 g hg with h | h
    · exact h4 g h
    · exact Nat.le_trans h7.size h
  · constructor
    · intro h'
      rcases k2 g h' with h | h
      · exact (h5 g hg).1 h
      · have := h1.ltF g hg; omega
    · intro h'
      rcases k3 g h' with h | h
      · exact (h5 g hg).2 h
      · have := h1.ltF g hg; omega
  · rcases k2 g hg with h | h
    · exact h6 g h
    · exact ⟨fun h' => by have := h1.ltF g h'; omega, fun h' => by have := h1.ltG g h'; omega⟩
end
/-- The program's new cell and the reference's. -/
theorem bth_new {a W : World} {c : Nat} (h : ∃ F G, Cs W c F G new0 ∧ (∀ g ∈ F, a.heap.size ≤ g) ∧ Keeps [] a W) :
    Calls Tryz.prog 9 #[] W fun e w' => ∃ d, e = .returned (.pointer (some ⟨d, 0, none⟩)) ∧ Bth a w' c d new0 new0 [] := by
  obtain ⟨F, G, h1, h2, h3⟩ := h
  refine (rNew_any W).mono ?_
  rintro e w' ⟨d, F2, rfl, k1, k2, k3⟩
  exact ⟨d, rfl, F, G, F2, [], h1.keep0 k3, k1, h2, fun g hg => Nat.le_trans h3.size (k2 g hg), fun g hg => ⟨fun h' => by have := h1.ltF g hg; have := k2 g h'; omega, by simp⟩, fun g hg => ⟨fun h' => by have := h1.ltF g h'; have := k2 g hg; omega, fun h' => by have := h1.ltG g h'; have := k2 g hg; omega⟩, h3.trans k3 (by simp), by simp⟩
end Go.Proofs.YtbllmpcpfmlemaaGreat
