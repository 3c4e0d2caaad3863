/- Texts of elder seats, turned to this one. -/
import Derived.Test.YteognipfnbocpaaGreatW11
namespace Go.Proofs.YteognipfnbocpaaGreat
open Go.RowKit
open T12 (E TbRep ent mapN)
open T13 (Tl En TlRep es)

/-- An operation. -/
structure Op where
  d : Int
  cpu : Int
  x : Int
  pg : Int
  fr : Int
  wr : Bool
def Op.v (o : Op) : Value := .agg #[.int .i64 o.d, .int .i64 o.cpu, .int .i64 o.x, .int .i64 o.pg, .int .i64 o.fr, .bool o.wr]
structure Op.Wf (o : Op) : Prop where
  x1 : -9223372036854775808 ≤ o.x
  x2 : o.x ≤ 9223372036854775807
  p1 : -9223372036854775808 ≤ o.pg
  p2 : o.pg ≤ 9223372036854775807
  f1 : -9223372036854775808 ≤ o.fr
  f2 : o.fr ≤ 9223372036854775807
def Mm.op (s : Mm) (o : Op) : Mm :=
  if o.d % 8 < 3 then (s.acc o.cpu o.x o.pg o.wr).s
  else if o.d % 8 < 5 then s.map o.x o.pg o.fr o.wr
  else if o.d % 8 = 5 then s.unmap o.x o.pg
  else if o.d % 8 = 6 then s.lose o.fr
  else if o.wr then s.end_ o.x else s.used o.x
def opA (ks : List Int) (s : Mm) (o : Op) : Int :=
  if o.d % 8 < 3 then (s.acc o.cpu o.x o.pg o.wr).f
  else if o.d % 8 < 5 then mapN o.pg o.fr
  else if o.d % 8 = 5 then tru (ent (s.tab o.x) o.pg).isSome
  else if o.d % 8 = 6 then (sumD o.fr s.t (fun _ => false) ks : Nat)
  else 0
def opB (s : Mm) (o : Op) : Int := if o.d % 8 < 3 then tru (s.acc o.cpu o.x o.pg o.wr).ok else 0
def opL (s : Mm) (o : Op) : List Int := if o.d % 8 = 7 ∧ o.wr = false then s.usedL o.x else []
structure DoPre (w : World) (F : List Nat) (p : Nat) (s : Mm) (o : Op) (ks : List Int) : Prop where
  h : MmRep w F p s
  ok : Ok s
  hkk : s.k ≤ 900000
  wf : o.Wf
  hn : ks.Nodup
  hks : ∀ x, (s.t x).isSome → x ∈ ks
  hkl : ks.length ≤ 1000
theorem MmNext.box {w w' : World} {F : List Nat} {p : Nat} {s : Mm} {ob : Obj} (h : MmNext (w.alloc ob) w' F p s) : MmNext w w' F p s :=
  h.then (fun _ hg => .inl hg) (((Keeps.refl F w).alloc ob))
set_option maxRecDepth 100000 in
set_option maxHeartbeats 1600000 in
theorem do0 (w : World) (F : List Nat) (p : Nat) (s : Mm) (o : Op) (ks : List Int) (P : DoPre w F p s o ks) (hk : o.d % 8 = 0) :
    Calls Tryz.prog 7 #[.pointer (some ⟨p, 0, none⟩), o.v] w fun e w' => ∃ v, e = .returned (.tuple #[.int .i64 (opA ks s o), .int .i64 (opB s o), v]) ∧ w'.ownsRow 0 3 1 v (opL s o).length (iv (opL s o)) ∧ MmNext w w' F p (s.op o) ∧ ∀ g ∈ fp v, w.heap.size ≤ g := by
  have k0 : Keeps [] w (w.alloc (.cells #[.int .i64 o.d, .int .i64 o.cpu, .int .i64 o.x, .int .i64 o.pg, .int .i64 o.fr, .bool o.wr] 29)) := (Keeps.refl _ w).alloc _
  have h0 := P.h.keep k0 (by simp)
  have eA : opA ks s o = (s.acc o.cpu o.x o.pg o.wr).f := by unfold opA; rw [hk]; rfl
  have eB : opB s o = tru (s.acc o.cpu o.x o.pg o.wr).ok := by unfold opB; rw [hk]; rfl
  have eL : opL s o = [] := by unfold opL; rw [hk]; rfl
  have eS : s.op o = (s.acc o.cpu o.x o.pg o.wr).s := by unfold Mm.op; rw [hk]; rfl
  rw [eA, eB, eL, eS]
  have HC := Lib.hid (acc_any _ F p s h0 P.ok o.cpu o.x o.pg o.wr P.wf.x1 P.wf.x2 P.wf.p1 P.wf.p2)
  clear eA eB eL eS h0 k0 P
  generalize s.acc o.cpu o.x o.pg o.wr = a at *
  obtain ⟨d, cpu, x, pg, fr, wr⟩ := o
  dsimp only at *
  unfold Op.v
  go_enter Tryz.func7, Tryz.ntmps7
  go_wp2_with fail
  refine (pick8 _ _).mono ?_
  rintro e w1 ⟨rfl, rfl⟩
  go_wp2_with fail
  refine HC.out.mono ?_
  rintro e w2 ⟨rfl, n2⟩
  have N2 := Lib.hid n2.box
  clear n2 HC
  go_wp2_with fail
  refine (truth_any _ _).mono ?_
  rintro e w3 ⟨rfl, rfl⟩
  go_wp2
  refine bodyPost_ret (results_tmp3 rfl _ _ _) rfl ?_
  exact ⟨_, rfl, World.ownsRow_nil _ _ _ _, N2.out, by simp⟩
set_option maxRecDepth 100000 in
set_option maxHeartbeats 1600000 in
theorem do1 (w : World) (F : List Nat) (p : Nat) (s : Mm) (o : Op) (ks : List Int) (P : DoPre w F p s o ks) (hk : o.d % 8 = 1) :
    Calls Tryz.prog 7 #[.pointer (some ⟨p, 0, none⟩), o.v] w fun e w' => ∃ v, e = .returned (.tuple #[.int .i64 (opA ks s o), .int .i64 (opB s o), v]) ∧ w'.ownsRow 0 3 1 v (opL s o).length (iv (opL s o)) ∧ MmNext w w' F p (s.op o) ∧ ∀ g ∈ fp v, w.heap.size ≤ g := by
  have k0 : Keeps [] w (w.alloc (.cells #[.int .i64 o.d, .int .i64 o.cpu, .int .i64 o.x, .int .i64 o.pg, .int .i64 o.fr, .bool o.wr] 29)) := (Keeps.refl _ w).alloc _
  have h0 := P.h.keep k0 (by simp)
  have eA : opA ks s o = (s.acc o.cpu o.x o.pg o.wr).f := by unfold opA; rw [hk]; rfl
  have eB : opB s o = tru (s.acc o.cpu o.x o.pg o.wr).ok := by unfold opB; rw [hk]; rfl
  have eL : opL s o = [] := by unfold opL; rw [hk]; rfl
  have eS : s.op o = (s.acc o.cpu o.x o.pg o.wr).s := by unfold Mm.op; rw [hk]; rfl
  rw [eA, eB, eL, eS]
  have HC := Lib.hid (acc_any _ F p s h0 P.ok o.cpu o.x o.pg o.wr P.wf.x1 P.wf.x2 P.wf.p1 P.wf.p2)
  clear eA eB eL eS h0 k0 P
  generalize s.acc o.cpu o.x o.pg o.wr = a at *
  obtain ⟨d, cpu, x, pg, fr, wr⟩ := o
  dsimp only at *
  unfold Op.v
  go_enter Tryz.func7, Tryz.ntmps7
  go_wp2_with fail
  refine (pick8 _ _).mono ?_
  rintro e w1 ⟨rfl, rfl⟩
  go_wp2_with fail
  refine HC.out.mono ?_
  rintro e w2 ⟨rfl, n2⟩
  have N2 := Lib.hid n2.box
  clear n2 HC
  go_wp2_with fail
  refine (truth_any _ _).mono ?_
  rintro e w3 ⟨rfl, rfl⟩
  go_wp2
  refine bodyPost_ret (results_tmp3 rfl _ _ _) rfl ?_
  exact ⟨_, rfl, World.ownsRow_nil _ _ _ _, N2.out, by simp⟩
set_option maxRecDepth 100000 in
set_option maxHeartbeats 1600000 in
theorem do2 (w : World) (F : List Nat) (p : Nat) (s : Mm) (o : Op) (ks : List Int) (P : DoPre w F p s o ks) (hk : o.d % 8 = 2) :
    Calls Tryz.prog 7 #[.pointer (some ⟨p, 0, none⟩), o.v] w fun e w' => ∃ v, e = .returned (.tuple #[.int .i64 (opA ks s o), .int .i64 (opB s o), v]) ∧ w'.ownsRow 0 3 1 v (opL s o).length (iv (opL s o)) ∧ MmNext w w' F p (s.op o) ∧ ∀ g ∈ fp v, w.heap.size ≤ g := by
  have k0 : Keeps [] w (w.alloc (.cells #[.int .i64 o.d, .int .i64 o.cpu, .int .i64 o.x, .int .i64 o.pg, .int .i64 o.fr, .bool o.wr] 29)) := (Keeps.refl _ w).alloc _
  have h0 := P.h.keep k0 (by simp)
  have eA : opA ks s o = (s.acc o.cpu o.x o.pg o.wr).f := by unfold opA; rw [hk]; rfl
  have eB : opB s o = tru (s.acc o.cpu o.x o.pg o.wr).ok := by unfold opB; rw [hk]; rfl
  have eL : opL s o = [] := by unfold opL; rw [hk]; rfl
  have eS : s.op o = (s.acc o.cpu o.x o.pg o.wr).s := by unfold Mm.op; rw [hk]; rfl
  rw [eA, eB, eL, eS]
  have HC := Lib.hid (acc_any _ F p s h0 P.ok o.cpu o.x o.pg o.wr P.wf.x1 P.wf.x2 P.wf.p1 P.wf.p2)
  clear eA eB eL eS h0 k0 P
  generalize s.acc o.cpu o.x o.pg o.wr = a at *
  obtain ⟨d, cpu, x, pg, fr, wr⟩ := o
  dsimp only at *
  unfold Op.v
  go_enter Tryz.func7, Tryz.ntmps7
  go_wp2_with fail
  refine (pick8 _ _).mono ?_
  rintro e w1 ⟨rfl, rfl⟩
  go_wp2_with fail
  refine HC.out.mono ?_
  rintro e w2 ⟨rfl, n2⟩
  have N2 := Lib.hid n2.box
  clear n2 HC
  go_wp2_with fail
  refine (truth_any _ _).mono ?_
  rintro e w3 ⟨rfl, rfl⟩
  go_wp2
  refine bodyPost_ret (results_tmp3 rfl _ _ _) rfl ?_
  exact ⟨_, rfl, World.ownsRow_nil _ _ _ _, N2.out, by simp⟩
set_option maxRecDepth 100000 in
set_option maxHeartbeats 1600000 in
theorem do3 (w : World) (F : List Nat) (p : Nat) (s : Mm) (o : Op) (ks : List Int) (P : DoPre w F p s o ks) (hk : o.d % 8 = 3) :
    Calls Tryz.prog 7 #[.pointer (some ⟨p, 0, none⟩), o.v] w fun e w' => ∃ v, e = .returned (.tuple #[.int .i64 (opA ks s o), .int .i64 (opB s o), v]) ∧ w'.ownsRow 0 3 1 v (opL s o).length (iv (opL s o)) ∧ MmNext w w' F p (s.op o) ∧ ∀ g ∈ fp v, w.heap.size ≤ g := by
  have k0 : Keeps [] w (w.alloc (.cells #[.int .i64 o.d, .int .i64 o.cpu, .int .i64 o.x, .int .i64 o.pg, .int .i64 o.fr, .bool o.wr] 29)) := (Keeps.refl _ w).alloc _
  have h0 := P.h.keep k0 (by simp)
  have eA : opA ks s o = mapN o.pg o.fr := by unfold opA; rw [hk]; rfl
  have eB : opB s o = 0 := by unfold opB; rw [hk]; rfl
  have eL : opL s o = [] := by unfold opL; rw [hk]; rfl
  have eS : s.op o = s.map o.x o.pg o.fr o.wr := by unfold Mm.op; rw [hk]; rfl
  rw [eA, eB, eL, eS]
  have HC := Lib.hid (map_any _ F p s h0 P.ok P.hkk o.x o.pg o.fr o.wr P.wf.x1 P.wf.x2 P.wf.p1 P.wf.p2 P.wf.f1 P.wf.f2)
  clear eA eB eL eS h0 k0 P
  obtain ⟨d, cpu, x, pg, fr, wr⟩ := o
  dsimp only at *
  unfold Op.v
  go_enter Tryz.func7, Tryz.ntmps7
  go_wp2_with fail
  refine (pick8 _ _).mono ?_
  rintro e w1 ⟨rfl, rfl⟩
  go_wp2_with fail
  refine HC.out.mono ?_
  rintro e w2 ⟨rfl, n2⟩
  have N2 := Lib.hid n2.box
  clear n2 HC
  go_wp2
  refine bodyPost_ret (results_tmp3 rfl _ _ _) rfl ?_
  exact ⟨_, rfl, World.ownsRow_nil _ _ _ _, N2.out, by simp⟩
set_option maxRecDepth 100000 in
set_option maxHeartbeats 1600000 in
theorem do4 (w : World) (F : List Nat) (p : Nat) (s : Mm) (o : Op) (ks : List Int) (P : DoPre w F p s o ks) (hk : o.d % 8 = 4) :
    Calls Tryz.prog 7 #[.pointer (some ⟨p, 0, none⟩), o.v] w fun e w' => ∃ v, e = .returned (.tuple #[.int .i64 (opA ks s o), .int .i64 (opB s o), v]) ∧ w'.ownsRow 0 3 1 v (opL s o).length (iv (opL s o)) ∧ MmNext w w' F p (s.op o) ∧ ∀ g ∈ fp v, w.heap.size ≤ g := by
  have k0 : Keeps [] w (w.alloc (.cells #[.int .i64 o.d, .int .i64 o.cpu, .int .i64 o.x, .int .i64 o.pg, .int .i64 o.fr, .bool o.wr] 29)) := (Keeps.refl _ w).alloc _
  have h0 := P.h.keep k0 (by simp)
  have eA : opA ks s o = mapN o.pg o.fr := by unfold opA; rw [hk]; rfl
  have eB : opB s o = 0 := by unfold opB; rw [hk]; rfl
  have eL : opL s o = [] := by unfold opL; rw [hk]; rfl
  have eS : s.op o = s.map o.x o.pg o.fr o.wr := by unfold Mm.op; rw [hk]; rfl
  rw [eA, eB, eL, eS]
  have HC := Lib.hid (map_any _ F p s h0 P.ok P.hkk o.x o.pg o.fr o.wr P.wf.x1 P.wf.x2 P.wf.p1 P.wf.p2 P.wf.f1 P.wf.f2)
  clear eA eB eL eS h0 k0 P
  obtain ⟨d, cpu, x, pg, fr, wr⟩ := o
  dsimp only at *
  unfold Op.v
  go_enter Tryz.func7, Tryz.ntmps7
  go_wp2_with fail
  refine (pick8 _ _).mono ?_
  rintro e w1 ⟨rfl, rfl⟩
  go_wp2_with fail
  refine HC.out.mono ?_
  rintro e w2 ⟨rfl, n2⟩
  have N2 := Lib.hid n2.box
  clear n2 HC
  go_wp2
  refine bodyPost_ret (results_tmp3 rfl _ _ _) rfl ?_
  exact ⟨_, rfl, World.ownsRow_nil _ _ _ _, N2.out, by simp⟩
set_option maxRecDepth 100000 in
set_option maxHeartbeats 1600000 in
theorem do5 (w : World) (F : List Nat) (p : Nat) (s : Mm) (o : Op) (ks : List Int) (P : DoPre w F p s o ks) (hk : o.d % 8 = 5) :
    Calls Tryz.prog 7 #[.pointer (some ⟨p, 0, none⟩), o.v] w fun e w' => ∃ v, e = .returned (.tuple #[.int .i64 (opA ks s o), .int .i64 (opB s o), v]) ∧ w'.ownsRow 0 3 1 v (opL s o).length (iv (opL s o)) ∧ MmNext w w' F p (s.op o) ∧ ∀ g ∈ fp v, w.heap.size ≤ g := by
  have k0 : Keeps [] w (w.alloc (.cells #[.int .i64 o.d, .int .i64 o.cpu, .int .i64 o.x, .int .i64 o.pg, .int .i64 o.fr, .bool o.wr] 29)) := (Keeps.refl _ w).alloc _
  have h0 := P.h.keep k0 (by simp)
  have eA : opA ks s o = tru (ent (s.tab o.x) o.pg).isSome := by unfold opA; rw [hk]; rfl
  have eB : opB s o = 0 := by unfold opB; rw [hk]; rfl
  have eL : opL s o = [] := by unfold opL; rw [hk]; rfl
  have eS : s.op o = s.unmap o.x o.pg := by unfold Mm.op; rw [hk]; rfl
  rw [eA, eB, eL, eS]
  have HC := Lib.hid (unmap_any _ F p s h0 P.ok o.x o.pg P.wf.x1 P.wf.x2 P.wf.p1 P.wf.p2)
  clear eA eB eL eS h0 k0 P
  obtain ⟨d, cpu, x, pg, fr, wr⟩ := o
  dsimp only at *
  unfold Op.v
  go_enter Tryz.func7, Tryz.ntmps7
  go_wp2_with fail
  refine (pick8 _ _).mono ?_
  rintro e w1 ⟨rfl, rfl⟩
  go_wp2_with fail
  refine HC.out.mono ?_
  rintro e w2 ⟨rfl, n2⟩
  have N2 := Lib.hid n2.box
  clear n2 HC
  go_wp2_with fail
  refine (truth_any _ _).mono ?_
  rintro e w3 ⟨rfl, rfl⟩
  go_wp2
  refine bodyPost_ret (results_tmp3 rfl _ _ _) rfl ?_
  exact ⟨_, rfl, World.ownsRow_nil _ _ _ _, N2.out, by simp⟩
set_option maxRecDepth 100000 in
set_option maxHeartbeats 1600000 in
theorem do6 (w : World) (F : List Nat) (p : Nat) (s : Mm) (o : Op) (ks : List Int) (P : DoPre w F p s o ks) (hk : o.d % 8 = 6) :
    Calls Tryz.prog 7 #[.pointer (some ⟨p, 0, none⟩), o.v] w fun e w' => ∃ v, e = .returned (.tuple #[.int .i64 (opA ks s o), .int .i64 (opB s o), v]) ∧ w'.ownsRow 0 3 1 v (opL s o).length (iv (opL s o)) ∧ MmNext w w' F p (s.op o) ∧ ∀ g ∈ fp v, w.heap.size ≤ g := by
  have k0 : Keeps [] w (w.alloc (.cells #[.int .i64 o.d, .int .i64 o.cpu, .int .i64 o.x, .int .i64 o.pg, .int .i64 o.fr, .bool o.wr] 29)) := (Keeps.refl _ w).alloc _
  have h0 := P.h.keep k0 (by simp)
  have eA : opA ks s o = (sumD o.fr s.t (fun _ => false) ks : Nat) := by unfold opA; rw [hk]; rfl
  have eB : opB s o = 0 := by unfold opB; rw [hk]; rfl
  have eL : opL s o = [] := by unfold opL; rw [hk]; rfl
  have eS : s.op o = s.lose o.fr := by unfold Mm.op; rw [hk]; rfl
  rw [eA, eB, eL, eS]
  have HC := Lib.hid (lose_any _ F p s h0 P.ok o.fr ks P.hn P.hks P.hkl)
  clear eA eB eL eS h0 k0 P
  obtain ⟨d, cpu, x, pg, fr, wr⟩ := o
  dsimp only at *
  unfold Op.v
  go_enter Tryz.func7, Tryz.ntmps7
  go_wp2_with fail
  refine (pick8 _ _).mono ?_
  rintro e w1 ⟨rfl, rfl⟩
  go_wp2_with fail
  refine HC.out.mono ?_
  rintro e w2 ⟨rfl, n2⟩
  have N2 := Lib.hid n2.box
  clear n2 HC
  go_wp2
  refine bodyPost_ret (results_tmp3 rfl _ _ _) rfl ?_
  exact ⟨_, rfl, World.ownsRow_nil _ _ _ _, N2.out, by simp⟩
set_option maxRecDepth 100000 in
set_option maxHeartbeats 1600000 in
theorem do7e (w : World) (F : List Nat) (p : Nat) (s : Mm) (o : Op) (ks : List Int) (P : DoPre w F p s o ks) (hk : o.d % 8 = 7) (hw : o.wr = true) :
    Calls Tryz.prog 7 #[.pointer (some ⟨p, 0, none⟩), o.v] w fun e w' => ∃ v, e = .returned (.tuple #[.int .i64 (opA ks s o), .int .i64 (opB s o), v]) ∧ w'.ownsRow 0 3 1 v (opL s o).length (iv (opL s o)) ∧ MmNext w w' F p (s.op o) ∧ ∀ g ∈ fp v, w.heap.size ≤ g := by
  have k0 : Keeps [] w (w.alloc (.cells #[.int .i64 o.d, .int .i64 o.cpu, .int .i64 o.x, .int .i64 o.pg, .int .i64 o.fr, .bool o.wr] 29)) := (Keeps.refl _ w).alloc _
  have h0 := P.h.keep k0 (by simp)
  have eA : opA ks s o = 0 := by unfold opA; rw [hk]; rfl
  have eB : opB s o = 0 := by unfold opB; rw [hk]; rfl
  have eL : opL s o = [] := by unfold opL; rw [hk]; rw [hw]; rfl
  have eS : s.op o = s.end_ o.x := by unfold Mm.op; rw [hk]; rw [hw]; rfl
  rw [eA, eB, eL, eS]
  have HC := Lib.hid (end_any _ F p s h0 P.ok o.x P.wf.x1 P.wf.x2)
  clear eA eB eL eS h0 k0 P
  obtain ⟨d, cpu, x, pg, fr, wr⟩ := o
  dsimp only at *
  subst hw
  unfold Op.v
  go_enter Tryz.func7, Tryz.ntmps7
  go_wp2_with fail
  refine (pick8 _ _).mono ?_
  rintro e w1 ⟨rfl, rfl⟩
  go_wp2_with fail
  refine HC.out.mono ?_
  rintro e w2 ⟨rfl, n2⟩
  have N2 := Lib.hid n2.box
  clear n2 HC
  go_wp2
  refine bodyPost_ret (results_tmp3 rfl _ _ _) rfl ?_
  exact ⟨_, rfl, World.ownsRow_nil _ _ _ _, N2.out, by simp⟩
end Go.Proofs.YteognipfnbocpaaGreat
