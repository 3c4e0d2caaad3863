/- The reference's model. -/
import Derived.Test.YteognipfnbocpaaGreatQ18
namespace Go.Proofs.YteognipfnbocpaaGreat
open Go.RowKit
open T12 (E TbRep ent ents mapN unmM wlkM)
open T13 (Tl En TlRep es Nd)

/-- No cache has two entries of one page of a space. -/
def NdC (s : Mm) : Prop := ∀ k ∈ s.C, Nd k.L
theorem NdC.setTab {s : Mm} (h : NdC s) (x : Int) (m : Pg) : NdC (s.setTab x m) := by unfold NdC; rw [setTab_C]; exact h
theorem NdC.shoot {s : Mm} (h : NdC s) (d : En → Bool) : NdC (s.shoot d) := fun k hk => by
  have hk' : k ∈ s.C.map (·.drop d) := hk
  obtain ⟨k0, h1, rfl⟩ := List.mem_map.1 hk'
  exact (h k0 h1).filter _
theorem NdC.cache {s : Mm} (h : NdC s) {i : Nat} {k : Tl} (hk : Nd k.L) : NdC { s with C := s.C.set i k } := fun k' hk' => by
  rcases List.mem_or_eq_of_mem_set (show k' ∈ s.C.set i k from hk') with h1 | rfl
  · exact h k' h1
  · exact hk
theorem NdC.acc {s : Mm} (h : NdC s) (cpu x pg : Int) (wr : Bool) : NdC (s.acc cpu x pg wr).s := by
  unfold Mm.acc
  split
  · exact h
  · split
    · exact h
    · rename_i k hk
      have hn : Nd k.L := h k (List.mem_of_getElem? hk)
      have h1 : NdC (({ s with C := s.C.set cpu.toNat (k.look x pg wr) } : Mm).setTab x (wlkM (s.tab x) pg wr)) := (h.cache hn.look).setTab x _
      unfold accK
      dsimp only
      split
      · exact h1
      · split
        · exact h1.cache (hn.look.fill _)
        · exact h1
theorem NdC.map {s : Mm} (h : NdC s) (x pg fr : Int) (wr : Bool) : NdC (s.map x pg fr wr) := by
  unfold Mm.map
  split
  · exact NdC.shoot (s := s.putTab x _) h _
  · exact h
theorem NdC.op {s : Mm} (h : NdC s) (o : Op) : NdC (s.op o) := by
  unfold Mm.op
  split
  · exact h.acc _ _ _ _
  · split
    · exact h.map _ _ _ _
    · split
      · exact (h.setTab _ _).shoot _
      · split
        · exact NdC.shoot (s := { s with t := fun x => (s.t x).map (loseT o.fr) }) h _
        · split
          · exact NdC.shoot (s := { s with t := updT s.t o.x none }) h _
          · exact h.setTab _ _
structure MdPre (w : World) (F : List Nat) (p : Nat) (s : Mm) (r : Rm) (o : Op) (ks : List Int) : Prop where
  h : RmRep w F p r
  sim : Sim s r
  hN : r.N.length ≤ 90000
  hk : ∀ k ∈ r.C, k.n ≤ 1000 ∧ Nd k.L ∧ k.L.length ≤ 1000
  hC : r.C.length ≤ 64
  n0 : 0 ≤ r.n
  n1 : r.n ≤ 1000000000
  hn : ks.Nodup
  hks : ∀ x, (s.t x).isSome → x ∈ ks
def ModP (w : World) (F : List Nat) (p : Nat) (s : Mm) (r : Rm) (o : Op) (ks : List Int) (e : Ending) (w' : World) : Prop :=
  ∃ v r', e = .returned (.tuple #[.int .i64 (opA ks s o), .int .i64 (opB s o), v]) ∧ w'.ownsRow 0 3 1 v (opL s o).length (iv (opL s o)) ∧ RmN w F w' p r' ∧ Sim (s.op o) r' ∧ r'.N.length ≤ r.N.length + 1 ∧ ∀ g ∈ fp v, w.heap.size ≤ g
theorem RmN.box {w w' : World} {F : List Nat} {p : Nat} {r : Rm} {ob : Obj} (h : RmN (w.alloc ob) F w' p r) : RmN w F w' p r := by
  obtain ⟨F', h1, h2, h3⟩ := h
  exact ⟨F', h1, ((Keeps.refl F w).alloc ob).trans h2 (fun g hg => .inl hg), fun g hg => (h3 g hg).elim .inl (fun h => .inr (by simp at h; omega))⟩
theorem RmRep.z {w : World} {F : List Nat} {p : Nat} {r : Rm} (h : RmRep w F p r) (x : Int) : ∀ k, 256 ≤ k → r.tab x k = none := by
  obtain ⟨L, A1, A2, A3, c1, c2, c3, qs, cs, h⟩ := h
  intro k hk
  unfold Rm.tab
  cases hx : r.ix x with
  | none => rfl
  | some i =>
    show ((r.M[i]?).getD pg0) k = none
    cases hm : r.M[i]? with
    | none => rfl
    | some m =>
      obtain ⟨G, q, _, ⟨A, cap, ht⟩, _⟩ := h.ts i m hm
      exact ht.z k hk
theorem acc_N (r : Rm) (cpu x pg : Int) (wr : Bool) : (r.acc cpu x pg wr).s.N = r.N := by
  unfold Rm.acc
  split
  · rfl
  · split
    · rfl
    · unfold raccK
      dsimp only
      split
      · rw [rset_N]
      · split
        · show (Rm.setTab _ _ _).N = _; rw [rset_N]
        · rw [rset_N]
set_option maxRecDepth 100000 in
set_option maxHeartbeats 1600000 in
theorem md0 (w : World) (F : List Nat) (p : Nat) (s : Mm) (r : Rm) (o : Op) (ks : List Int) (P : MdPre w F p s r o ks) (hk : o.d % 8 = 0) :
    Calls Tryz.prog 8 #[.pointer (some ⟨p, 0, none⟩), o.v] w (ModP w F p s r o ks) := by
  have k0 : Keeps [] w (w.alloc (.cells #[.int .i64 o.d, .int .i64 o.cpu, .int .i64 o.x, .int .i64 o.pg, .int .i64 o.fr, .bool o.wr] 29)) := (Keeps.refl _ w).alloc _
  have h0 := P.h.keep k0 (by simp)
  have eA : opA ks s o = (s.acc o.cpu o.x o.pg o.wr).f := by unfold opA; rw [hk]; rfl
  have eB : opB s o = tru (s.acc o.cpu o.x o.pg o.wr).ok := by unfold opB; rw [hk]; rfl
  have eL : opL s o = [] := by unfold opL; rw [hk]; rfl
  have eS : s.op o = (s.acc o.cpu o.x o.pg o.wr).s := by unfold Mm.op; rw [hk]; rfl
  have HC := Lib.hid (racc_any _ F p r h0 o.cpu o.x o.pg o.wr (fun k hk => ⟨(P.hk k hk).1, (P.hk k hk).2.1⟩) P.hC)
  obtain ⟨s1, s2, s3⟩ := P.sim.acc o.cpu o.x o.pg o.wr
  have HS := Lib.hid (And.intro s1 (show (r.acc o.cpu o.x o.pg o.wr).s.N.length ≤ r.N.length + 1 by rw [acc_N]; omega))
  rw [← s2, ← s3] at HC
  clear s1 s2 s3
  unfold ModP
  rw [eA, eB, eL, eS]
  clear eA eB eL eS h0 k0 P
  generalize s.acc o.cpu o.x o.pg o.wr = a at *
  generalize r.acc o.cpu o.x o.pg o.wr = b at *
  obtain ⟨d, cpu, x, pg, fr, wr⟩ := o
  dsimp only at *
  unfold Op.v
  go_enter Tryz.func8, Tryz.ntmps8
  go_wp2_with fail
  refine (pick8 _ _).mono ?_
  rintro e w1 ⟨rfl, rfl⟩
  go_wp2_with fail
  refine HC.out.mono ?_
  rintro e w2 ⟨rfl, n2⟩
  have N2 := Lib.hid n2.box
  clear n2 HC
  go_wp2_with fail
  refine (truth_any _ _).mono ?_
  rintro e w3 ⟨rfl, rfl⟩
  go_wp2
  refine bodyPost_ret (results_tmp3 rfl _ _ _) rfl ?_
  exact ⟨_, _, rfl, World.ownsRow_nil _ _ _ _, N2.out, HS.out.1, HS.out.2, by simp⟩
set_option maxRecDepth 100000 in
set_option maxHeartbeats 1600000 in
theorem md1 (w : World) (F : List Nat) (p : Nat) (s : Mm) (r : Rm) (o : Op) (ks : List Int) (P : MdPre w F p s r o ks) (hk : o.d % 8 = 1) :
    Calls Tryz.prog 8 #[.pointer (some ⟨p, 0, none⟩), o.v] w (ModP w F p s r o ks) := by
  have k0 : Keeps [] w (w.alloc (.cells #[.int .i64 o.d, .int .i64 o.cpu, .int .i64 o.x, .int .i64 o.pg, .int .i64 o.fr, .bool o.wr] 29)) := (Keeps.refl _ w).alloc _
  have h0 := P.h.keep k0 (by simp)
  have eA : opA ks s o = (s.acc o.cpu o.x o.pg o.wr).f := by unfold opA; rw [hk]; rfl
  have eB : opB s o = tru (s.acc o.cpu o.x o.pg o.wr).ok := by unfold opB; rw [hk]; rfl
  have eL : opL s o = [] := by unfold opL; rw [hk]; rfl
  have eS : s.op o = (s.acc o.cpu o.x o.pg o.wr).s := by unfold Mm.op; rw [hk]; rfl
  have HC := Lib.hid (racc_any _ F p r h0 o.cpu o.x o.pg o.wr (fun k hk => ⟨(P.hk k hk).1, (P.hk k hk).2.1⟩) P.hC)
  obtain ⟨s1, s2, s3⟩ := P.sim.acc o.cpu o.x o.pg o.wr
  have HS := Lib.hid (And.intro s1 (show (r.acc o.cpu o.x o.pg o.wr).s.N.length ≤ r.N.length + 1 by rw [acc_N]; omega))
  rw [← s2, ← s3] at HC
  clear s1 s2 s3
  unfold ModP
  rw [eA, eB, eL, eS]
  clear eA eB eL eS h0 k0 P
  generalize s.acc o.cpu o.x o.pg o.wr = a at *
  generalize r.acc o.cpu o.x o.pg o.wr = b at *
  obtain ⟨d, cpu, x, pg, fr, wr⟩ := o
  dsimp only at *
  unfold Op.v
  go_enter Tryz.func8, Tryz.ntmps8
  go_wp2_with fail
  refine (pick8 _ _).mono ?_
  rintro e w1 ⟨rfl, rfl⟩
  go_wp2_with fail
  refine HC.out.mono ?_
  rintro e w2 ⟨rfl, n2⟩
  have N2 := Lib.hid n2.box
  clear n2 HC
  go_wp2_with fail
  refine (truth_any _ _).mono ?_
  rintro e w3 ⟨rfl, rfl⟩
  go_wp2
  refine bodyPost_ret (results_tmp3 rfl _ _ _) rfl ?_
  exact ⟨_, _, rfl, World.ownsRow_nil _ _ _ _, N2.out, HS.out.1, HS.out.2, by simp⟩
set_option maxRecDepth 100000 in
set_option maxHeartbeats 1600000 in
theorem md2 (w : World) (F : List Nat) (p : Nat) (s : Mm) (r : Rm) (o : Op) (ks : List Int) (P : MdPre w F p s r o ks) (hk : o.d % 8 = 2) :
    Calls Tryz.prog 8 #[.pointer (some ⟨p, 0, none⟩), o.v] w (ModP w F p s r o ks) := by
  have k0 : Keeps [] w (w.alloc (.cells #[.int .i64 o.d, .int .i64 o.cpu, .int .i64 o.x, .int .i64 o.pg, .int .i64 o.fr, .bool o.wr] 29)) := (Keeps.refl _ w).alloc _
  have h0 := P.h.keep k0 (by simp)
  have eA : opA ks s o = (s.acc o.cpu o.x o.pg o.wr).f := by unfold opA; rw [hk]; rfl
  have eB : opB s o = tru (s.acc o.cpu o.x o.pg o.wr).ok := by unfold opB; rw [hk]; rfl
  have eL : opL s o = [] := by unfold opL; rw [hk]; rfl
  have eS : s.op o = (s.acc o.cpu o.x o.pg o.wr).s := by unfold Mm.op; rw [hk]; rfl
  have HC := Lib.hid (racc_any _ F p r h0 o.cpu o.x o.pg o.wr (fun k hk => ⟨(P.hk k hk).1, (P.hk k hk).2.1⟩) P.hC)
  obtain ⟨s1, s2, s3⟩ := P.sim.acc o.cpu o.x o.pg o.wr
  have HS := Lib.hid (And.intro s1 (show (r.acc o.cpu o.x o.pg o.wr).s.N.length ≤ r.N.length + 1 by rw [acc_N]; omega))
  rw [← s2, ← s3] at HC
  clear s1 s2 s3
  unfold ModP
  rw [eA, eB, eL, eS]
  clear eA eB eL eS h0 k0 P
  generalize s.acc o.cpu o.x o.pg o.wr = a at *
  generalize r.acc o.cpu o.x o.pg o.wr = b at *
  obtain ⟨d, cpu, x, pg, fr, wr⟩ := o
  dsimp only at *
  unfold Op.v
  go_enter Tryz.func8, Tryz.ntmps8
  go_wp2_with fail
  refine (pick8 _ _).mono ?_
  rintro e w1 ⟨rfl, rfl⟩
  go_wp2_with fail
  refine HC.out.mono ?_
  rintro e w2 ⟨rfl, n2⟩
  have N2 := Lib.hid n2.box
  clear n2 HC
  go_wp2_with fail
  refine (truth_any _ _).mono ?_
  rintro e w3 ⟨rfl, rfl⟩
  go_wp2
  refine bodyPost_ret (results_tmp3 rfl _ _ _) rfl ?_
  exact ⟨_, _, rfl, World.ownsRow_nil _ _ _ _, N2.out, HS.out.1, HS.out.2, by simp⟩
set_option maxRecDepth 100000 in
set_option maxHeartbeats 1600000 in
theorem md3 (w : World) (F : List Nat) (p : Nat) (s : Mm) (r : Rm) (o : Op) (ks : List Int) (P : MdPre w F p s r o ks) (hk : o.d % 8 = 3) :
    Calls Tryz.prog 8 #[.pointer (some ⟨p, 0, none⟩), o.v] w (ModP w F p s r o ks) := by
  have k0 : Keeps [] w (w.alloc (.cells #[.int .i64 o.d, .int .i64 o.cpu, .int .i64 o.x, .int .i64 o.pg, .int .i64 o.fr, .bool o.wr] 29)) := (Keeps.refl _ w).alloc _
  have h0 := P.h.keep k0 (by simp)
  have eA : opA ks s o = mapN o.pg o.fr := by unfold opA; rw [hk]; rfl
  have eB : opB s o = 0 := by unfold opB; rw [hk]; rfl
  have eL : opL s o = [] := by unfold opL; rw [hk]; rfl
  have eS : s.op o = s.map o.x o.pg o.fr o.wr := by unfold Mm.op; rw [hk]; rfl
  have HC := Lib.hid (rmap_any _ F p r h0 P.sim.a (by have := P.hN; omega) o.x o.pg o.fr o.wr P.hk P.hC P.n0 P.n1)
  have HSI := Lib.hid P.sim
  unfold ModP
  rw [eA, eB, eL, eS]
  clear eA eB eL eS h0 k0 P
  obtain ⟨d, cpu, x, pg, fr, wr⟩ := o
  dsimp only at *
  unfold Op.v
  go_enter Tryz.func8, Tryz.ntmps8
  go_wp2_with fail
  refine (pick8 _ _).mono ?_
  rintro e w1 ⟨rfl, rfl⟩
  go_wp2_with fail
  refine HC.out.mono ?_
  rintro e w2 ⟨r', rfl, n2, m2⟩
  have N2 := Lib.hid n2.box
  have HS := Lib.hid (And.intro (HSI.out.map m2) m2.k)
  clear n2 HC m2
  go_wp2
  refine bodyPost_ret (results_tmp3 rfl _ _ _) rfl ?_
  exact ⟨_, _, rfl, World.ownsRow_nil _ _ _ _, N2.out, HS.out.1, HS.out.2, by simp⟩
set_option maxRecDepth 100000 in
set_option maxHeartbeats 1600000 in
theorem md4 (w : World) (F : List Nat) (p : Nat) (s : Mm) (r : Rm) (o : Op) (ks : List Int) (P : MdPre w F p s r o ks) (hk : o.d % 8 = 4) :
    Calls Tryz.prog 8 #[.pointer (some ⟨p, 0, none⟩), o.v] w (ModP w F p s r o ks) := by
  have k0 : Keeps [] w (w.alloc (.cells #[.int .i64 o.d, .int .i64 o.cpu, .int .i64 o.x, .int .i64 o.pg, .int .i64 o.fr, .bool o.wr] 29)) := (Keeps.refl _ w).alloc _
  have h0 := P.h.keep k0 (by simp)
  have eA : opA ks s o = mapN o.pg o.fr := by unfold opA; rw [hk]; rfl
  have eB : opB s o = 0 := by unfold opB; rw [hk]; rfl
  have eL : opL s o = [] := by unfold opL; rw [hk]; rfl
  have eS : s.op o = s.map o.x o.pg o.fr o.wr := by unfold Mm.op; rw [hk]; rfl
  have HC := Lib.hid (rmap_any _ F p r h0 P.sim.a (by have := P.hN; omega) o.x o.pg o.fr o.wr P.hk P.hC P.n0 P.n1)
  have HSI := Lib.hid P.sim
  unfold ModP
  rw [eA, eB, eL, eS]
  clear eA eB eL eS h0 k0 P
  obtain ⟨d, cpu, x, pg, fr, wr⟩ := o
  dsimp only at *
  unfold Op.v
  go_enter Tryz.func8, Tryz.ntmps8
  go_wp2_with fail
  refine (pick8 _ _).mono ?_
  rintro e w1 ⟨rfl, rfl⟩
  go_wp2_with fail
  refine HC.out.mono ?_
  rintro e w2 ⟨r', rfl, n2, m2⟩
  have N2 := Lib.hid n2.box
  have HS := Lib.hid (And.intro (HSI.out.map m2) m2.k)
  clear n2 HC m2
  go_wp2
  refine bodyPost_ret (results_tmp3 rfl _ _ _) rfl ?_
  exact ⟨_, _, rfl, World.ownsRow_nil _ _ _ _, N2.out, HS.out.1, HS.out.2, by simp⟩
set_option maxRecDepth 100000 in
set_option maxHeartbeats 1600000 in
theorem md5 (w : World) (F : List Nat) (p : Nat) (s : Mm) (r : Rm) (o : Op) (ks : List Int) (P : MdPre w F p s r o ks) (hk : o.d % 8 = 5) :
    Calls Tryz.prog 8 #[.pointer (some ⟨p, 0, none⟩), o.v] w (ModP w F p s r o ks) := by
  have k0 : Keeps [] w (w.alloc (.cells #[.int .i64 o.d, .int .i64 o.cpu, .int .i64 o.x, .int .i64 o.pg, .int .i64 o.fr, .bool o.wr] 29)) := (Keeps.refl _ w).alloc _
  have h0 := P.h.keep k0 (by simp)
  have eA : opA ks s o = tru (ent (s.tab o.x) o.pg).isSome := by unfold opA; rw [hk]; rfl
  have eB : opB s o = 0 := by unfold opB; rw [hk]; rfl
  have eL : opL s o = [] := by unfold opL; rw [hk]; rfl
  have eS : s.op o = s.unmap o.x o.pg := by unfold Mm.op; rw [hk]; rfl
  have HC := Lib.hid (runmap_any _ F p r h0 o.x o.pg P.hk P.hC P.n0 P.n1)
  have HS := Lib.hid (And.intro (P.sim.unmap o.x o.pg) (show ((r.shoot (fun e => e.is o.x o.pg)).setTab o.x (unmM (r.tab o.x) o.pg)).N.length ≤ r.N.length + 1 by rw [rset_N]; exact Nat.le_succ _))
  rw [← P.sim.t o.x] at HC HS
  unfold ModP
  rw [eA, eB, eL, eS]
  clear eA eB eL eS h0 k0 P
  obtain ⟨d, cpu, x, pg, fr, wr⟩ := o
  dsimp only at *
  unfold Op.v
  go_enter Tryz.func8, Tryz.ntmps8
  go_wp2_with fail
  refine (pick8 _ _).mono ?_
  rintro e w1 ⟨rfl, rfl⟩
  go_wp2_with fail
  refine HC.out.mono ?_
  rintro e w2 ⟨rfl, n2⟩
  have N2 := Lib.hid n2.box
  clear n2 HC
  go_wp2_with fail
  refine (truth_any _ _).mono ?_
  rintro e w3 ⟨rfl, rfl⟩
  go_wp2
  refine bodyPost_ret (results_tmp3 rfl _ _ _) rfl ?_
  exact ⟨_, _, rfl, World.ownsRow_nil _ _ _ _, N2.out, HS.out.1, HS.out.2, by simp⟩
set_option maxRecDepth 100000 in
set_option maxHeartbeats 1600000 in
theorem md6 (w : World) (F : List Nat) (p : Nat) (s : Mm) (r : Rm) (o : Op) (ks : List Int) (P : MdPre w F p s r o ks) (hk : o.d % 8 = 6) :
    Calls Tryz.prog 8 #[.pointer (some ⟨p, 0, none⟩), o.v] w (ModP w F p s r o ks) := by
  have k0 : Keeps [] w (w.alloc (.cells #[.int .i64 o.d, .int .i64 o.cpu, .int .i64 o.x, .int .i64 o.pg, .int .i64 o.fr, .bool o.wr] 29)) := (Keeps.refl _ w).alloc _
  have h0 := P.h.keep k0 (by simp)
  have eA : opA ks s o = (sumD o.fr s.t (fun _ => false) ks : Nat) := by unfold opA; rw [hk]; rfl
  have eB : opB s o = 0 := by unfold opB; rw [hk]; rfl
  have eL : opL s o = [] := by unfold opL; rw [hk]; rfl
  have eS : s.op o = s.lose o.fr := by unfold Mm.op; rw [hk]; rfl
  have HC := Lib.hid (rlose_any _ F p r h0 P.sim.a P.sim.l (by have := P.hN; omega) o.fr (fun k hk => ⟨(P.hk k hk).1, (P.hk k hk).2.2⟩) P.hC P.n0 P.n1)
  have HSI := Lib.hid P.sim
  have hh := P.sim.hits o.fr P.hn P.hks
  unfold LoseP at HC
  rw [← hh] at HC
  clear hh
  unfold ModP
  rw [eA, eB, eL, eS]
  clear eA eB eL eS h0 k0 P
  generalize sumD o.fr s.t (fun _ => false) ks = sd at *
  obtain ⟨d, cpu, x, pg, fr, wr⟩ := o
  dsimp only at *
  unfold Op.v
  go_enter Tryz.func8, Tryz.ntmps8
  go_wp2_with fail
  refine (pick8 _ _).mono ?_
  rintro e w1 ⟨rfl, rfl⟩
  go_wp2_with fail
  refine HC.out.mono ?_
  rintro e w2 ⟨r', rfl, n2, m2⟩
  have N2 := Lib.hid n2.box
  have HS := Lib.hid (And.intro (HSI.out.lose m2) (show r'.N.length ≤ r.N.length + 1 by rw [m2.a]; omega))
  clear n2 HC m2
  go_wp2
  refine bodyPost_ret (results_tmp3 rfl _ _ _) rfl ?_
  exact ⟨_, _, rfl, World.ownsRow_nil _ _ _ _, N2.out, HS.out.1, HS.out.2, by simp⟩
set_option maxRecDepth 100000 in
set_option maxHeartbeats 1600000 in
theorem md7e (w : World) (F : List Nat) (p : Nat) (s : Mm) (r : Rm) (o : Op) (ks : List Int) (P : MdPre w F p s r o ks) (hk : o.d % 8 = 7) (hw : o.wr = true) :
    Calls Tryz.prog 8 #[.pointer (some ⟨p, 0, none⟩), o.v] w (ModP w F p s r o ks) := by
  have k0 : Keeps [] w (w.alloc (.cells #[.int .i64 o.d, .int .i64 o.cpu, .int .i64 o.x, .int .i64 o.pg, .int .i64 o.fr, .bool o.wr] 29)) := (Keeps.refl _ w).alloc _
  have h0 := P.h.keep k0 (by simp)
  have eA : opA ks s o = 0 := by unfold opA; rw [hk]; rfl
  have eB : opB s o = 0 := by unfold opB; rw [hk]; rfl
  have eL : opL s o = [] := by unfold opL; rw [hk]; rw [hw]; rfl
  have eS : s.op o = s.end_ o.x := by unfold Mm.op; rw [hk]; rw [hw]; rfl
  have HC := Lib.hid (rend_any _ F p r h0 o.x P.hk P.hC P.n0 P.n1)
  have HS := Lib.hid (And.intro (P.sim.end_ o.x (by rw [P.sim.t o.x]; exact P.h.z o.x)) (show ((r.setTab o.x (unmL (ents (r.tab o.x) 256) (r.tab o.x))).shoot (fun e => e.s == o.x)).N.length ≤ r.N.length + 1 by show (Rm.setTab _ _ _).N.length ≤ _; rw [rset_N]; exact Nat.le_succ _))
  unfold ModP
  rw [eA, eB, eL, eS]
  clear eA eB eL eS h0 k0 P
  obtain ⟨d, cpu, x, pg, fr, wr⟩ := o
  dsimp only at *
  subst hw
  unfold Op.v
  go_enter Tryz.func8, Tryz.ntmps8
  go_wp2_with fail
  refine (pick8 _ _).mono ?_
  rintro e w1 ⟨rfl, rfl⟩
  go_wp2_with fail
  refine HC.out.mono ?_
  rintro e w2 ⟨rfl, n2⟩
  have N2 := Lib.hid n2.box
  clear n2 HC
  go_wp2
  refine bodyPost_ret (results_tmp3 rfl _ _ _) rfl ?_
  exact ⟨_, _, rfl, World.ownsRow_nil _ _ _ _, N2.out, HS.out.1, HS.out.2, by simp⟩
set_option maxRecDepth 100000 in
set_option maxHeartbeats 1600000 in
theorem md7u (w : World) (F : List Nat) (p : Nat) (s : Mm) (r : Rm) (o : Op) (ks : List Int) (P : MdPre w F p s r o ks) (hk : o.d % 8 = 7) (hw : o.wr = false) :
    Calls Tryz.prog 8 #[.pointer (some ⟨p, 0, none⟩), o.v] w (ModP w F p s r o ks) := by
  have k0 : Keeps [] w (w.alloc (.cells #[.int .i64 o.d, .int .i64 o.cpu, .int .i64 o.x, .int .i64 o.pg, .int .i64 o.fr, .bool o.wr] 29)) := (Keeps.refl _ w).alloc _
  have h0 := P.h.keep k0 (by simp)
  have eA : opA ks s o = 0 := by unfold opA; rw [hk]; rfl
  have eB : opB s o = 0 := by unfold opB; rw [hk]; rfl
  have eL : opL s o = s.usedL o.x := by unfold opL; rw [if_pos ⟨hk, hw⟩]
  have eS : s.op o = s.used o.x := by unfold Mm.op; rw [if_neg (by omega), if_neg (by omega), if_neg (by omega), if_neg (by omega), if_neg (by rw [hw]; simp)]
  have HC := Lib.hid (rused_any _ F p r h0 o.x)
  have HS := Lib.hid (And.intro (P.sim.used o.x) (show (r.setTab o.x (usedM (ents (r.tab o.x) 256) (r.tab o.x))).N.length ≤ r.N.length + 1 by rw [rset_N]; exact Nat.le_succ _))
  rw [← P.sim.t o.x] at HC HS
  unfold ModP
  rw [eA, eB, eL, eS]
  unfold Mm.usedL
  clear eA eB eL eS h0 k0 P
  obtain ⟨d, cpu, x, pg, fr, wr⟩ := o
  dsimp only at *
  subst hw
  unfold Op.v
  go_enter Tryz.func8, Tryz.ntmps8
  go_wp2_with fail
  refine (pick8 _ _).mono ?_
  rintro e w1 ⟨rfl, rfl⟩
  go_wp2_with fail
  refine HC.out.mono ?_
  rintro e w2 ⟨v, rfl, o2, n2, v2⟩
  have N2 := Lib.hid n2.box
  have O2 := Lib.hid (And.intro o2 v2)
  clear n2 HC o2 v2
  go_wp2
  refine bodyPost_ret (results_tmp3 rfl _ _ _) rfl ?_
  exact ⟨_, _, rfl, O2.out.1, N2.out, HS.out.1, HS.out.2, fun g hg => by have := O2.out.2 g hg; simp at this; omega⟩
theorem model_any (w : World) (F : List Nat) (p : Nat) (s : Mm) (r : Rm) (o : Op) (ks : List Int) (P : MdPre w F p s r o ks) :
    Calls Tryz.prog 8 #[.pointer (some ⟨p, 0, none⟩), o.v] w (ModP w F p s r o ks) := by
  have h8 : o.d % 8 = 0 ∨ o.d % 8 = 1 ∨ o.d % 8 = 2 ∨ o.d % 8 = 3 ∨ o.d % 8 = 4 ∨ o.d % 8 = 5 ∨ o.d % 8 = 6 ∨ o.d % 8 = 7 := by omega
  rcases h8 with e | e | e | e | e | e | e | e
  · exact md0 w F p s r o ks P e
  · exact md1 w F p s r o ks P e
  · exact md2 w F p s r o ks P e
  · exact md3 w F p s r o ks P e
  · exact md4 w F p s r o ks P e
  · exact md5 w F p s r o ks P e
  · exact md6 w F p s r o ks P e
  · cases hw : o.wr with
    | true => exact md7e w F p s r o ks P e hw
    | false => exact md7u w F p s r o ks P e hw
end Go.Proofs.YteognipfnbocpaaGreat
