/- The texts Z5, Z6, Z7, Z8, Z10, Z11 in one. -/
import Derived.Test.YtbllmpcpfmlemaaGreatZ4
namespace Go.Proofs.YtbllmpcpfmlemaaGreat
open Go.RowKit
theorem same_eq {W : World} {v v' : Value} {q : List Str} (h : W.ownsRow 0 9 1 v q.length (vs q)) (h' : W.ownsRow 0 9 1 v' q.length (vs q)) (hl : q.length ≤ 1000000) :
    Calls Tryz.prog 13 #[v, v'] W fun e w' => e = .returned (.bool true) ∧ Keeps [] W w' := by
  obtain ⟨B, d, rfl, -, -, -⟩ := own_shape h
  obtain ⟨B', d', rfl, -, -, -⟩ := own_shape h'
  have h1 := same_any W B B' q q d d' (AtS.of_own h hl) (AtS.of_own h' hl)
  rw [decide_eq_true (rfl : q = q)] at h1
  exact h1
set_option maxRecDepth 100000 in
set_option maxHeartbeats 3200000 in
theorem sameReads_eq (w : World) (A B : Option Addr) (l : List Rd) (c d : Nat) (ha : RdAt w (.slice A l.length c) l) (hb : RdAt w (.slice B l.length d) l) (hl : ∀ r ∈ l, (lstR r).length ≤ 1000000) (hm : l.length ≤ 2000000) :
    Calls Tryz.prog 27 #[.slice A l.length c, .slice B l.length d] w fun e w' => e = .returned (.bool true) ∧ Keeps [] w w' := by
  have HA := Lib.hid ha
  have HB := Lib.hid hb
  have HL := Lib.hid hl
  clear ha hb hl
  go_enter Tryz.func27, Tryz.ntmps27
  go_wp2_with fail
  go_loopw [5] (fun iv wr => ∃ k : Nat, k ≤ l.length ∧ iv = .int .i64 k ∧ Keeps [] w wr) (fun iv _ => l.length - (intOf iv).toNat)
  case atStart => exact ⟨0, by omega, rfl, Keeps.refl _ _⟩
  case round =>
    obtain ⟨k, hk, rfl, hkr⟩ := hrel
    have KR := Lib.hid hkr
    clear hkr
    by_cases hlt : k < l.length
    · obtain ⟨xs, ho, hc⟩ := HA.out.keep0 KR.out
      obtain ⟨ys, ho2, hc2⟩ := HB.out.keep0 KR.out
      obtain ⟨p0, p1, p2, ra, p3, oa⟩ := hc k hlt
      obtain ⟨q0, q1, q2, rb, q3, ob⟩ := hc2 k hlt
      obtain ⟨A', c', hv, -, -, hA⟩ := own_shape ho
      obtain ⟨g1, hg1⟩ := hA (by omega)
      obtain ⟨rfl, -, rfl⟩ : A = A' ∧ l.length = l.length ∧ c = c' := by injection hv with h1 h2 h3; exact ⟨h1, rfl, h3⟩
      subst hg1
      obtain ⟨B', d', hv2, -, -, hB⟩ := own_shape ho2
      obtain ⟨g2, hg2⟩ := hB (by omega)
      obtain ⟨rfl, -, rfl⟩ : B = B' ∧ l.length = l.length ∧ d = d' := by injection hv2 with h1 h2 h3; exact ⟨h1, rfl, h3⟩
      subst hg2
      have i0 : (0 : Int) ≤ (k : Int) := by omega
      have i1 : (k : Int) < (l.length : Int) := by omega
      have hlk := HL.out _ (List.getElem_mem hlt)
      have HS : Hid (∀ W, Keeps [] wr W → W.cell? ⟨g1, 0 + k * 4, none⟩ = some (.int .i64 (kindR l[k])) ∧ W.cell? ⟨g1, 0 + k * 4 + 1, none⟩ = some (sv (keyR l[k])) ∧ W.cell? ⟨g1, 0 + k * 4 + 2, none⟩ = some (sv (valR l[k])) ∧ W.cell? ⟨g1, 0 + k * 4 + 3, none⟩ = some ra ∧ W.cell? ⟨g2, 0 + k * 4, none⟩ = some (.int .i64 (kindR l[k])) ∧ W.cell? ⟨g2, 0 + k * 4 + 1, none⟩ = some (sv (keyR l[k])) ∧ W.cell? ⟨g2, 0 + k * 4 + 2, none⟩ = some (sv (valR l[k])) ∧ W.cell? ⟨g2, 0 + k * 4 + 3, none⟩ = some rb) := Lib.hid (fun W hk => by
        have x1 := own_keep ho hk (by simp)
        have x2 := own_keep ho2 hk (by simp)
        simp only [Nat.zero_add]
        exact ⟨own_cell x1 p0, own_cell x1 p1, own_cell x1 p2, own_cell x1 p3, own_cell x2 q0, own_cell x2 q1, own_cell x2 q2, own_cell x2 q3⟩)
      have HC : Hid (∀ W, Keeps [] wr W → Calls Tryz.prog 13 #[ra, rb] W fun e w' => e = .returned (.bool true) ∧ Keeps [] W w') := Lib.hid (fun W hk => same_eq (own_keep oa hk (by simp)) (own_keep ob hk (by simp)) hlk)
      clear hv hv2 hA hB ho ho2 hc hc2 p0 p1 p2 p3 q0 q1 q2 q3 oa ob hlk
      go_upto_region 6 with fail
      refine sameR6_any wr g1 0 g2 0 l.length c d k _ _ _ ra rb _ HS.out HC.out i0 i1 _ _ _ _ _ _ _ _ _ _ _ _ _ _ _ _ _ _ _ _ _ _ _ _ _ _ _ _ _ _ _ _ _ _ _ _ _ _ _ _ _ _ _ _ _ _ _ _ _ _ _ _ _ _ _ _ _ _ _ _ _ _ _ _ _ ?_
      intro v17 v18 v19 v20 v21 v22 v23 v24 v25 v26 v27 v28 v29 v30 v31 v32 v33 v34 v35 v36 v37 v38 v39 v40 v41 v42 v43 v44 v45 v46 v47 v48 v49 v50 v51 v52 v53 v54 v55 v56 v57 v58 v59 v60 v61 v62 v63 v64 v65 v66 W hk
      have KN := Lib.hid (KR.out.trans hk (by simp))
      clear hk HS HC
      go_wp2_with fail
      exact ⟨⟨k + 1, by omega, rfl, KN.out⟩, by simp only [intOf]; omega⟩
    · obtain rfl : k = l.length := by omega
      have i1 : ¬ ((l.length : Int) < (l.length : Int)) := by omega
      go_wp2_with fail
      go_ret
      exact ⟨rfl, KR.out⟩
end Go.Proofs.YtbllmpcpfmlemaaGreat
namespace Go.Proofs.YtbllmpcpfmlemaaGreat
open Go.RowKit
/-- What alike wants of one of the two cells. -/
structure Asks (w : World) (c : Nat) (i : Int) (n : List Str) (m : List (Str × Str)) (r : List Rd) (b : Bool) (s : Str → Str) : Prop where
  nm : ∀ W, Keeps [] w W → Calls Tryz.prog 30 #[.pointer (some ⟨c, 0, none⟩), .int .i64 i] W fun e w' => (∃ A cc, e = .returned (.slice A n.length cc) ∧ w'.ownsRow 0 9 1 (.slice A n.length cc) n.length (vs n)) ∧ Keeps [] W w'
  wr : ∀ W, Keeps [] w W → Calls Tryz.prog 25 #[.pointer (some ⟨c, 0, none⟩), .int .i64 i] W fun e w' => (∃ A cc, e = .returned (.slice A m.length cc) ∧ ∀ W, Keeps [] w' W → AtP W A m) ∧ Keeps [] W w'
  rd : ∀ W, Keeps [] w W → Calls Tryz.prog 28 #[.pointer (some ⟨c, 0, none⟩), .int .i64 i] W fun e w' => (∃ A cc, e = .returned (.slice A r.length cc) ∧ RdAt w' (.slice A r.length cc) r) ∧ Keeps [] W w'
  vl : ∀ W, Keeps [] w W → Calls Tryz.prog 14 #[.pointer (some ⟨c, 0, none⟩), .int .i64 i] W fun e w' => e = .returned (.bool b) ∧ Keeps [] W w'
  lg : ∀ W, Keeps [] w W → ∀ k ∈ n, Calls Tryz.prog 31 #[.pointer (some ⟨c, 0, none⟩), .int .i64 i, sv k] W fun e w' => e = .returned (sv (s k)) ∧ Keeps [] W w'
theorem Cs.asks {w : World} {c : Nat} {F G : List Nat} {C : St} {P : List Str} (h : Cs w c F G C) (hW : WF P C) (hP : PoolOk P) {i : Int} (hi : I64 i) :
    Asks w c i (namesP C i) (wrP C i) (rdsP C i) (validP C i) (logsP C i) := by
  refine ⟨fun W k => ?_, fun W k => ?_, fun W k => ?_, fun W k => ?_, fun W k q hq => ?_⟩
  · refine (names_any (h.keep0 k) hW hP hi).mono ?_
    rintro e w' ⟨⟨v, rfl, h1, -⟩, h2⟩
    obtain ⟨A, cc, rfl, -, -, -⟩ := own_shape h1
    exact ⟨⟨A, cc, rfl, h1⟩, h2⟩
  · refine (writes_any (h.keep0 k) hW hP hi).mono ?_
    rintro e w' ⟨v, rfl, h1, h2, -⟩
    obtain ⟨A, cc, rfl, -, -, -⟩ := own_shape h1
    exact ⟨⟨A, cc, rfl, fun W k => AtP.of_own (own_keep h1 k (by simp)) (wrP_len hW hP i)⟩, h2⟩
  · exact reads_any (h.keep0 k) hW hP hi
  · exact valid_any (h.keep0 k) hW hP hi
  · refine (logs_any (h.keep0 k) hi q ?_).mono ?_
    · unfold namesP at hq
      cases hf : find C i with
      | none => rw [hf] at hq; cases hq
      | some x =>
        rw [hf] at hq
        obtain ⟨e, he, rfl⟩ := List.mem_map.1 hq
        exact hP.k _ ((hW.ok x (find_mem hf).1).lp e he)
    · rintro e w' ⟨rfl, rfl⟩
      exact ⟨rfl, Keeps.refl _ _⟩
end Go.Proofs.YtbllmpcpfmlemaaGreat
namespace Go.Proofs.YtbllmpcpfmlemaaGreat
open Go.RowKit
section
variable {w : World} {c d : Nat} {F G F2 G2 : List Nat} {C D : St} {P : List Str}
theorem names_len (hW : WF P C) (hP : PoolOk P) (i : Int) : (namesP C i).length ≤ 1000000 := by
  unfold namesP
  cases hf : find C i with
  | none => simp
  | some x =>
    have hok := hW.ok x (find_mem hf).1
    have := hP.leK hok.lg hok.lp
    simpa using this
theorem rds_lst (hW : WF P C) (hP : PoolOk P) (i : Int) : ∀ r ∈ rdsP C i, (lstR r).length ≤ 1000000 := by
  unfold rdsP
  cases hf : find C i with
  | none => simp
  | some x =>
    have hok := hW.ok x (find_mem hf).1
    intro r hr
    cases r with
    | cell a b => simp [lstR]
    | keys p l => exact hP.le (hok.ls p l hr).1 (fun s hs => ((hok.ls p l hr).2 s hs).1)
theorem rds_len (hW : WF P C) (hP : PoolOk P) (i : Int) : (rdsP C i).length ≤ 2000000 := by
  unfold rdsP
  cases hf : find C i with
  | none => simp
  | some x => exact rd_le hW hP (find_mem hf).1
theorem live_i64 (hW : WF P C) {i : Int} (hi : i ∈ liveP C) : I64 i := by
  obtain ⟨x, hx, rfl⟩ := has_iff.1 (((live_ok hW.tree).2 i).1 hi).2
  exact ⟨(hW.ok x hx).id1, (hW.ok x hx).id2⟩
end
end Go.Proofs.YtbllmpcpfmlemaaGreat
namespace Go.Proofs.YtbllmpcpfmlemaaGreat
open Go.RowKit
/-- The operations at the place k. -/
theorem AtO.get {w : World} {A : Option Addr} {L : List Oq} (h : AtO w A L) {k : Nat} (hk : k < L.length) : ∃ b off, A = some ⟨b, off, none⟩ ∧
    w.cell? ⟨b, off + k * 9, none⟩ = some (.int .i64 L[k].x.dw) ∧ w.cell? ⟨b, off + k * 9 + 1, none⟩ = some (.int .i64 L[k].x.who) ∧ w.cell? ⟨b, off + k * 9 + 2, none⟩ = some (.int .i64 L[k].x.n) ∧
    w.cell? ⟨b, off + k * 9 + 3, none⟩ = some (sv L[k].x.key) ∧ w.cell? ⟨b, off + k * 9 + 4, none⟩ = some (sv L[k].x.val) ∧ w.cell? ⟨b, off + k * 9 + 5, none⟩ = some (.int .i64 L[k].x.r.kind) ∧
    w.cell? ⟨b, off + k * 9 + 6, none⟩ = some (sv L[k].x.r.key) ∧ w.cell? ⟨b, off + k * 9 + 7, none⟩ = some (sv L[k].x.r.val) ∧ w.cell? ⟨b, off + k * 9 + 8, none⟩ = some (.slice L[k].A L[k].x.r.list.length L[k].c) := by
  obtain ⟨b, off, h1, _, h3⟩ := h.at_ (by omega)
  exact ⟨b, off, h1, h3 k hk⟩
section
variable {a W W' : World} {c d e : Nat} {C D E : St} {P : List Str}
end
end Go.Proofs.YtbllmpcpfmlemaaGreat
namespace Go.Proofs.YtbllmpcpfmlemaaGreat
open Go.RowKit
theorem seesKeys_len {P : List Str} {C : St} (hW : WF P C) (hP : PoolOk P) (i : Int) (k : Str) : (seesKeys C i k).length ≤ 1000000 := hP.le (seesKeys_ok hW.ok i k).1 (fun s hs => ((seesKeys_ok hW.ok i k).2 s hs).1)
theorem do_len {P : List Str} {C : St} (hW : WF P C) (hP : PoolOk P) (x : Opn) (hx : x.key ∈ P) : (doP C x).1.2.1.length ≤ 1000000 := by
  unfold doP
  by_cases h4 : doing x < 4
  · rw [if_pos h4]; simp
  rw [if_neg h4]
  by_cases h6 : doing x = 6
  · rw [if_pos h6]; exact seesKeys_len (hW.askK _ hx) hP _ _
  rw [if_neg h6]
  repeat' split
  all_goals simp
section
variable {a W W' : World} {c d n : Nat} {C D : St} {P : List Str} {T : List Nat}
end
end Go.Proofs.YtbllmpcpfmlemaaGreat
namespace Go.Proofs.YtbllmpcpfmlemaaGreat
open Go.RowKit
theorem info3w : (Tryz.prog.info? 3).map (fun i => (i.zero, i.size, i.bytes)) = some (some (.int .i64 0), 1, 8) := by kernel_rfl
theorem zs_one (l : List Int) : ∀ u ∈ zs l, u.oneCell' = true := by
  intro u hu
  simp only [zs, List.mem_map] at hu
  obtain ⟨z, _, rfl⟩ := hu
  rfl
theorem at_own {W : World} {A : Option Addr} {e n c : Nat} {xs : List Value} (h : W.ownsRow 0 e 1 (.slice A n c) n xs) (h0 : 0 < n) : ∃ b off, A = some ⟨b, off, none⟩ ∧ ∀ (k : Nat) (u : Value), xs[k]? = some u → W.cell? ⟨b, off + k, none⟩ = some u := by
  obtain ⟨A', c', hv, -, -, hA⟩ := own_shape h
  obtain ⟨g, hg⟩ := hA h0
  obtain ⟨rfl, -, rfl⟩ : A = A' ∧ n = n ∧ c = c' := by injection hv with h1 h2 h3; exact ⟨h1, rfl, h3⟩
  subst hg
  refine ⟨g, 0, rfl, fun k u hu => ?_⟩
  rw [Nat.zero_add]
  exact own_cell h hu
end Go.Proofs.YtbllmpcpfmlemaaGreat
