/- first, Fill, Look. -/
import Derived.Test.YteognipfnbocpaaT13W6
namespace Go.Proofs.Yteognipfnbocpaa.T13
open Go.RowKit

/-- A call of a Go function as one step of a region that draws its order ('go_region_law'). -/
theorem step_call {P : Program} {ops : Array Oper} {o : Oper} {a : Act} {w : World} {K : Act → World → Prop} {Q : Exit → Act → World → Prop} {E : Prop}
    (hg : o.guard = none) (f : Nat) (xs : Array Operand) (ts : Array TypeId) (hop : o.op = Op.call { callee := .value (.func f), args := xs, argTypes := ts }) (args : Array Value) (hx : xs.map a.eval = args)
    (eg : ∀ args w, (callFunc f args).run P w = .ok (.enter f args) w) {R : Ending → World → Prop} (hC : Calls P f args w R) (hK : ∀ e w', R e w' → ∃ v, e = .returned v ∧ K (a.put o.dst v) w') :
    if Region.wanted o (yielded ops a.tmps) = true then Oper.wp P o a w K Q else E := by
  have hw : Region.wanted o (yielded ops a.tmps) = true := by simp [Region.wanted, hg]
  rw [if_pos hw]
  unfold Oper.wp
  simp only [execOp, hop, resolve, invoke, Sem.run_bind, hx]
  simp [Act.eval, Deferred.ofValue, eg, Result.andThen]
  rw [Oper.upon_enter]
  refine hC.mono ?_
  intro e w' hR
  obtain ⟨v, rfl, h⟩ := hK e w' hR
  exact h
theorem insert_any (w : World) (A : Option Addr) (cap vb : Nat) (L : List En) (x : En) (hn2 : L.length ≤ 1000000) (hne : vb ∉ fp (.slice A L.length cap))
    (ho : w.ownsRow 0 41 4 (.slice A L.length cap) L.length (es L)) (hv : Blk w vb 41 (ec x).toArray) :
    Calls Try.prog 65 #[.slice A L.length cap, .int .i64 0, .slice (some ⟨vb, 0, none⟩) 1 1] w fun e w' => Ins w A cap L x e w' := by
  cases L with
  | nil => exact insert_none w A cap vb x ho hv
  | cons y r =>
    obtain ⟨_, _, hvv, hcap, hmax, hA⟩ := own_shape ho
    obtain ⟨rfl, -, rfl⟩ : A = _ ∧ (y :: r).length = _ ∧ cap = _ := by injection hvv with h1 h2 h3; exact ⟨h1, h2, h3⟩
    obtain ⟨g, rfl⟩ := hA (by simp)
    have hne2 : vb ≠ g := by simpa using hne
    by_cases hc : (y :: r).length + 1 ≤ cap
    · exact insert_shift w g cap vb (y :: r) x (by simp) hn2 hc hne2 ho hv
    · obtain rfl : cap = (y :: r).length := by omega
      exact insert_grow w g vb (y :: r) x (by simp) hn2 ho hv

set_option maxRecDepth 100000 in
set_option maxHeartbeats 3200000 in
theorem first_any (w : World) (F : List Nat) (p : Nat) (s : Tl) (x : En) (hn : s.n ≤ 1000) (hl : s.L.length + 1 ≤ s.n) (h : TlRep 83 w F p s) :
    Calls Try.prog 59 #[.pointer (some ⟨p, 0, none⟩), .agg #[.int .i64 x.s, .int .i64 x.p, .int .i64 x.f, .bool x.w]] w fun e w' => e = .returned (.tuple #[]) ∧ Next 83 w w' F p ⟨s.n, x :: s.L⟩ := by
  obtain ⟨A, cap, h⟩ := h
  have hf := h.f
  have hoff := h.off
  have hpl := h.b.lt
  have c1 : w.cell? ⟨p, 1, none⟩ = some (.slice A s.L.length cap) := h.b.cell 1
  obtain ⟨wa, hwa⟩ : ∃ W, W = w.alloc (.cells #[.int .i64 x.s, .int .i64 x.p, .int .i64 x.f, .bool x.w] 41) := ⟨_, rfl⟩
  have ka : Keeps [] w wa := by rw [hwa]; exact (Keeps.refl _ _).alloc _
  have ba : Blk wa w.heap.size 41 #[.int .i64 x.s, .int .i64 x.p, .int .i64 x.f, .bool x.w] := by rw [hwa]; exact Blk.new _ _ _
  have za : wa.heap.size = w.heap.size + 1 := by rw [hwa]; simp
  have HC : Hid (∀ W, Keeps [] wa W → W.cell? ⟨p, 1, none⟩ = some (.slice A s.L.length cap) ∧ W.cell? ⟨w.heap.size, 0, none⟩ = some (.int .i64 x.s) ∧ W.cell? ⟨w.heap.size, 1, none⟩ = some (.int .i64 x.p) ∧ W.cell? ⟨w.heap.size, 2, none⟩ = some (.int .i64 x.f) ∧ W.cell? ⟨w.heap.size, 3, none⟩ = some (.bool x.w)) :=
    Lib.hid (fun W hk => by have b := h.b.keep (ka.trans hk (by simp)) (by simp); have c := ba.keep hk (by simp); exact ⟨b.cell 1, c.cell 0, c.cell 1, c.cell 2, c.cell 3⟩)
  have kd : Keeps [] wa wa.drew := (Keeps.refl [] wa).drew
  obtain ⟨q0, q1, q2, q3, q4⟩ := HC.out _ kd
  have hvb : w.heap.size + 1 ∉ fp (.slice A s.L.length cap) := fun hx => by have := own_lt h.o hx; omega
  have kb : Keeps [] wa ((wa.drew).alloc (.cells #[.int .i64 x.s, .int .i64 x.p, .int .i64 x.f, .bool x.w] 41)) := kd.alloc _
  have bb : Blk ((wa.drew).alloc (.cells #[.int .i64 x.s, .int .i64 x.p, .int .i64 x.f, .bool x.w] 41)) (w.heap.size + 1) 41 (ec x).toArray := by
    have := Blk.new wa.drew 41 #[.int .i64 x.s, .int .i64 x.p, .int .i64 x.f, .bool x.w]
    rw [show wa.drew.heap.size = wa.heap.size from rfl, za] at this
    exact this
  have hi := insert_any _ A cap (w.heap.size + 1) s.L x (by omega) hvb (own_keep h.o (ka.trans kb (by simp)) (by simp)) bb
  have HI := Lib.hid hi
  have QB := (HC.out _ kb).2
  have qb := (HC.out _ kb).1
  have hva : w.heap.size ∉ fp (.slice A s.L.length cap) := fun hx => by have := own_lt h.o hx; omega
  have HA := Lib.hid (ba.keep kb (by simp))
  have HB := Lib.hid (h.b.keep (ka.trans kb (by simp)) (by simp))
  have ht := h.t
  have KAB := Lib.hid (ka.trans kb (by simp))
  clear hi h ba bb
  subst hwa
  go_enter Try.func59, Try.ntmps59
  go_wp2_with fail
  go_region_law (refine step_call rfl 65 _ _ rfl #[.slice A s.L.length cap, .int .i64 0, .slice (some ⟨w.heap.size + 1, 0, none⟩) 1 1] (by simp [Act.eval]) (enters_of Try.func65 (by kernel_rfl) rfl) HI.out ?_; rintro e w1 ⟨v, rfl, o1, k1, f1⟩; refine ⟨_, rfl, ?_⟩; obtain ⟨A1, cap1, rfl, -, -, -⟩ := own_shape o1; have b1 := HB.out.keep k1 hoff; have d1 : w1.cell? ⟨p, 1, none⟩ = some (.slice A s.L.length cap) := b1.cell 1; have fz : w1.frozen? ⟨p, 1, none⟩ = false := b1.frozen 1)
  all_goals
    go_wp2
    go_end0
    have hs := k1.size
    have hs0 : w.heap.size + 1 + 1 ≤ w1.heap.size := by simpa using hs
    have hoff1 : p ∉ fp (.slice A1 (s.L.length + 1) cap1) := own_blk_off o1 b1 (by decide)
    refine ⟨rfl, p :: fp (.slice A1 (s.L.length + 1) cap1), ⟨A1, cap1, rfl, b1.set_ 1 _, own_far o1 hoff1 _, hl, ht⟩, ?_, ?_⟩
    · refine (Keeps.trans (F := F) (KAB.out.mono (by simp)) k1 (fun g hg => .inl (by rw [hf]; simp [hg]))).setCell (.inl (by rw [hf]; simp)) _
    · intro g hg
      rcases List.mem_cons.1 hg with rfl | hg
      · exact .inl (by rw [hf]; simp)
      · rcases f1 g hg with h1 | h1
        · exact .inl (by rw [hf]; simp [h1])
        · refine .inr ?_
          simp at h1
          omega

/-- s[:k] of the cache's entries. -/
theorem own_cutTo {w : World} {g cap n k : Nat} {L : List En} (h : w.ownsRow 0 41 4 (.slice (some ⟨g, 0, none⟩) n cap) n (es L)) (hk : k ≤ n) : w.ownsRow 0 41 4 (.slice (some ⟨g, 0, none⟩) k cap) k (es (L.take k)) := by
  obtain ⟨cur, hb, hnc, hcm, hcs, hx⟩ := own_blk h
  refine own_of_blk hb (by omega) hcm hcs ?_
  rw [← es_take, ← hx, List.take_take, Nat.min_eq_left (by omega)]
theorem own_cutNil {w : World} {cap n : Nat} {L : List En} (h : w.ownsRow 0 41 4 (.slice none n cap) n (es L)) : n = 0 ∧ cap = 0 := by
  rcases h.2 with ⟨h1, h2⟩ | ⟨g, c, cur, h1, _⟩
  · injection h1 with _ _ h3; exact ⟨h2, h3⟩
  · injection h1 with h1; cases h1

set_option maxRecDepth 100000 in
set_option maxHeartbeats 3200000 in
theorem fill_any (w : World) (F : List Nat) (p : Nat) (s : Tl) (x : En) (hn : s.n ≤ 1000) (h : TlRep 83 w F p s) :
    Calls Try.prog 44 #[.pointer (some ⟨p, 0, none⟩), .int .i64 x.s, .int .i64 x.p, .int .i64 x.f, .bool x.w] w fun e w' => e = .returned (.tuple #[]) ∧ Next 83 w w' F p (s.fill x) := by
  have hd := drop_any w F p s x.s x.p hn h
  obtain ⟨t, ht⟩ : ∃ t, t = s.drop (fun e => e.is x.s x.p) := ⟨_, rfl⟩
  have hsf : s.fill x = if s.n = 0 then t else ⟨s.n, x :: t.L.take (s.n - 1)⟩ := by rw [ht]; rfl
  have htn : t.n = s.n := by rw [ht]; rfl
  rw [← ht] at hd
  have HD := Lib.hid hd
  by_cases h0 : s.n = 0
  · rw [if_pos h0] at hsf
    have HS := Lib.hid hsf
    clear hd hsf ht
    go_enter Try.func44, Try.ntmps44
    go_wp2_with fail
    refine HD.out.mono ?_
    rintro e w1 ⟨rfl, r1, k1⟩
    have hr := r1
    obtain ⟨A, cap, g1⟩ := r1
    have c0 : w1.cell? ⟨p, 0, none⟩ = some (.int .i64 t.n) := g1.b.cell 0
    rw [htn, h0] at c0
    clear g1
    go_wp2
    refine bodyPost_ret (v := .tuple #[]) (by simp [results, Try.results44, go_sem]) rfl ?_
    rw [HS.out]
    exact ⟨rfl, .same hr k1⟩
  · rw [if_neg h0] at hsf
    have HS := Lib.hid hsf
    clear hd hsf ht
    go_enter Try.func44, Try.ntmps44
    go_wp2_with fail
    refine HD.out.mono ?_
    rintro e w1 ⟨rfl, r1, k1⟩
    obtain ⟨A, cap, g1⟩ := r1
    have c0 : w1.cell? ⟨p, 0, none⟩ = some (.int .i64 t.n) := g1.b.cell 0
    have c1 : w1.cell? ⟨p, 1, none⟩ = some (.slice A t.L.length cap) := g1.b.cell 1
    have d0 : w1.drew.cell? ⟨p, 0, none⟩ = some (.int .i64 t.n) := c0
    have d1 : w1.drew.cell? ⟨p, 1, none⟩ = some (.slice A t.L.length cap) := c1
    have fz : w1.drew.frozen? ⟨p, 1, none⟩ = false := g1.b.frozen 1
    have hm := g1.m
    obtain ⟨k, hk⟩ : ∃ k : Nat, k = min t.L.length (t.n - 1) := ⟨_, rfl⟩
    have hz : t.n ≠ 0 := by omega
    have hmin : min (t.L.length : Int) ((t.n : Int) - 1) = k := by omega
    have hmin2 : min ((t.n : Int) - 1) (t.L.length : Int) = k := by omega
    have hk0 : (0 : Int) ≤ (k : Int) := by omega
    have hk1 : k ≤ t.L.length := by omega
    have hcap : t.L.length ≤ cap := by obtain ⟨_, _, hv, h1, _, _⟩ := own_shape g1.o; injection hv with _ _ h3; omega
    have hk2 : (k : Int) ≤ (cap : Int) := by omega
    have hwr : IntKind.i64.wrap ((t.n : Int) - 1) = (t.n : Int) - 1 := by rw [IntKind.wrap_i64]; omega
    have tz : ((t.n : Int) == 0) = false := by simp; omega
    have hcut : TlRep 83 (w1.setCell ⟨p, 1, none⟩ (.slice A k cap)).drew F p ⟨t.n, t.L.take k⟩ := by
      have hlk : (t.L.take k).length = k := by rw [List.length_take]; omega
      have hoff := g1.off
      have e1 : fp (.slice A (t.L.take k).length cap) = fp (.slice A t.L.length cap) := fp_any _ _ _ _ _
      have hb := g1.b.set_ 1 (.slice A k cap)
      have ho : w1.ownsRow 0 41 4 (.slice A k cap) k (es (t.L.take k)) := by
        cases A with
        | none =>
          obtain ⟨z1, z2⟩ := own_cutNil g1.o
          obtain rfl : k = 0 := by omega
          subst z2
          exact World.ownsRow_nil _ _ _ _
        | some a =>
          by_cases hl0 : 0 < t.L.length
          · obtain ⟨_, _, hv, -, -, hA⟩ := own_shape g1.o
            obtain ⟨g, hg⟩ := hA hl0
            injection hv with hv1
            rw [← hv1] at hg
            injection hg with hg
            subst hg
            exact own_cutTo g1.o hk1
          · obtain rfl : k = t.L.length := by omega
            rw [List.take_length]
            exact g1.o
      have ho2 : (w1.setCell ⟨p, 1, none⟩ (.slice A k cap)).ownsRow 0 41 4 (.slice A k cap) k (es (t.L.take k)) := own_far ho (by rw [fp_any A k cap t.L.length cap]; exact hoff) _
      exact ⟨A, cap, by rw [e1]; exact g1.f, by simp only [hlk]; exact hb, by simp only [hlk]; exact ho2, by simp only [hlk]; omega, g1.t⟩
    have k2 : Keeps F w (w1.setCell ⟨p, 1, none⟩ (.slice A k cap)).drew := (k1.setCell (.inl (by rw [g1.f]; simp)) _).drew
    have HT := Lib.hid (show s.fill x = ⟨t.n, x :: t.L.take k⟩ by
      rw [HS.out, htn]
      congr 2
      rw [List.take_eq_take_iff]
      omega)
    have hfi := first_any _ F p ⟨t.n, t.L.take k⟩ x (by show t.n ≤ 1000; omega) (by show (t.L.take k).length + 1 ≤ t.n; rw [List.length_take]; omega) hcut
    have HFI := Lib.hid hfi
    have HK := Lib.hid hk
    clear hfi hcut g1 k1 HS HD htn h0 h hk
    go_wp2_with fail
    go_region
    go_wp2_with fail
    refine HFI.out.mono ?_
    rintro e w4 ⟨rfl, F4, r4, k4, f4⟩
    go_wp2
    go_end0
    rw [HT.out]
    refine ⟨rfl, F4, r4, k2.trans k4 (fun g hg => .inl hg), fun g hg => ?_⟩
    rcases f4 g hg with h1 | h1
    · exact .inl h1
    · exact .inr (Nat.le_trans k2.size h1)
end Go.Proofs.Yteognipfnbocpaa.T13
