/- The walk of the method Copy. -/
import Derived.Test.YteognipfnbocpaaT12W5
import Derived.Laws.CopyRow
namespace Go.Proofs.Yteognipfnbocpaa.T12
open Go.RowKit

theorem setRow_alloc (w : World) (old cs : Array Value) (t : TypeId) : (w.alloc (.cells old t)).setRow w.heap.size cs = w.alloc (.cells cs t) := by
  have h : ((w.heap.push (.cells old t)).modify w.heap.size fun
      | .cells _ elem frozen => .cells cs elem frozen
      | o => o) = w.heap.push (.cells cs t) := by
    apply Array.ext_getElem?
    intro i
    rw [Array.getElem?_modify, Array.getElem?_push, Array.getElem?_push]
    by_cases hi : i = w.heap.size
    · simp [hi]
    · rw [if_neg (fun e => hi e.symm), if_neg hi, if_neg hi]
  exact congrArg (fun x => ({ w with heap := x } : World)) h
/-- A whole row stored into a block just made. -/
theorem wpList_store_new {P : Program} {ops : Array Oper} {rest : List Oper} {o : Oper} {a : Act} {w : World} {Q : Exit → Act → World → Prop} (hgd : o.guard = none) (ty : TypeId) (x y : Operand) (ho : o.op = .store ty x y) (hdst : o.dst = none)
    (hx : a.eval x = .pointer (some ⟨w.heap.size, 0, none⟩)) (t : TypeId) (old cs : Array Value) (hy : a.eval y = .agg cs) (hs : cs.size = old.size) (h1 : ∀ v ∈ cs.toList, v.oneCell' = true)
    (hi : (P.info? ty).map (·.size) = some cs.size)
    (h : wpList P ops Q rest a (w.alloc (.cells cs t))) : wpList P ops Q (o :: rest) a (w.alloc (.cells old t)) := by
  refine wpList_plain hgd fun _ hK => ?_
  cases hq : P.info? ty with
  | none => simp [hq] at hi
  | some i =>
    have hsz : i.size = cs.size := by simpa [hq] using hi
    have hst := run_storeCells_at P w.heap.size 0 t cs.toList 0 old (w.alloc (.cells old t)) (heap_alloc_new w _) (by simp [hs]) h1
    have e : (old.toList.take (0 + 0) ++ cs.toList ++ old.toList.drop (0 + 0 + cs.toList.length)).toArray = cs := by
      rw [List.drop_of_length_le (by simp [hs])]; simp
    rw [e, setRow_alloc] at hst
    have hsv : (storeVar ty ⟨w.heap.size, 0, none⟩ (.agg cs)).run P (w.alloc (.cells old t)) = .ok () (w.alloc (.cells cs t)) := by
      simp [storeVar, sizeOf, typeInfo, hq, hsz, Value.cells, hst]
    unfold Oper.wp execOp
    simp only [ho, hx, hy, Instr.storeAt, Instr.sureAddr, Sem.run_bind, Sem.run_pure, Result.andThen_ok, hsv]
    refine hK _ _ ?_
    rw [hdst]
    exact h

/-- The entries of the first k groups alone. -/
def cut (m : Nat → Option E) (k : Nat) : Nat → Option E := fun pg => if pg < 16 * k then m pg else none
theorem cut_zero (m : Nat → Option E) : cut m 0 = fun _ => none := by funext pg; unfold cut; rw [if_neg (by omega)]
theorem cut_all {m : Nat → Option E} (h : ∀ pg, 256 ≤ pg → m pg = none) : cut m 16 = m := by
  funext pg
  unfold cut
  split
  · rfl
  · exact (h pg (by omega)).symm
theorem cut_none {m : Nat → Option E} {k : Nat} (h : ∀ i, i < 16 → m (16 * k + i) = none) : cut m (k + 1) = cut m k := by
  funext pg
  unfold cut
  by_cases h1 : pg < 16 * k
  · rw [if_pos h1, if_pos (by omega)]
  · rw [if_neg h1]
    split
    · have := h (pg - 16 * k) (by omega)
      rwa [show 16 * k + (pg - 16 * k) = pg by omega] at this
    · rfl
theorem used_congr {m m' : Nat → Option E} {g n : Nat} (h : ∀ i, i < n → m' (16 * g + i) = m (16 * g + i)) : used m' g n = used m g n := by
  induction n with
  | zero => rfl
  | succ n ih => unfold used; rw [ih (fun i hi => h i (by omega)), h n (by omega)]
theorem SecAt.congr {w : World} {s : Nat} {m m' : Nat → Option E} {g u u' : Nat} {cs : Array Value} (h : SecAt w s m g u cs) (hm : ∀ i, i < 16 → m' (16 * g + i) = m (16 * g + i)) (hu : u' = u) : SecAt w s m' g u' cs :=
  ⟨h.b, h.z, fun i j hi hj => by rw [hm i hi]; exact h.c i j hi hj, by rw [hu]; exact h.u⟩
theorem TbAt.grow {w w1 : World} {F F' : List Nat} {c : Nat} {m : Nat → Option E} {q : Nat → Option Nat} {k s : Nat} (h : TbAt 16 w F c (cut m k) q) (hk : k < 16) (hK : Keeps [] w w1) (hF : ∀ t ∈ F, t ∈ F') (hF' : ∀ t ∈ F', t < w1.heap.size)
    (hs0 : w.heap.size ≤ s) (hs1 : s ∈ F') {cs : Array Value} (hs : SecAt w1 s m k (used m k 16) cs) (hu : used m k 16 ≠ 0) (hr : ∀ pg e, m pg = some e → 0 ≤ e.fr ∧ e.fr ≤ 9223372036854775807) :
    TbAt 16 (w1.setCell ⟨c, k, none⟩ (.pointer (some ⟨s, 0, none⟩))) F' c (cut m (k + 1)) (fun l => if l = k then some s else q l) := by
  have hq : q k = none := (h.n k hk (by omega)).2 (fun i hi => by unfold cut; rw [if_neg (by omega)])
  have hoff : ∀ l i, l ≠ k → i < 16 → cut m (k + 1) (16 * l + i) = cut m k (16 * l + i) := by
    intro l i hl hi
    unfold cut
    by_cases h1 : l < k
    · rw [if_pos (by omega), if_pos (by omega)]
    · rw [if_neg (by omega), if_neg (by omega)]
  have hon : ∀ i, i < 16 → cut m (k + 1) (16 * k + i) = m (16 * k + i) := by
    intro i hi
    unfold cut
    rw [if_pos (by omega)]
  have h2 : TbAt k w F c (cut m (k + 1)) q := by
    refine ⟨h.f, h.fp, h.fq, h.b, fun l t hl e => ?_, fun l hl hne => ?_, h.d, fun pg hpg => ?_, fun pg e he => ?_⟩
    · have hne : l ≠ k := fun e2 => by rw [e2, hq] at e; cases e
      obtain ⟨cs0, h0⟩ := h.s l t hl e
      exact ⟨cs0, h0.congr (fun i hi => hoff l i hne hi) (used_congr (fun i hi => hoff l i hne hi))⟩
    · rw [h.n l hl (by omega)]
      exact ⟨fun hx i hi => by rw [hoff l i hne hi]; exact hx i hi, fun hx i hi => by rw [← hoff l i hne hi]; exact hx i hi⟩
    · unfold cut; rw [if_neg (by omega)]
    · unfold cut at he
      split at he
      · exact hr pg e he
      · cases he
  have hu2 : used (cut m (k + 1)) k 16 = used m k 16 := used_congr hon
  exact h2.lay (o := some s) hk (.inr rfl) hK hF hF' (.inr ⟨fun e => (nomatch e), fun hx => absurd ((used_zero _ _ _).2 hx) (by rw [hu2]; exact hu)⟩) (fun t e => by
    cases e
    exact ⟨hs0, hs1, cs, hs.congr hon hu2⟩)

theorem SecAt.ones {w : World} {s : Nat} {m : Nat → Option E} {g u : Nat} {cs : Array Value} (h : SecAt w s m g u cs) : ∀ v ∈ cs.toList, v.oneCell' = true := by
  intro v hv
  obtain ⟨t, ht, rfl⟩ := List.mem_iff_getElem.1 hv
  have hz := h.z
  have ht2 : t < 97 := by simpa [hz] using ht
  have e : cs[t]? = some cs.toList[t] := by simp [Array.getElem?_eq_getElem (show t < cs.size by omega)]
  by_cases h96 : t = 96
  · subst h96
    rw [h.u] at e
    rw [← Option.some.inj e]
    rfl
  · have := h.c (t / 6) (t % 6) (by omega) (by omega)
    rw [show t / 6 * 6 + t % 6 = t by omega, e] at this
    rw [Option.some.inj this]
    unfold cellv
    split <;> rfl

set_option maxRecDepth 100000 in
set_option maxHeartbeats 1600000 in
theorem copy_any (w : World) (F : List Nat) (p : Nat) (m : Nat → Option E) (h : TbRep w F p m) :
    Calls Try.prog 28 #[.pointer (some ⟨p, 0, none⟩)] w fun e w' => ∃ G c, e = .returned (.pointer (some ⟨c, 0, none⟩)) ∧ TbRep w' G c m ∧ Keeps [] w w' ∧ ∀ g ∈ G, w.heap.size ≤ g := by
  obtain ⟨q, h⟩ := h
  have hz61 := z61
  go_enter Try.func28, Try.ntmps28
  go_wp2_with fail
  refine (new_any _).mono ?_
  rintro e w1 ⟨G, c, rfl, r1, k1, f1⟩
  obtain ⟨cs, hb, hz, hc⟩ := (h.keep k1 (by simp)).b
  have HB := Lib.hid hb
  have HC := Lib.hid hc
  have HZ := Lib.hid hz
  clear hc hz hb
  rw [← cut_zero m] at r1
  go_wp2_with (refine wpList_load_row rfl 91 _ rfl p rfl 93 cs (0, 0) _ HB.out Try.underlying91 rfl (by rw [HZ.out]; kernel_rfl) ?_)
  go_loopw [12] (fun i wr => ∃ (k : Nat) (G : List Nat), k ≤ 16 ∧ i = .int .i64 k ∧ TbRep wr G c (cut m k) ∧ Keeps [] w wr ∧ ∀ g ∈ G, w.heap.size ≤ g) (fun i _ => 16 - (intOf i).toNat)
  case atStart => exact ⟨0, G, by omega, rfl, r1, k1, f1⟩
  case round =>
    clear r1 k1 f1
    obtain ⟨k, G, hk, rfl, r, kp, fr⟩ := hrel
    by_cases hlt : k < 16
    · have hi := HC.out k hlt
      cases hq : q k with
      | none =>
        rw [hq] at hi
        have hx := run_idx cs k _ hlt hi
        have HL := Lib.hid (cut_none ((h.n k hlt (by omega)).1 hq))
        clear hi hq
        go_wp2
        go_roundw
        case rel => exact ⟨k + 1, G, by omega, by go_num, by rw [HL.out]; exact r, kp, fr⟩
        case measure => simp [intOf]; omega
      | some s =>
        rw [hq] at hi
        have hx := run_idx cs k _ hlt hi
        obtain ⟨c2, hs⟩ := h.s k s hlt hq
        have hs2 := hs.b.keep kp (by simp)
        have hu := h.some_ hlt hq
        obtain ⟨q2, r⟩ := r
        have hn := Blk.new wr 96 c2
        have HL := Lib.hid (r.grow (F' := wr.heap.size :: G) hlt ((Keeps.refl [] wr).alloc (.cells c2 96)) (fun t ht => by simp [ht]) (fun t ht => by
          rcases List.mem_cons.1 ht with rfl | ht
          · exact hn.lt
          · have := r.f t ht; simp; omega) (Nat.le_refl _) (by simp) ⟨hn, hs.z, hs.c, hs.u⟩ hu h.r)
        have hcG := fr c r.fp
        have HK := Lib.hid ((kp.alloc (.cells c2 96)).setCell (p := ⟨c, k, none⟩) (.inr hcG) (.pointer (some ⟨wr.heap.size, 0, none⟩)))
        have hsz := kp.size
        have HF : Hid (∀ g ∈ wr.heap.size :: G, w.heap.size ≤ g) := Lib.hid (fun g hg => by
          rcases List.mem_cons.1 hg with rfl | hg
          · exact hsz
          · exact fr g hg)
        obtain ⟨cc, hbc, hzc, hcc⟩ := r.b
        have d1 := (hbc.alloc (.cells c2 96)).frozen k
        have d0 : (wr.alloc (.cells c2 96)).cell? ⟨c, k, none⟩ = some (.pointer ((q2 k).map fun s => ⟨s, 0, none⟩)) := by rw [(hbc.alloc _).cell, hcc k hlt]
        have HS := Lib.hid hs2
        have HZ2 := Lib.hid hs.z
        have H1 := Lib.hid hs.ones
        have a0 : (0 : Int) ≤ (k : Int) := by omega
        clear hi hq hs hs2 hu hn hcc hzc hbc r fr kp
        go_wp2_with (first
          | (refine wpList_load_row rfl 96 _ rfl s rfl 96 c2 (0, 0) _ HS.out Try.underlying96 rfl (by rw [HZ2.out]; kernel_rfl) ?_)
          | (refine wpList_store_new rfl 96 _ _ rfl rfl rfl 96 Z97 c2 rfl (by rw [HZ2.out]; kernel_rfl) H1.out (by rw [HZ2.out]; kernel_rfl) ?_))
        go_roundw
        case rel => exact ⟨k + 1, _, by omega, by go_num, ⟨_, HL.out⟩, HK.out, HF.out⟩
        case measure => simp [intOf]; omega
    · obtain rfl : k = 16 := by omega
      rw [cut_all h.o] at r
      go_wp2
      go_ret
      exact ⟨G, c, rfl, r, kp, fr⟩
end Go.Proofs.Yteognipfnbocpaa.T12
