/- The reference's Unmap. -/
import Derived.Test.YtnnoekcnhdcodaaR2
namespace Go.Proofs.Ytnnoekcnhdcodaa
open Go.RowKit

/-- What a call that may lay the list anew leaves. -/
def RMapped (w : World) (G : List Nat) (q : Nat) (m : Nat → Option E) (v : Value) (e : Ending) (w' : World) : Prop := ∃ G', e = .returned v ∧ RfRep w' G' q m ∧ Keeps G w w' ∧ ∀ g ∈ G', g ∈ G ∨ w.heap.size ≤ g
theorem RfAt.swap {w w2 : World} {G : List Nat} {q : Nat} {m m' : Nat → Option E} {A : Option Addr} {cap : Nat} {v : Value} (h : RfAt w G q m A cap) (k : Keeps [] w w2)
    (o : w2.ownsRow 0 27 5 v (ents m' 256).length (cells5 (ents m' 256))) (f : ∀ g ∈ fp v, w.heap.size ≤ g) (z : ∀ k, 256 ≤ k → m' k = none) :
    ∃ A2 cap2, v = .slice A2 (ents m' 256).length cap2 ∧ w2.cell? ⟨q, 0, none⟩ = some (.slice A (ents m 256).length cap) ∧ w2.frozen? ⟨q, 0, none⟩ = false ∧
      RfRep (w2.setCell ⟨q, 0, none⟩ v) (q :: fp v) q m' ∧ Keeps G w (w2.setCell ⟨q, 0, none⟩ v) ∧ ∀ g ∈ q :: fp v, g ∈ G ∨ w.heap.size ≤ g := by
  obtain ⟨A2, cap2, rfl, -⟩ := own_shape o
  have hb := h.b.keep k (by simp)
  have hqG : q ∈ G := by rw [h.f]; simp
  have hq : q ∉ fp (.slice A2 (ents m' 256).length cap2) := fun hx => by have := f q hx; have := h.b.lt; omega
  refine ⟨A2, cap2, rfl, hb.cell 0, hb.frozen 0, ⟨A2, cap2, rfl, ?_, own_far o hq _, z⟩, (k.mono (by simp)).setCell (.inl hqG) _, fun g hg => ?_⟩
  · exact hb.set_ 0 _
  · rcases List.mem_cons.1 hg with rfl | hg
    · exact .inl hqG
    · exact .inr (f g hg)
theorem take_idx {m : Nat → Option E} {k : Nat} (hk : k < 256) : (ents m 256).take (idx m (k : Int)) = ents m k ∧ (ents m k).length = idx m (k : Int) := by
  have hi : idx m (k : Int) = (ents m k).length := by unfold idx; rw [cl_nat (by omega)]
  rw [ents_three _ hk, hi]
  simp
theorem drop_idx {m : Nat → Option E} {k : Nat} {e : E} (hk : k < 256) (hm : m k = some e) : (ents m 256).drop (idx m (k : Int) + 1) = entsF m (k + 1) (255 - k) := by
  have hi : idx m (k : Int) = (ents m k).length := by unfold idx; rw [cl_nat (by omega)]
  rw [ents_three _ hk, hm, hi]
  simp [opt1]
theorem drop_idx_no {m : Nat → Option E} {k : Nat} (hk : k < 256) (hm : m k = none) : (ents m 256).drop (idx m (k : Int)) = entsF m (k + 1) (255 - k) := by
  have hi : idx m (k : Int) = (ents m k).length := by unfold idx; rw [cl_nat (by omega)]
  rw [ents_three _ hk, hm, hi]
  simp [opt1]
theorem cells5_len (l : List (Nat × E)) : (cells5 l).length = l.length * 5 := by
  induction l with
  | nil => rfl
  | cons x r ih => show (c5 x ++ cells5 r).length = _; rw [List.length_append, ih]; simp [c5]; omega
theorem cells5_append (a b : List (Nat × E)) : cells5 (a ++ b) = cells5 a ++ cells5 b := by simp [cells5]
theorem cells5_take (l : List (Nat × E)) (k : Nat) : cells5 (l.take k) = (cells5 l).take (k * 5) := by
  induction l generalizing k with
  | nil => simp [cells5]
  | cons x r ih =>
    have hc : (c5 x).length = 5 := rfl
    cases k with
    | zero => simp [cells5]
    | succ k =>
      show c5 x ++ cells5 (r.take k) = (c5 x ++ cells5 r).take ((k + 1) * 5)
      rw [ih, List.take_append, List.take_of_length_le (l := c5 x) (by rw [hc]; omega), hc, show (k + 1) * 5 - 5 = k * 5 by omega]
theorem cells5_drop (l : List (Nat × E)) (k : Nat) : cells5 (l.drop k) = (cells5 l).drop (k * 5) := by
  induction l generalizing k with
  | nil => simp [cells5]
  | cons x r ih =>
    have hc : (c5 x).length = 5 := rfl
    cases k with
    | zero => simp
    | succ k =>
      show cells5 (r.drop k) = (c5 x ++ cells5 r).drop ((k + 1) * 5)
      rw [ih, List.drop_append, List.drop_of_length_le (l := c5 x) (by rw [hc]; omega), hc, show (k + 1) * 5 - 5 = k * 5 by omega]
      simp
theorem cells5_one (l : List (Nat × E)) : ∀ u ∈ cells5 l, u.oneCell' = true := by
  intro u hu
  unfold cells5 at hu
  obtain ⟨x, _, hx⟩ := List.mem_flatMap.1 hu
  simp [c5] at hx
  rcases hx with rfl | rfl | rfl | rfl | rfl <;> rfl
theorem info27 : (Try.prog.info? 27).map (fun i => (i.zero, i.size, i.bytes)) = some (some (.agg #[.int .i64 0, .int .i64 0, .bool false, .bool false, .bool false]), 5, 24) := by kernel_rfl
/-- The first k of a row read. -/
theorem Reads.first {w : World} {B n k : Nat} {A : Option Addr} {L : List (Nat × E)} (h : Reads w B 5 A n (cells5 L)) (hn : n = L.length) (hk : k ≤ n) : Reads w B 5 A k (cells5 (L.take k)) := by
  refine ⟨by rw [cells5_len, List.length_take]; congr 1; omega, fun h0 => ?_⟩
  obtain ⟨ad, e, hb, hc⟩ := h.2 (by omega)
  refine ⟨ad, e, hb, fun j u hu => hc j u ?_⟩
  rw [cells5_take, List.getElem?_take] at hu
  split at hu
  · exact hu
  · cases hu

set_option maxRecDepth 100000 in
set_option maxHeartbeats 4000000 in
theorem runmap_any (w : World) (G : List Nat) (q : Nat) (m : Nat → Option E) (pg : Int) (h : RfRep w G q m) :
    Calls Try.prog 23 #[.pointer (some ⟨q, 0, none⟩), .int .i64 pg] w (RMapped w G q (unmM m pg) (.bool (ent m pg).isSome)) := by
  have hi := index_any _ G q m pg h
  cases he : ent m pg with
  | none =>
    rw [he] at hi
    simp only [Option.isSome_none] at hi
    have HI := Lib.hid hi
    have HM := Lib.hid (show unmM m pg = m by unfold unmM; rw [he])
    clear hi he
    go_enter Try.func23, Try.ntmps23
    go_wp2_with fail
    refine HI.out.mono ?_
    rintro e w1 ⟨rfl, k2⟩
    have HR := Lib.hid (h.keep k2 (by simp))
    have HK2 := Lib.hid (k2.mono (G := G) (by simp))
    clear k2
    go_wp2
    go_ret
    rw [HM.out]
    exact ⟨G, rfl, HR.out, HK2.out, fun g hg => .inl hg⟩
  | some x =>
    rw [he] at hi
    simp only [Option.isSome_some] at hi
    have HI := Lib.hid hi
    obtain ⟨A, cap, hA⟩ := h
    obtain ⟨k, rfl, hk, hm⟩ := ent_some_cl hA.z he
    have HM := Lib.hid (show unmM m (k : Int) = upd m k none by unfold unmM; rw [he]; rfl)
    obtain ⟨hn, hcap, hmax, hAA⟩ := hA.len
    obtain ⟨hil, hit⟩ := idx_at hk hm
    obtain ⟨g, rfl⟩ := hAA (by omega)
    have hz : Hid (∀ i, 256 ≤ i → upd m k none i = none) := Lib.hid (fun i hi => by rw [upd_ne (by omega)]; exact hA.z i hi)
    obtain ⟨ht1, ht2⟩ := take_idx (m := m) hk
    have hd := drop_idx hk hm
    have hu := ents_upd m hk none
    simp only [opt1, List.append_nil] at hu
    have HNEW : Hid (ents (upd m k none) 256 = (ents m 256).take (idx m (k : Int)) ++ (ents m 256).drop (idx m (k : Int) + 1)) := Lib.hid (by rw [ht1, hd, hu])
    have HLEN : Hid ((ents (upd m k none) 256).length = 0 + idx m (k : Int) + ((ents m 256).length - (idx m (k : Int) + 1))) := Lib.hid (by rw [HNEW.out, List.length_append, List.length_take, List.length_drop]; omega)
    generalize hI : idx m (k : Int) = i at *
    generalize hL : ents m 256 = L at *
    have hL2 := Lib.hid hL
    clear he hit hAA hm ht1 ht2 hd hu hI hL hi
    have hwr : IntKind.i64.wrap ((i : Int) + 1) = (i : Int) + 1 := by rw [IntKind.wrap_i64]; omega
    have hp0 : (0 : Int) ≤ (i : Int) + 1 := by omega
    have hp1 : (i : Int) + 1 ≤ (L.length : Int) := by omega
    have hp2 : ((i : Int) + 1).toNat = i + 1 := by omega
    have hp3 : (i : Int) ≤ (L.length : Int) := by omega
    have hp4 : (i : Int) ≤ (cap : Int) := by omega
    have hp5 : (0 : Int) ≤ (i : Int) := by omega
    have h63 : 0 + i ≤ maxLen := by unfold maxLen; omega
    have h64 : (0 + i) + (L.length - (i + 1)) ≤ maxLen := by unfold maxLen; omega
    have P1 := Lib.hid (cells5_one (L.take i))
    have P2 := Lib.hid (cells5_one (L.drop (i + 1)))
    have HI27 := Lib.hid info27
    have HO : Hid (∀ W : World, Keeps [] w W → W.ownsRow 0 27 5 (.slice (some ⟨g, 0, none⟩) L.length cap) L.length (cells5 L)) := Lib.hid (fun W hk => by
      have := own_keep hA.o hk (by simp)
      rw [hL2.out] at this
      exact this)
    have HA := Lib.hid hA
    obtain ⟨A2, hA2⟩ : ∃ A2 : Option Addr, (if cap = i + 1 then some (⟨g, 0, none⟩ : Addr) else some ⟨g, (i + 1) * 5, none⟩) = A2 := ⟨_, rfl⟩
    have HC : Hid (∀ W1 : World, Keeps [] w W1 → Reads W1 W1.heap.size 5 A2 (L.length - (i + 1)) (cells5 (L.drop (i + 1)))) := Lib.hid (by
      intro W1 hk
      have := (reads_own (HO.out W1 hk)).cut (k := i + 1) (by omega) (by omega)
      rw [← cells5_drop] at this
      rw [← hA2]
      have e : (if cap = i + 1 then some (⟨g, 0, none⟩ : Addr) else some ⟨g, (i + 1) * 5, none⟩) = (if cap = i + 1 then some ⟨g, 0, none⟩ else (some ⟨g, 0, none⟩ : Option Addr).map (·.add ((i + 1) * 5))) := by
        split
        · rfl
        · simp [add_of_plain]
      rw [e]
      exact this)
    clear hA
    go_enter Try.func23, Try.ntmps23
    go_wp2_with fail
    refine HI.out.mono ?_
    rintro e w1 ⟨rfl, k2⟩
    have c0 : w1.cell? ⟨q, 0, none⟩ = some (.slice (some ⟨g, 0, none⟩) L.length cap) := by rw [(HA.out.b.keep k2 (by simp)).cell 0, hL2.out]; rfl
    have hk1 : Keeps [] w (w1.alloc (.cells #[] 27)).drew := (k2.alloc _).drew
    have HK1 := Lib.hid hk1
    have HE : Hid ((w1.alloc (.cells #[] 27)).drew.ownsRow 0 27 5 (.slice (some ⟨w1.heap.size, 0, none⟩) 0 0) 0 []) := Lib.hid (own_drew (own_of_blk (Blk.new w1 27 #[]) (by omega) (by omega) rfl rfl))
    have HR : Hid (Reads (w1.alloc (.cells #[] 27)).drew (w1.alloc (.cells #[] 27)).drew.heap.size 5 (some ⟨g, 0, none⟩) i (cells5 (L.take i))) := Lib.hid ((reads_own (HO.out _ hk1)).first rfl (by omega))
    have hsz := k2.size
    have hql := (HA.out.b.keep k2 (by simp)).lt
    clear k2 hk1 HI
    go_wp2_with fail
    go_region_law (first
      | (refine step_app (by rfl) (.tmp 22) (.tmp 29) 39 (by rfl) 27 (.agg #[.int .i64 0, .int .i64 0, .bool false, .bool false, .bool false]) 5 24 Try.underlying39 HI27.out rfl (by omega) v1 (0 + i) ([] ++ cells5 (L.take i)) (by simp [Act.eval, Act.put]) ho1 _ A2 (L.length - (i + 1)) (cap - (i + 1)) (cells5 (L.drop (i + 1))) (by simp [Act.eval, Act.put]) (HC.out _ kk1) P2.out h64 (by omega) (fun v2 w2 ho2 hk2 hf2 => ?_); have kk := HA.out.swap (m' := upd m k none) (kk1.trans hk2 (fun g hg => .inr (ff1 g hg))) (by rw [HLEN.out, HNEW.out, cells5_append]; simpa using ho2) (fun g hg => (hf2 g hg).elim (ff1 g) (fun h => Nat.le_trans kk1.size h)) hz.out; obtain ⟨A3, cap3, rfl, d0, d1, hr, hk, hn⟩ := kk; have HN1 := Lib.hid hr; have HN2 := Lib.hid hk; have HN3 := Lib.hid hn; clear hr hk hn)
      | (refine step_app (by rfl) (.tmp 15) (.tmp 21) 39 (by rfl) 27 (.agg #[.int .i64 0, .int .i64 0, .bool false, .bool false, .bool false]) 5 24 Try.underlying39 HI27.out rfl (by omega) (.slice (some ⟨w1.heap.size, 0, none⟩) 0 0) 0 [] (by simp [Act.eval, Act.put]) HE.out _ (some ⟨g, 0, none⟩) i cap (cells5 (L.take i)) (by simp [Act.eval, Act.put]) HR.out P1.out h63 (by omega) (fun v1 w1' ho1 hk1 hf1 => ?_); have kk1 := HK1.out.trans hk1 (fun g hg => .inr (by rw [List.mem_singleton.1 hg]; exact hsz)); have cc1 : w1'.cell? ⟨q, 0, none⟩ = some (.slice (some ⟨g, 0, none⟩) L.length cap) := (by rw [(HA.out.b.keep kk1 (by simp)).cell 0, hL2.out]; rfl); have ff1 : ∀ g ∈ fp v1, w.heap.size ≤ g := (fun g hg => (hf1 g hg).elim (fun h => by rw [List.mem_singleton.1 h]; exact hsz) (fun h => Nat.le_trans HK1.out.size h))))
    all_goals
      go_wp2
      go_ret
      rw [HM.out]
      exact ⟨_, rfl, HN1.out, HN2.out, HN3.out⟩
end Go.Proofs.Ytnnoekcnhdcodaa
