/- The reference's cache: New, Copy, place, without. -/
import Derived.Test.YtkfcoemdpcjhfaaW9
namespace Go.Proofs.Ytkfcoemdpcjhfaa
open Go.RowKit

theorem rnew_any (w : World) (n : Int) (h1 : -9223372036854775808 ≤ n) (h2 : n ≤ 9223372036854775807) : Calls Try.prog 14 #[.int .i64 n] w fun e w' => ∃ F p, e = .returned (.pointer (some ⟨p, 0, none⟩)) ∧ TlRep 46 w' F p ⟨n.toNat, []⟩ ∧ Keeps [] w w' ∧ ∀ g ∈ F, w.heap.size ≤ g := by
  have hmx : max 0 n = (n.toNat : Int) := by omega
  have hmx2 : max n 0 = (n.toNat : Int) := by omega
  have hif : (if n ≤ 0 then 0 else n) = (n.toNat : Int) := by split <;> omega
  generalize n.toNat = m at *
  go_enter Try.func14, Try.ntmps14
  go_wp2
  go_ret
  try rw [hif]
  exact ⟨[w.heap.size], w.heap.size, rfl, ⟨none, 0, rfl, Blk.new _ _ _, World.ownsRow_nil _ _ _ _, by simp, by decide⟩, (Keeps.refl _ _).alloc _, by simp⟩

set_option maxRecDepth 100000 in
set_option maxHeartbeats 1000000 in
theorem rcopy_any (w : World) (F : List Nat) (p : Nat) (s : Tl) (hn : s.n ≤ 1000) (h : TlRep 46 w F p s) :
    Calls Try.prog 16 #[.pointer (some ⟨p, 0, none⟩)] w fun e w' => ∃ F' p', e = .returned (.pointer (some ⟨p', 0, none⟩)) ∧ TlRep 46 w' F' p' s ∧ Keeps [] w w' ∧ ∀ g ∈ F', w.heap.size ≤ g := by
  obtain ⟨A, cap, h⟩ := h
  have c0 : w.cell? ⟨p, 0, none⟩ = some (.int .i64 s.n) := h.b.cell 0
  have c1 : w.cell? ⟨p, 1, none⟩ = some (.slice A s.L.length cap) := h.b.cell 1
  have hl := h.b.lt
  have hm := h.m
  have h1 := es_one s.L
  have hown : (w.alloc (.cells #[] 34)).drew.ownsRow 0 34 4 (.slice (some ⟨w.heap.size, 0, none⟩) 0 0) 0 [] := own_drew (own_of_blk (Blk.new w 34 #[]) (by omega) (by omega) rfl rfl)
  have hk0 : Keeps [] w (w.alloc (.cells #[] 34)).drew := ((Keeps.refl [] _).alloc _).drew
  have hrd := reads_own (own_keep h.o hk0 (by simp))
  have h63 : 0 + s.L.length ≤ maxLen := by unfold maxLen; omega
  have hby : (0 + s.L.length) * 32 ≤ 140737488355328 := by omega
  have H1 := Lib.hid h1
  have HO := Lib.hid hown
  have HR := Lib.hid hrd
  have HK := Lib.hid hk0
  have HI := Lib.hid info34
  have HB := Lib.hid h.b
  clear h1 hown hrd hk0 h
  go_enter Try.func16, Try.ntmps16
  go_wp2_with fail
  go_region_held3 (fun w' => w'.cell? ⟨p, 1, none⟩ = some (.slice A s.L.length cap) ∧ w'.cell? ⟨p, 0, none⟩ = some (.int .i64 s.n))
    (first
      | go_keep
      | (go_split_ands
         exact ⟨((HB.out.keep HK.out (by simp)).keep hk' (by simp; omega)).cell 1, ((HB.out.keep HK.out (by simp)).keep hk' (by simp; omega)).cell 0⟩))
    ((refine step_app (by rfl) (.tmp 7) (.tmp 11) 32 (by rfl) 34 (.agg #[.int .i64 0, .int .i64 0, .int .i64 0, .bool false]) 4 32 Try.underlying32 HI.out rfl (by omega) (.slice (some ⟨w.heap.size, 0, none⟩) 0 0) 0 [] (by rfl) HO.out _ A s.L.length cap (es s.L) (by rfl) HR.out H1.out h63 hby ?_; intro v' w' ho' hk' hf'; obtain ⟨A1, cap1, rfl, -, -, -⟩ := own_shape ho'))
  go_wp2
  go_ret
  have ho2 : w'.ownsRow 0 34 4 (.slice A1 s.L.length cap1) s.L.length (es s.L) := by simpa using ho'
  have hf2 : ∀ g ∈ fp (.slice A1 s.L.length cap1), w.heap.size ≤ g := by
    intro g hg
    rcases hf' g (by simpa using hg) with h2 | h2
    · have : g = w.heap.size := by simpa using h2
      omega
    · have := HK.out.size
      omega
  have hs : w.heap.size ≤ w'.heap.size := Nat.le_trans HK.out.size hk'.size
  refine ⟨w'.heap.size :: fp (.slice A1 s.L.length cap1), w'.heap.size, rfl, ⟨A1, cap1, rfl, Blk.new _ _ _, ?_, hm, by decide⟩, ?_, ?_⟩
  · exact own_keep ho2 ((Keeps.refl [] _).alloc _) (by simp)
  · exact (HK.out.trans hk' (by simp)).alloc _
  · intro g hg
    rcases List.mem_cons.1 hg with rfl | hg
    · exact hs
    · exact hf2 g hg

set_option maxRecDepth 100000 in
set_option maxHeartbeats 1600000 in
theorem rplace_any (w : World) (F : List Nat) (p : Nat) (s : Tl) (x y : Int) (hn : s.n ≤ 1000) (h : TlRep 46 w F p s) :
    Calls Try.prog 37 #[.pointer (some ⟨p, 0, none⟩), .int .i64 x, .int .i64 y] w fun e w' => e = .returned (.int .i64 (fidx (fun e => e.is x y) s.L)) ∧ Keeps [] w w' := by
  obtain ⟨A, cap, h⟩ := h
  have hm := h.m
  obtain ⟨_, _, hv, -, -, hA⟩ := own_shape h.o
  obtain ⟨rfl, -, rfl⟩ : A = _ ∧ s.L.length = _ ∧ cap = _ := by injection hv with h1 h2 h3; exact ⟨h1, rfl, h3⟩
  clear hv
  go_enter Try.func37, Try.ntmps37
  go_wp2
  go_loopw [7] (fun i wr => ∃ k : Nat, k ≤ s.L.length ∧ i = .int .i64 k ∧ (∀ j (h : j < s.L.length), j < k → (s.L[j]).is x y = false) ∧ Keeps [] w wr) (fun i _ => s.L.length - (intOf i).toNat)
  case atStart => exact ⟨0, by omega, rfl, fun _ _ h => absurd h (by omega), Keeps.refl _ _⟩
  case round =>
    obtain ⟨k, hk, rfl, hst, kp⟩ := hrel
    have bk := h.b.keep kp (by simp)
    have c1 : wr.cell? ⟨p, 1, none⟩ = some (.slice A s.L.length cap) := bk.cell 1
    by_cases hlt : k < s.L.length
    · obtain ⟨b, rfl⟩ := hA (by omega)
      have ow := own_keep h.o kp (by simp)
      have x0 := own_cell ow (j := k * 4) (u := .int .i64 s.L[k].s) (by rw [show k * 4 = k * 4 + 0 by omega, es_at hlt (by omega)]; rfl)
      have x1 := own_cell ow (j := k * 4 + 1) (u := .int .i64 s.L[k].p) (by rw [es_at hlt (by omega)]; rfl)
      have HST := Lib.hid hst
      clear hst h bk ow
      cases e1 : ((s.L[k]).s == x) with
      | false =>
        have HQ := Lib.hid (show (s.L[k]).is x y = false by unfold En.is; rw [e1]; rfl)
        go_wp2
        go_roundw
        case rel =>
          refine ⟨k + 1, by omega, by go_num, fun j hj hjk => ?_, kp⟩
          by_cases e : j = k
          · subst e; exact HQ.out
          · exact HST.out j hj (by omega)
        case measure => simp [intOf]; omega
      | true =>
        cases e2 : ((s.L[k]).p == y) with
        | false =>
          have HQ := Lib.hid (show (s.L[k]).is x y = false by unfold En.is; rw [e1, e2]; rfl)
          go_wp2
          go_roundw
          case rel =>
            refine ⟨k + 1, by omega, by go_num, fun j hj hjk => ?_, kp⟩
            by_cases e : j = k
            · subst e; exact HQ.out
            · exact HST.out j hj (by omega)
          case measure => simp [intOf]; omega
        | true =>
          have hf : s.L.findIdx? (fun e => e.is x y) = some k := by
            rw [List.findIdx?_eq_some_iff_getElem]
            exact ⟨hlt, by unfold En.is; rw [e1, e2]; rfl, fun j hj => by simpa using HST.out j (by omega) hj⟩
          have HF := Lib.hid (fidx_some hf)
          clear hf
          go_wp2
          go_ret
          rw [HF.out]
          exact ⟨rfl, kp⟩
    · obtain rfl : k = s.L.length := by omega
      have hf : s.L.findIdx? (fun e => e.is x y) = none := by
        rw [List.findIdx?_eq_none_iff]
        intro z hz
        obtain ⟨j, hj, rfl⟩ := List.getElem_of_mem hz
        exact hst j hj hj
      have HF := Lib.hid (fidx_none hf)
      clear hf hst
      go_wp2
      go_ret
      rw [HF.out]
      exact ⟨rfl, kp⟩

set_option maxRecDepth 100000 in
set_option maxHeartbeats 2000000 in
theorem rwithout_any (w : World) (F : List Nat) (p : Nat) (s : Tl) (k : Nat) (hkl : k < s.L.length) (hn : s.n ≤ 1000) (h : TlRep 46 w F p s) :
    Calls Try.prog 38 #[.pointer (some ⟨p, 0, none⟩), .int .i64 k] w fun e w' => ∃ v, e = .returned v ∧ w'.ownsRow 0 34 4 v (s.L.eraseIdx k).length (es (s.L.eraseIdx k)) ∧ Keeps [] w w' ∧ ∀ g ∈ fp v, w.heap.size ≤ g := by
  obtain ⟨A, cap, h⟩ := h
  have c0 : w.cell? ⟨p, 1, none⟩ = some (.slice A s.L.length cap) := h.b.cell 1
  have hm := h.m
  have hpl := h.b.lt
  obtain ⟨_, _, hv, hcap, hmax, hA⟩ := own_shape h.o
  obtain ⟨rfl, -, rfl⟩ : A = _ ∧ s.L.length = _ ∧ cap = _ := by injection hv with h1 h2 h3; exact ⟨h1, rfl, h3⟩
  clear hv
  obtain ⟨g, rfl⟩ := hA (by omega)
  have hwr : IntKind.i64.wrap ((k : Int) + 1) = (k : Int) + 1 := by rw [IntKind.wrap_i64]; omega
  have hp0 : (0 : Int) ≤ (k : Int) + 1 := by omega
  have hp1 : (k : Int) + 1 ≤ (s.L.length : Int) := by omega
  have hp2 : ((k : Int) + 1).toNat = k + 1 := by omega
  have hp3 : (k : Int) ≤ (s.L.length : Int) := by omega
  have hp4 : (k : Int) ≤ (cap : Int) := by omega
  have hp5 : (0 : Int) ≤ (k : Int) := by omega
  have HG := Lib.hid h
  have hk1 : Keeps [] w (w.alloc (.cells #[] 34)).drew := ((Keeps.refl _ _).alloc _).drew
  have HE : Hid ((w.alloc (.cells #[] 34)).drew.ownsRow 0 34 4 (.slice (some ⟨w.heap.size, 0, none⟩) 0 0) 0 []) := own_drew (own_of_blk (Blk.new w 34 #[]) (by omega) (by omega) rfl rfl)
  have hR := reads_own (own_keep h.o hk1 (by simp))
  have HR : Hid (Reads (w.alloc (.cells #[] 34)).drew (w.alloc (.cells #[] 34)).drew.heap.size 4 (some ⟨g, 0, none⟩) k (es (s.L.take k))) := by
    refine ⟨by rw [es_len, List.length_take]; congr 1; omega, fun h0 => ?_⟩
    obtain ⟨ad, e, hb, hc⟩ := hR.2 (by omega)
    refine ⟨ad, e, hb, fun j u hu => hc j u ?_⟩
    rw [← es_take] at hu
    rw [List.getElem?_take] at hu
    split at hu
    · exact hu
    · cases hu
  have HK := Lib.hid hk1
  have HI := Lib.hid info34
  have P1 := Lib.hid (es_one (s.L.take k))
  have P2 := Lib.hid (es_one (s.L.drop (k + 1)))
  have h63 : 0 + k ≤ maxLen := by unfold maxLen; omega
  have h64 : (0 + k) + (s.L.length - (k + 1)) ≤ maxLen := by unfold maxLen; omega
  have hcut : ∀ W1 : World, Keeps [] w W1 → Reads W1 W1.heap.size 4 (if cap = k + 1 then some ⟨g, 0, none⟩ else some ⟨g, (k + 1) * 4, none⟩) (s.L.length - (k + 1)) (es (s.L.drop (k + 1))) := by
    intro W1 hk
    have hr1 := reads_own (own_keep h.o hk (by simp))
    have := hr1.cut (k := k + 1) (by omega) hcap
    rw [es_drop] at this
    have e : (if cap = k + 1 then some (⟨g, 0, none⟩ : Addr) else some ⟨g, (k + 1) * 4, none⟩) = (if cap = k + 1 then some ⟨g, 0, none⟩ else (some ⟨g, 0, none⟩ : Option Addr).map (·.add ((k + 1) * 4))) := by
      split
      · rfl
      · simp [add_of_plain]
    rw [e]
    exact this
  have HC := Lib.hid hcut
  have HW : Hid (∀ (v : Value) (W : World), W.ownsRow 0 34 4 v ((0 + k) + (s.L.length - (k + 1))) (([] ++ es (s.L.take k)) ++ es (s.L.drop (k + 1))) → W.ownsRow 0 34 4 v (s.L.eraseIdx k).length (es (s.L.eraseIdx k))) := by
    intro v W h
    rw [List.length_eraseIdx_of_lt hkl, List.eraseIdx_eq_take_drop_succ, es_append]
    have e : (0 + k) + (s.L.length - (k + 1)) = s.L.length - 1 := by omega
    rw [e, List.nil_append] at h
    exact h
  obtain ⟨A2, hA2⟩ : ∃ A2 : Option Addr, (if cap = k + 1 then some (⟨g, 0, none⟩ : Addr) else some ⟨g, (k + 1) * 4, none⟩) = A2 := ⟨_, rfl⟩
  clear h hk1 hR hcut
  go_enter Try.func38, Try.ntmps38
  go_wp2_with fail
  go_region_law (first
      | (refine step_app (by rfl) (.tmp 12) (.tmp 19) 32 (by rfl) 34 (.agg #[.int .i64 0, .int .i64 0, .int .i64 0, .bool false]) 4 32 Try.underlying32 HI.out rfl (by omega) v1 (0 + k) ([] ++ es (s.L.take k)) (by simp [Act.eval, Act.put]) ho1 _ A2 (s.L.length - (k + 1)) (cap - (k + 1)) (es (s.L.drop (k + 1))) (by simp [Act.eval, Act.put]) (hA2 ▸ HC.out _ kk1) P2.out h64 (by omega) (fun v2 w2 ho2 hk2 hf2 => ?_); have oo2 := Lib.hid (HW.out _ _ ho2); have kk2 := (kk1.trans hk2 (fun g hg => .inr (ff1 g hg))); have ff2 := Lib.hid (fun g hg => (hf2 g hg).elim (ff1 g) (fun h => Nat.le_trans kk1.size h)))
      | (refine step_app (by rfl) (.tmp 5) (.tmp 11) 32 (by rfl) 34 (.agg #[.int .i64 0, .int .i64 0, .int .i64 0, .bool false]) 4 32 Try.underlying32 HI.out rfl (by omega) (.slice (some ⟨w.heap.size, 0, none⟩) 0 0) 0 [] (by simp [Act.eval, Act.put]) HE.out _ (some ⟨g, 0, none⟩) k cap (es (s.L.take k)) (by simp [Act.eval, Act.put]) HR.out P1.out h63 (by omega) (fun v1 w1 ho1 hk1 hf1 => ?_); have kk1 := HK.out.trans hk1 (by simp); have cc1 := (HG.out.b.keep kk1 (by simp)).cell 1; have ff1 : ∀ g ∈ fp v1, w.heap.size ≤ g := (fun g hg => (hf1 g hg).elim (fun h => Nat.le_of_eq (List.mem_singleton.1 h).symm) (fun h => Nat.le_trans HK.out.size h))))
  all_goals
    go_wp2
    go_ret
    exact ⟨_, rfl, oo2.out, kk2, ff2.out⟩
end Go.Proofs.Ytkfcoemdpcjhfaa
