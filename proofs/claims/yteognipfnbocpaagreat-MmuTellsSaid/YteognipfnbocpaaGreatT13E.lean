/- Texts of elder seats, turned to this one. -/
import Derived.Test.YteognipfnbocpaaGreatT13B
import Derived.Laws.StructEq
import Derived.Deep.CutRange
import Derived.Deep.CutBlock
namespace Go.Proofs.YteognipfnbocpaaGreat.T13
open Go.RowKit

theorem same_any (w : World) (v u : Value) (L : List En) (h1 : w.ownsRow 0 83 4 v L.length (es L)) (h2 : w.ownsRow 0 83 4 u L.length (es L)) :
    Calls Tryz.prog 18 #[v, u] w fun e w' => e = .returned (.bool true) ∧ Keeps [] w w' := by
  have hm := own_max h1
  unfold maxLen at hm
  obtain ⟨A, c, rfl, _, _, hA⟩ := own_shape h1
  obtain ⟨B, c2, rfl, _, _, hB⟩ := own_shape h2
  go_enter Tryz.func18, Tryz.ntmps18
  go_wp2
  go_loopw [5] (fun i wr => ∃ k : Nat, k ≤ L.length ∧ i = .int .i64 k ∧ Keeps [] w wr) (fun i _ => L.length - (intOf i).toNat)
  case atStart => exact ⟨0, by omega, rfl, Keeps.refl _ _⟩
  case round =>
    obtain ⟨k, hk, rfl, hkp⟩ := hrel
    by_cases hlt : k < L.length
    · obtain ⟨g, rfl⟩ := hA (by omega)
      obtain ⟨g2, rfl⟩ := hB (by omega)
      have o1 := own_keep h1 hkp (by simp)
      have o2 := own_keep h2 hkp (by simp)
      have a0 := own_cell o1 (j := k * 4) (u := .int .i64 L[k].s) (by rw [show k * 4 = k * 4 + 0 by omega, es_at hlt (by omega)]; rfl)
      have a1 := own_cell o1 (j := k * 4 + 1) (u := .int .i64 L[k].p) (by rw [es_at hlt (by omega)]; rfl)
      have a2 := own_cell o1 (j := k * 4 + 2) (u := .int .i64 L[k].f) (by rw [es_at hlt (by omega)]; rfl)
      have a3 := own_cell o1 (j := k * 4 + 3) (u := .bool L[k].w) (by rw [es_at hlt (by omega)]; rfl)
      have b0 := own_cell o2 (j := k * 4) (u := .int .i64 L[k].s) (by rw [show k * 4 = k * 4 + 0 by omega, es_at hlt (by omega)]; rfl)
      have b1 := own_cell o2 (j := k * 4 + 1) (u := .int .i64 L[k].p) (by rw [es_at hlt (by omega)]; rfl)
      have b2 := own_cell o2 (j := k * 4 + 2) (u := .int .i64 L[k].f) (by rw [es_at hlt (by omega)]; rfl)
      have b3 := own_cell o2 (j := k * 4 + 3) (u := .bool L[k].w) (by rw [es_at hlt (by omega)]; rfl)
      have hi0 : (0 : Int) ≤ (k : Int) := by omega
      have hi1 : (k : Int) < (L.length : Int) := by omega
      generalize L[k] = x at *
      clear hA hB h1 h2 o1 o2
      go_wp2_with fail
      go_quiet (fail)
      go_wp2
      go_roundw
      case rel => exact ⟨k + 1, by omega, by go_num, hkp.drewN _⟩
      case measure => simp [intOf]; omega
    · go_wp2
      go_ret
      exact ⟨rfl, hkp⟩

/-- The operation (d, e). -/
def Tl.op (t : Tl) (d : Int) (e : En) : Tl :=
  if d % 8 = 3 ∨ d % 8 = 4 then t.fill e else if d % 8 = 5 then t.drop (fun x => x.is e.s e.p) else if d % 8 = 6 then t.drop (fun x => x.f == e.f) else if d % 8 = 7 then t.drop (fun x => x.s == e.s) else t.look e.s e.p e.w
def Tl.opR (t : Tl) (d : Int) (e : En) : Int × Bool :=
  if d % 8 = 3 ∨ d % 8 = 4 then (0, false) else if d % 8 = 5 then ((t.L.length : Int) - (t.drop (fun x => x.is e.s e.p)).L.length, false) else if d % 8 = 6 then ((t.L.length : Int) - (t.drop (fun x => x.f == e.f)).L.length, false)
  else if d % 8 = 7 then ((t.L.length : Int) - (t.drop (fun x => x.s == e.s)).L.length, false) else t.lookR e.s e.p e.w

end Go.Proofs.YteognipfnbocpaaGreat.T13
namespace Go.Proofs.YteognipfnbocpaaGreat.T13
open Go.RowKit

/-- The last Fill of a page that still counts, as the law reckons it: one operation more. -/
def lstep (en : Nat → En) (s p : Int) (k : Nat) (d : Int) (last : Int) : Int :=
  if d % 8 = 3 ∨ d % 8 = 4 then (if (en k).is s p then (k : Int) else last)
  else if d % 8 = 5 then (if (en k).is s p then -1 else last)
  else if d % 8 = 6 then (if decide (0 ≤ last) && (en last.toNat).f == (en k).f then -1 else last)
  else if d % 8 = 7 then (if (en k).s == s then -1 else last)
  else last
def lastK (d : Nat → Int) (en : Nat → En) (s p : Int) : Nat → Int
  | 0 => -1
  | k + 1 => lstep en s p k (d k) (lastK d en s p k)
theorem lstep_range {en : Nat → En} {s p : Int} {k : Nat} {d last : Int} (h : -1 ≤ last ∧ last < k) : -1 ≤ lstep en s p k d last ∧ lstep en s p k d last < (k + 1 : Nat) := by
  unfold lstep
  repeat' split
  all_goals omega
theorem lastK_range (d : Nat → Int) (en : Nat → En) (s p : Int) (k : Nat) : -1 ≤ lastK d en s p k ∧ lastK d en s p k < k := by
  induction k with
  | zero => simp [lastK]
  | succ k ih => exact lstep_range ih
/-- What the cache holds was filled in last. -/
def TrueI (d : Nat → Int) (en : Nat → En) (t : Tl) (i : Nat) : Prop :=
  ∀ e ∈ t.L, ∃ k : Nat, lastK d en e.s e.p i = k ∧ (en k).f = e.f ∧ (en k).w = e.w
theorem look_mem {t : Tl} {s p : Int} {b : Bool} {e : En} (h : e ∈ (t.look s p b).L) : e ∈ t.L := by
  unfold Tl.look Tl.hit at h
  cases hf : t.L.findIdx? (fun e => e.is s p) with
  | none => rw [hf] at h; exact h
  | some i =>
    have hi : i < t.L.length := by rw [List.findIdx?_eq_some_iff_getElem] at hf; exact hf.1
    rw [hf] at h
    simp only at h
    split at h
    · exact h
    · rename_i j hj
      split at hj
      · cases hj
      · injection hj with hj
        subst hj
        simp only [List.mem_cons] at h
        rcases h with rfl | h
        · simp [List.getD, hi]
        · exact List.mem_of_mem_eraseIdx h
theorem TrueI.step {d : Nat → Int} {en : Nat → En} {t : Tl} {i : Nat} (h : TrueI d en t i) : TrueI d en (t.op (d i) (en i)) (i + 1) := by
  intro e he
  show ∃ k : Nat, lstep en e.s e.p i (d i) (lastK d en e.s e.p i) = k ∧ _
  unfold Tl.op at he
  unfold lstep
  by_cases c1 : d i % 8 = 3 ∨ d i % 8 = 4
  · rw [if_pos c1] at he ⊢
    have key : e = en i ∨ (e ∈ t.L ∧ e.is (en i).s (en i).p = false) := by
      unfold Tl.fill at he
      simp only at he
      split at he
      · exact .inr (by simpa using he)
      · simp only [List.mem_cons] at he
        rcases he with rfl | he
        · exact .inl rfl
        · exact .inr (by simpa using List.mem_of_mem_take he)
    rcases key with rfl | ⟨hm, hk⟩
    · exact ⟨i, by simp [En.is], rfl, rfl⟩
    · obtain ⟨k, h1, h2, h3⟩ := h e hm
      refine ⟨k, ?_, h2, h3⟩
      rw [if_neg, h1]
      unfold En.is at hk ⊢
      intro hc
      simp only [Bool.and_eq_true, beq_iff_eq] at hc
      rw [hc.1, hc.2] at hk
      simp at hk
  rw [if_neg c1] at he ⊢
  by_cases c2 : d i % 8 = 5
  · rw [if_pos c2] at he ⊢
    simp only [Tl.drop, List.mem_filter, Bool.not_eq_true'] at he
    obtain ⟨k, h1, h2, h3⟩ := h e he.1
    refine ⟨k, ?_, h2, h3⟩
    rw [if_neg, h1]
    unfold En.is at he ⊢
    intro hc
    simp only [Bool.and_eq_true, beq_iff_eq] at hc
    rw [hc.1, hc.2] at he
    simp at he
  rw [if_neg c2] at he ⊢
  by_cases c3 : d i % 8 = 6
  · rw [if_pos c3] at he ⊢
    simp only [Tl.drop, List.mem_filter, Bool.not_eq_true', beq_eq_false_iff_ne] at he
    obtain ⟨k, h1, h2, h3⟩ := h e he.1
    refine ⟨k, ?_, h2, h3⟩
    rw [h1, if_neg]
    intro hc
    simp only [Bool.and_eq_true, beq_iff_eq, Int.toNat_natCast] at hc
    exact he.2 (by rw [← h2]; exact hc.2)
  rw [if_neg c3] at he ⊢
  by_cases c4 : d i % 8 = 7
  · rw [if_pos c4] at he ⊢
    simp only [Tl.drop, List.mem_filter, Bool.not_eq_true', beq_eq_false_iff_ne] at he
    obtain ⟨k, h1, h2, h3⟩ := h e he.1
    refine ⟨k, ?_, h2, h3⟩
    rw [if_neg, h1]
    intro hc
    simp only [beq_iff_eq] at hc
    exact he.2 hc.symm
  rw [if_neg c4] at he ⊢
  obtain ⟨k, h1, h2, h3⟩ := h e (look_mem he)
  exact ⟨k, h1, h2, h3⟩
/-- What Look finds. -/
theorem TrueI.found {d : Nat → Int} {en : Nat → En} {t : Tl} {i : Nat} (h : TrueI d en t i) {s p : Int} {b : Bool} (hr : (t.lookR s p b).2 = true) :
    ∃ k : Nat, lastK d en s p i = k ∧ (en k).f = (t.lookR s p b).1 ∧ (b = true → (en k).w = true) := by
  unfold Tl.lookR Tl.hit at hr ⊢
  cases hf : t.L.findIdx? (fun e => e.is s p) with
  | none => rw [hf] at hr; simp at hr
  | some j =>
    rw [hf] at hr
    have hj := hf
    rw [List.findIdx?_eq_some_iff_getElem] at hj
    obtain ⟨hi, hq, -⟩ := hj
    have hg : t.L.getD j en0 = t.L[j] := by simp [List.getD, hi]
    simp only [hg] at hr ⊢
    obtain ⟨k, h1, h2, h3⟩ := h _ (List.getElem_mem hi)
    unfold En.is at hq
    simp only [Bool.and_eq_true, beq_iff_eq] at hq
    rw [hq.1, hq.2] at h1
    cases hb : (b && !t.L[j].w) with
    | true => rw [hb] at hr; simp at hr
    | false =>
      simp only [Bool.false_eq_true, if_false]
      refine ⟨k, h1, by rw [h2, hg], fun hbt => ?_⟩
      rw [hbt] at hb
      rw [h3]
      simpa using hb
theorem lookR_no {t : Tl} {s p : Int} {b : Bool} (h : (t.lookR s p b).2 = false) : (t.lookR s p b).1 = 0 := by
  unfold Tl.lookR at h ⊢
  split at h <;> simp_all
end Go.Proofs.YteognipfnbocpaaGreat.T13
namespace Go.Proofs.YteognipfnbocpaaGreat.T13
open Go.RowKit

/-- Whether an entry is one that the operation is about. -/
def hitQ (d : Int) (x e : En) : Bool := (d % 8 == 5 && e.is x.s x.p) || (d % 8 == 6 && e.f == x.f) || (d % 8 == 7 && e.s == x.s)
theorem look_mem' {t : Tl} {s p : Int} {b : Bool} {e : En} : e ∈ (t.look s p b).L ↔ e ∈ t.L := by
  refine ⟨look_mem, fun h => ?_⟩
  unfold Tl.look
  cases hh : t.hit s p b with
  | none => exact h
  | some i =>
    simp only
    by_cases hi : i < t.L.length
    · rw [List.getD_eq_getElem?_getD, List.getElem?_eq_getElem hi]
      simp only [Option.getD_some, List.mem_cons]
      obtain ⟨j, hj, rfl⟩ := List.getElem_of_mem h
      by_cases e : j = i
      · subst e; exact .inl rfl
      · right
        rw [List.mem_eraseIdx_iff_getElem]
        exact ⟨j, hj, e, rfl⟩
    · rw [List.eraseIdx_of_length_le (by omega)]
      exact List.mem_cons_of_mem _ h
theorem countP_not (L : List En) (q : En → Bool) : (L.filter (fun e => !q e)).length + L.countP q = L.length := by
  induction L with
  | nil => rfl
  | cons x r ih =>
    cases h : q x <;> simp [h] <;> omega
theorem look_len {t : Tl} {s p : Int} {b : Bool} : (t.look s p b).L.length = t.L.length := by
  unfold Tl.look
  cases hh : t.hit s p b with
  | none => rfl
  | some i =>
    have hi : i < t.L.length := by
      unfold Tl.hit at hh
      cases hf : t.L.findIdx? (fun e => e.is s p) with
      | none => rw [hf] at hh; cases hh
      | some j =>
        rw [hf] at hh
        simp only at hh
        split at hh
        · cases hh
        · injection hh with hh
          subst hh
          rw [List.findIdx?_eq_some_iff_getElem] at hf
          exact hf.1
    simp only [List.length_cons, List.length_eraseIdx_of_lt hi]
    omega
/-- How many entries the operation is about. -/
def goneN (d : Int) (x : En) (L : List En) : Nat := L.countP (hitQ d x)
/-- No two entries of one page of a space. -/
def Nd (L : List En) : Prop := L.Pairwise (fun a b => ¬ (a.s = b.s ∧ a.p = b.p))
theorem Nd.filter {L : List En} (h : Nd L) (q : En → Bool) : Nd (L.filter q) := List.Pairwise.filter q h
theorem Nd.look {t : Tl} (h : Nd t.L) {s p : Int} {b : Bool} : Nd (t.look s p b).L := by
  unfold Tl.look
  cases hh : t.hit s p b with
  | none => exact h
  | some i =>
    simp only
    have hi : i < t.L.length := by
      unfold Tl.hit at hh
      cases hf : t.L.findIdx? (fun e => e.is s p) with
      | none => rw [hf] at hh; cases hh
      | some j =>
        rw [hf] at hh
        simp only at hh
        split at hh
        · cases hh
        · injection hh with hh
          subst hh
          rw [List.findIdx?_eq_some_iff_getElem] at hf
          exact hf.1
    rw [List.getD_eq_getElem?_getD, List.getElem?_eq_getElem hi, Option.getD_some]
    have hp : (t.L[i] :: t.L.eraseIdx i).Perm t.L := by
      rw [List.eraseIdx_eq_take_drop_succ]
      have e : t.L = t.L.take i ++ t.L[i] :: t.L.drop (i + 1) := by rw [← List.drop_eq_getElem_cons hi, List.take_append_drop]
      refine (List.perm_middle.symm).trans ?_
      rw [← e]
    exact (hp.pairwise_iff (fun hab hba => hab ⟨hba.1.symm, hba.2.symm⟩)).2 h
theorem Nd.fill {t : Tl} (h : Nd t.L) (x : En) : Nd (t.fill x).L := by
  unfold Tl.fill
  simp only
  split
  · exact h.filter _
  · refine List.Pairwise.cons (fun e he => ?_) ((h.filter _).sublist (List.take_sublist _ _))
    have := List.mem_of_mem_take he
    rw [List.mem_filter] at this
    intro hc
    have h2 := this.2
    unfold En.is at h2
    rw [hc.1, hc.2] at h2
    simp at h2
theorem Nd.at_ {L : List En} (h : Nd L) {a b : Nat} (ha : a < L.length) (hb : b < a) : ((L[a].s == (L[b]'(by omega)).s) && (L[a].p == (L[b]'(by omega)).p)) = false := by
  have := (List.pairwise_iff_getElem.1 h) b a (by omega) ha hb
  cases h1 : L[a].s == (L[b]'(by omega)).s with
  | false => rfl
  | true =>
    cases h2 : L[a].p == (L[b]'(by omega)).p with
    | false => rfl
    | true =>
      simp only [beq_iff_eq] at h1 h2
      exact (this ⟨h1.symm, h2.symm⟩).elim
end Go.Proofs.YteognipfnbocpaaGreat.T13
namespace Go.Proofs.YteognipfnbocpaaGreat.T13
open Go.RowKit

theorem rnew_any (w : World) (n : Int) (h1 : -9223372036854775808 ≤ n) (h2 : n ≤ 9223372036854775807) : Calls Tryz.prog 25 #[.int .i64 n] w fun e w' => ∃ F p, e = .returned (.pointer (some ⟨p, 0, none⟩)) ∧ TlRep 86 w' F p ⟨n.toNat, []⟩ ∧ Keeps [] w w' ∧ ∀ g ∈ F, w.heap.size ≤ g := by
  have hmx : max 0 n = (n.toNat : Int) := by omega
  have hmx2 : max n 0 = (n.toNat : Int) := by omega
  have hif : (if n ≤ 0 then 0 else n) = (n.toNat : Int) := by split <;> omega
  generalize n.toNat = m at *
  go_enter Tryz.func25, Tryz.ntmps25
  go_wp2
  go_ret
  try rw [hif]
  exact ⟨[w.heap.size], w.heap.size, rfl, ⟨none, 0, rfl, Blk.new _ _ _, World.ownsRow_nil _ _ _ _, by simp, by decide⟩, (Keeps.refl _ _).alloc _, by simp⟩

set_option maxRecDepth 100000 in
set_option maxHeartbeats 1600000 in
theorem rplace_any (w : World) (F : List Nat) (p : Nat) (s : Tl) (x y : Int) (hn : s.n ≤ 1000) (h : TlRep 86 w F p s) :
    Calls Tryz.prog 83 #[.pointer (some ⟨p, 0, none⟩), .int .i64 x, .int .i64 y] w fun e w' => e = .returned (.int .i64 (fidx (fun e => e.is x y) s.L)) ∧ Keeps [] w w' := by
  obtain ⟨A, cap, h⟩ := h
  have hm := h.m
  obtain ⟨_, _, hv, -, -, hA⟩ := own_shape h.o
  obtain ⟨rfl, -, rfl⟩ : A = _ ∧ s.L.length = _ ∧ cap = _ := by injection hv with h1 h2 h3; exact ⟨h1, rfl, h3⟩
  clear hv
  go_enter Tryz.func83, Tryz.ntmps83
  go_wp2
  go_loopw [7] (fun i wr => ∃ k : Nat, k ≤ s.L.length ∧ i = .int .i64 k ∧ (∀ j (h : j < s.L.length), j < k → (s.L[j]).is x y = false) ∧ Keeps [] w wr) (fun i _ => s.L.length - (intOf i).toNat)
  case atStart => exact ⟨0, by omega, rfl, fun _ _ h => absurd h (by omega), Keeps.refl _ _⟩
  case round =>
    obtain ⟨k, hk, rfl, hst, kp⟩ := hrel
    have bk := h.b.keep kp (by simp)
    have c1 : wr.cell? ⟨p, 1, none⟩ = some (.slice A s.L.length cap) := bk.cell 1
    by_cases hlt : k < s.L.length
    · obtain ⟨b, rfl⟩ := hA (by omega)
      have ow := own_keep h.o kp (by simp)
      have x0 := own_cell ow (j := k * 4) (u := .int .i64 s.L[k].s) (by rw [show k * 4 = k * 4 + 0 by omega, es_at hlt (by omega)]; rfl)
      have x1 := own_cell ow (j := k * 4 + 1) (u := .int .i64 s.L[k].p) (by rw [es_at hlt (by omega)]; rfl)
      have HST := Lib.hid hst
      clear hst h bk ow
      cases e1 : ((s.L[k]).s == x) with
      | false =>
        have HQ := Lib.hid (show (s.L[k]).is x y = false by unfold En.is; rw [e1]; rfl)
        go_wp2
        go_roundw
        case rel =>
          refine ⟨k + 1, by omega, by go_num, fun j hj hjk => ?_, kp⟩
          by_cases e : j = k
          · subst e; exact HQ.out
          · exact HST.out j hj (by omega)
        case measure => simp [intOf]; omega
      | true =>
        cases e2 : ((s.L[k]).p == y) with
        | false =>
          have HQ := Lib.hid (show (s.L[k]).is x y = false by unfold En.is; rw [e1, e2]; rfl)
          go_wp2
          go_roundw
          case rel =>
            refine ⟨k + 1, by omega, by go_num, fun j hj hjk => ?_, kp⟩
            by_cases e : j = k
            · subst e; exact HQ.out
            · exact HST.out j hj (by omega)
          case measure => simp [intOf]; omega
        | true =>
          have hf : s.L.findIdx? (fun e => e.is x y) = some k := by
            rw [List.findIdx?_eq_some_iff_getElem]
            exact ⟨hlt, by unfold En.is; rw [e1, e2]; rfl, fun j hj => by simpa using HST.out j (by omega) hj⟩
          have HF := Lib.hid (fidx_some hf)
          clear hf
          go_wp2
          go_ret
          rw [HF.out]
          exact ⟨rfl, kp⟩
    · obtain rfl : k = s.L.length := by omega
      have hf : s.L.findIdx? (fun e => e.is x y) = none := by
        rw [List.findIdx?_eq_none_iff]
        intro z hz
        obtain ⟨j, hj, rfl⟩ := List.getElem_of_mem hz
        exact hst j hj hj
      have HF := Lib.hid (fidx_none hf)
      clear hf hst
      go_wp2
      go_ret
      rw [HF.out]
      exact ⟨rfl, kp⟩

set_option maxRecDepth 100000 in
set_option maxHeartbeats 2000000 in
theorem rwithout_any (w : World) (F : List Nat) (p : Nat) (s : Tl) (k : Nat) (hkl : k < s.L.length) (hn : s.n ≤ 1000) (h : TlRep 86 w F p s) :
    Calls Tryz.prog 84 #[.pointer (some ⟨p, 0, none⟩), .int .i64 k] w fun e w' => ∃ v, e = .returned v ∧ w'.ownsRow 0 83 4 v (s.L.eraseIdx k).length (es (s.L.eraseIdx k)) ∧ Keeps [] w w' ∧ ∀ g ∈ fp v, w.heap.size ≤ g := by
  obtain ⟨A, cap, h⟩ := h
  have c0 : w.cell? ⟨p, 1, none⟩ = some (.slice A s.L.length cap) := h.b.cell 1
  have hm := h.m
  have hpl := h.b.lt
  obtain ⟨_, _, hv, hcap, hmax, hA⟩ := own_shape h.o
  obtain ⟨rfl, -, rfl⟩ : A = _ ∧ s.L.length = _ ∧ cap = _ := by injection hv with h1 h2 h3; exact ⟨h1, rfl, h3⟩
  clear hv
  obtain ⟨g, rfl⟩ := hA (by omega)
  have hwr : IntKind.i64.wrap ((k : Int) + 1) = (k : Int) + 1 := by rw [IntKind.wrap_i64]; omega
  have hp0 : (0 : Int) ≤ (k : Int) + 1 := by omega
  have hp1 : (k : Int) + 1 ≤ (s.L.length : Int) := by omega
  have hp2 : ((k : Int) + 1).toNat = k + 1 := by omega
  have hp3 : (k : Int) ≤ (s.L.length : Int) := by omega
  have hp4 : (k : Int) ≤ (cap : Int) := by omega
  have hp5 : (0 : Int) ≤ (k : Int) := by omega
  have HG := Lib.hid h
  have hk1 : Keeps [] w (w.alloc (.cells #[] 83)).drew := ((Keeps.refl _ _).alloc _).drew
  have HE : Hid ((w.alloc (.cells #[] 83)).drew.ownsRow 0 83 4 (.slice (some ⟨w.heap.size, 0, none⟩) 0 0) 0 []) := own_drew (own_of_blk (Blk.new w 83 #[]) (by omega) (by omega) rfl rfl)
  have hR := reads_own (own_keep h.o hk1 (by simp))
  have HR : Hid (Reads (w.alloc (.cells #[] 83)).drew (w.alloc (.cells #[] 83)).drew.heap.size 4 (some ⟨g, 0, none⟩) k (es (s.L.take k))) := by
    refine ⟨by rw [es_len, List.length_take]; congr 1; omega, fun h0 => ?_⟩
    obtain ⟨ad, e, hb, hc⟩ := hR.2 (by omega)
    refine ⟨ad, e, hb, fun j u hu => hc j u ?_⟩
    rw [← es_take] at hu
    rw [List.getElem?_take] at hu
    split at hu
    · exact hu
    · cases hu
  have HK := Lib.hid hk1
  have HI := Lib.hid info83
  have P1 := Lib.hid (es_one (s.L.take k))
  have P2 := Lib.hid (es_one (s.L.drop (k + 1)))
  have h63 : 0 + k ≤ maxLen := by unfold maxLen; omega
  have h64 : (0 + k) + (s.L.length - (k + 1)) ≤ maxLen := by unfold maxLen; omega
  have hcut : ∀ W1 : World, Keeps [] w W1 → Reads W1 W1.heap.size 4 (if cap = k + 1 then some ⟨g, 0, none⟩ else some ⟨g, (k + 1) * 4, none⟩) (s.L.length - (k + 1)) (es (s.L.drop (k + 1))) := by
    intro W1 hk
    have hr1 := reads_own (own_keep h.o hk (by simp))
    have := hr1.cut (k := k + 1) (by omega) hcap
    rw [es_drop] at this
    have e : (if cap = k + 1 then some (⟨g, 0, none⟩ : Addr) else some ⟨g, (k + 1) * 4, none⟩) = (if cap = k + 1 then some ⟨g, 0, none⟩ else (some ⟨g, 0, none⟩ : Option Addr).map (·.add ((k + 1) * 4))) := by
      split
      · rfl
      · simp [add_of_plain]
    rw [e]
    exact this
  have HC := Lib.hid hcut
  have HW : Hid (∀ (v : Value) (W : World), W.ownsRow 0 83 4 v ((0 + k) + (s.L.length - (k + 1))) (([] ++ es (s.L.take k)) ++ es (s.L.drop (k + 1))) → W.ownsRow 0 83 4 v (s.L.eraseIdx k).length (es (s.L.eraseIdx k))) := by
    intro v W h
    rw [List.length_eraseIdx_of_lt hkl, List.eraseIdx_eq_take_drop_succ, es_append]
    have e : (0 + k) + (s.L.length - (k + 1)) = s.L.length - 1 := by omega
    rw [e, List.nil_append] at h
    exact h
  obtain ⟨A2, hA2⟩ : ∃ A2 : Option Addr, (if cap = k + 1 then some (⟨g, 0, none⟩ : Addr) else some ⟨g, (k + 1) * 4, none⟩) = A2 := ⟨_, rfl⟩
  clear h hk1 hR hcut
  go_enter Tryz.func84, Tryz.ntmps84
  go_wp2_with fail
  go_region_law (first
      | (refine step_app (by rfl) (.tmp 12) (.tmp 19) 49 (by rfl) 83 (.agg #[.int .i64 0, .int .i64 0, .int .i64 0, .bool false]) 4 32 Tryz.underlying49 HI.out rfl (by omega) v1 (0 + k) ([] ++ es (s.L.take k)) (by simp [Act.eval, Act.put]) ho1 _ A2 (s.L.length - (k + 1)) (cap - (k + 1)) (es (s.L.drop (k + 1))) (by simp [Act.eval, Act.put]) (hA2 ▸ HC.out _ kk1) P2.out h64 (by omega) (fun v2 w2 ho2 hk2 hf2 => ?_); have oo2 := Lib.hid (HW.out _ _ ho2); have kk2 := (kk1.trans hk2 (fun g hg => .inr (ff1 g hg))); have ff2 := Lib.hid (fun g hg => (hf2 g hg).elim (ff1 g) (fun h => Nat.le_trans kk1.size h)))
      | (refine step_app (by rfl) (.tmp 5) (.tmp 11) 49 (by rfl) 83 (.agg #[.int .i64 0, .int .i64 0, .int .i64 0, .bool false]) 4 32 Tryz.underlying49 HI.out rfl (by omega) (.slice (some ⟨w.heap.size, 0, none⟩) 0 0) 0 [] (by simp [Act.eval, Act.put]) HE.out _ (some ⟨g, 0, none⟩) k cap (es (s.L.take k)) (by simp [Act.eval, Act.put]) HR.out P1.out h63 (by omega) (fun v1 w1 ho1 hk1 hf1 => ?_); have kk1 := HK.out.trans hk1 (by simp); have cc1 := (HG.out.b.keep kk1 (by simp)).cell 1; have ff1 : ∀ g ∈ fp v1, w.heap.size ≤ g := (fun g hg => (hf1 g hg).elim (fun h => Nat.le_of_eq (List.mem_singleton.1 h).symm) (fun h => Nat.le_trans HK.out.size h))))
  all_goals
    go_wp2
    go_ret
    exact ⟨_, rfl, oo2.out, kk2, ff2.out⟩
end Go.Proofs.YteognipfnbocpaaGreat.T13
namespace Go.Proofs.YteognipfnbocpaaGreat.T13
open Go.RowKit

/-- What the reference stores: a list in new blocks. -/
theorem fresh1 {T : TypeId} {w w1 : World} {F : List Nat} {p : Nat} {s : Tl} {A : Option Addr} {cap : Nat} {v' : Value} {L' : List En} (g1 : TlAt T w F p s A cap)
    (ho' : w1.ownsRow 0 83 4 v' L'.length (es L')) (hk' : Keeps [] w w1) (hf' : ∀ g ∈ fp v', w.heap.size ≤ g) (hl : L'.length ≤ s.n) :
    ∃ A1 cap1, v' = .slice A1 L'.length cap1 ∧ w1.cell? ⟨p, 1, none⟩ = some (.slice A s.L.length cap) ∧ w1.frozen? ⟨p, 1, none⟩ = false ∧ w.heap.size ≤ w1.heap.size ∧ Next T w (w1.setCell ⟨p, 1, none⟩ v') F p ⟨s.n, L'⟩ := by
  obtain ⟨A1, cap1, rfl, -, -, -⟩ := own_shape ho'
  have hf := g1.f
  have b1 := g1.b.keep hk' (by simp)
  have hoff1 : p ∉ fp (.slice A1 L'.length cap1) := own_blk_off ho' b1 (fun e => g1.t e.symm)
  refine ⟨A1, cap1, rfl, b1.cell 1, b1.frozen 1, hk'.size, p :: fp (.slice A1 L'.length cap1), ⟨A1, cap1, rfl, ?_, ?_, hl, g1.t⟩, ?_, ?_⟩
  · simpa using b1.set_ 1 (.slice A1 L'.length cap1)
  · exact own_far (p := ⟨p, 1, none⟩) ho' hoff1 (.slice A1 L'.length cap1)
  · exact (hk'.mono (G := F) (by simp)).setCell (.inl (by rw [hf]; simp)) _
  · intro g hg
    rcases List.mem_cons.1 hg with rfl | hg
    · exact .inl (by rw [hf]; simp)
    · exact .inr (hf' g hg)
theorem erase_filter {L : List En} {k : Nat} {x y : Int} (h : Nd L) (hf : L.findIdx? (fun e => e.is x y) = some k) : L.filter (fun e => !e.is x y) = L.eraseIdx k := by
  rw [List.findIdx?_eq_some_iff_getElem] at hf
  obtain ⟨hk, h1, h2⟩ := hf
  rw [List.eraseIdx_eq_take_drop_succ]
  have e : L = L.take k ++ L[k] :: L.drop (k + 1) := by rw [← List.drop_eq_getElem_cons hk, List.take_append_drop]
  have hd : Nd (L.take k ++ L[k] :: L.drop (k + 1)) := by rw [← e]; exact h
  have hp := List.pairwise_cons.1 (List.pairwise_append.1 hd).2.1
  have hq : L.filter (fun e => !e.is x y) = (L.take k ++ L[k] :: L.drop (k + 1)).filter (fun e => !e.is x y) := by rw [← e]
  rw [hq, List.filter_append, List.filter_cons, h1]
  simp only [Bool.not_true, Bool.false_eq_true, if_false]
  congr 1
  · rw [List.filter_eq_self]
    intro z hz
    obtain ⟨j, hj, rfl⟩ := List.getElem_of_mem hz
    rw [List.length_take] at hj
    rw [List.getElem_take]
    simpa using h2 j (by omega)
  · rw [List.filter_eq_self]
    intro z hz
    have := hp.1 z hz
    unfold En.is at h1 ⊢
    simp only [Bool.and_eq_true, beq_iff_eq] at h1
    simp only [Bool.not_eq_true', Bool.and_eq_false_iff, beq_eq_false_iff_ne]
    rw [h1.1, h1.2] at this
    by_cases e : z.s = x
    · exact .inr (fun e2 => this ⟨e.symm, e2.symm⟩)
    · exact .inl e
theorem keep_filter {L : List En} {x y : Int} (hf : L.findIdx? (fun e => e.is x y) = none) : L.filter (fun e => !e.is x y) = L := by
  rw [List.findIdx?_eq_none_iff] at hf
  rw [List.filter_eq_self]
  intro z hz
  simp [hf z hz]

set_option maxRecDepth 100000 in
set_option maxHeartbeats 1600000 in
theorem rdrop_any (w : World) (F : List Nat) (p : Nat) (s : Tl) (x y : Int) (hn : s.n ≤ 1000) (hd : Nd s.L) (h : TlRep 86 w F p s) :
    Calls Tryz.prog 64 #[.pointer (some ⟨p, 0, none⟩), .int .i64 x, .int .i64 y] w fun e w' => e = .returned (.int .i64 ((s.L.length : Int) - (s.drop (fun e => e.is x y)).L.length)) ∧ Next 86 w w' F p (s.drop (fun e => e.is x y)) := by
  have HP := Lib.hid (rplace_any w F p s x y hn h)
  have HR := Lib.hid h
  cases hf : s.L.findIdx? (fun e => e.is x y) with
  | none =>
    rw [fidx_none hf] at HP
    have e1 : s.drop (fun e => e.is x y) = s := by unfold Tl.drop; rw [keep_filter hf]
    have HE := Lib.hid e1
    clear hf e1 h
    go_enter Tryz.func64, Tryz.ntmps64
    go_wp2_with fail
    refine HP.out.mono ?_
    rintro e w1 ⟨rfl, k1⟩
    go_wp2_with fail
    go_ret
    rw [HE.out]
    exact ⟨ret_int (by omega), .same (HR.out.keep k1 (by simp)) (k1.mono (by simp))⟩
  | some k =>
    have hkl : k < s.L.length := by rw [List.findIdx?_eq_some_iff_getElem] at hf; exact hf.1
    rw [fidx_some hf] at HP
    have e1 : s.drop (fun e => e.is x y) = ⟨s.n, s.L.eraseIdx k⟩ := by unfold Tl.drop; rw [erase_filter hd hf]
    have e2 : (s.L.length : Int) - (s.L.eraseIdx k).length = 1 := by rw [List.length_eraseIdx_of_lt hkl]; omega
    have HE := Lib.hid (And.intro e1 e2)
    have hle : (s.L.eraseIdx k).length ≤ s.n := by rw [List.length_eraseIdx_of_lt hkl]; have := HR.out.len; omega
    clear hf e1 e2 h
    go_enter Tryz.func64, Tryz.ntmps64
    go_wp2_with fail
    refine HP.out.mono ?_
    rintro e w1 ⟨rfl, k1⟩
    have hw := rwithout_any w1 F p s k hkl hn (HR.out.keep k1 (by simp))
    have HW := Lib.hid hw
    clear hw
    go_wp2_with fail
    refine HW.out.mono ?_
    rintro e w2 ⟨v, rfl, o2, k2, f2⟩
    obtain ⟨A, cap, g1⟩ := HR.out
    have kk := fresh1 g1 o2 (k1.trans k2 (by simp)) (fun g hg => Nat.le_trans k1.size (f2 g hg)) hle
    clear g1 o2 k2 f2 HW
    obtain ⟨A1, cap1, rfl, d1, d0, -, hn1⟩ := kk
    have HN := Lib.hid hn1
    clear hn1
    go_wp2_with fail
    go_ret
    rw [HE.out.1]
    exact ⟨ret_int (by simpa using HE.out.2.symm), HN.out⟩

set_option maxRecDepth 100000 in
set_option maxHeartbeats 3200000 in
theorem rdropFrame_any (w : World) (F : List Nat) (p : Nat) (s : Tl) (x : Int) (hn : s.n ≤ 1000) (h : TlRep 86 w F p s) :
    Calls Tryz.prog 66 #[.pointer (some ⟨p, 0, none⟩), .int .i64 x] w fun e w' => e = .returned (.int .i64 ((s.L.length : Int) - (s.drop (fun e => e.f == x)).L.length)) ∧ Next 86 w w' F p (s.drop (fun e => e.f == x)) := by
  obtain ⟨A, cap, h⟩ := h
  have hm := h.m
  obtain ⟨_, _, hv, -, -, hA⟩ := own_shape h.o
  obtain ⟨rfl, -, rfl⟩ : A = _ ∧ s.L.length = _ ∧ cap = _ := by injection hv with h1 h2 h3; exact ⟨h1, rfl, h3⟩
  clear hv
  have HH := Lib.hid h
  have HI := Lib.hid info83
  clear h
  go_enter Tryz.func66, Tryz.ntmps66
  go_wp2
  go_loopw [5, 6] (fun v i wr => ∃ k : Nat, k ≤ s.L.length ∧ i = .int .i64 k ∧ wr.ownsRow 0 83 4 v ((s.L.take k).filter (fun e => !(e.f == x))).length (es ((s.L.take k).filter (fun e => !(e.f == x)))) ∧ (∀ g ∈ fp v, w.heap.size ≤ g) ∧ Keeps [] w wr) (fun _ i _ => s.L.length - (intOf i).toNat)
  case atStart => exact ⟨0, by omega, rfl, World.ownsRow_nil _ _ _ _, by simp, Keeps.refl _ _⟩
  case round =>
    obtain ⟨k, hk, rfl, ov, fv, kp⟩ := hrel
    have c1 : wr.cell? ⟨p, 1, none⟩ = some (.slice A s.L.length cap) := (HH.out.b.keep kp (by simp)).cell 1
    by_cases hlt : k < s.L.length
    · obtain ⟨g, rfl⟩ := hA (by omega)
      have o1 := own_keep HH.out.o kp (by simp)
      have x0 := own_cell o1 (j := k * 4) (u := .int .i64 s.L[k].s) (by rw [show k * 4 = k * 4 + 0 by omega, es_at hlt (by omega)]; rfl)
      have x1 := own_cell o1 (j := k * 4 + 1) (u := .int .i64 s.L[k].p) (by rw [es_at hlt (by omega)]; rfl)
      have x2 := own_cell o1 (j := k * 4 + 2) (u := .int .i64 s.L[k].f) (by rw [es_at hlt (by omega)]; rfl)
      have x3 := own_cell o1 (j := k * 4 + 3) (u := .bool s.L[k].w) (by rw [es_at hlt (by omega)]; rfl)
      have hfs : (s.L.take (k + 1)).filter (fun e => !(e.f == x)) = (s.L.take k).filter (fun e => !(e.f == x)) ++ (if (s.L[k]).f == x then [] else [s.L[k]]) := by
        rw [List.take_succ_eq_append_getElem hlt, List.filter_append, List.filter_cons]
        cases (s.L[k]).f == x <;> simp
      have hfl : ((s.L.take k).filter (fun e => !(e.f == x))).length ≤ k := Nat.le_trans (List.length_filter_le _ _) (List.length_take_le _ _)
      have HF := Lib.hid hfs
      clear o1 hfs
      generalize (s.L.take k).filter (fun e => !(e.f == x)) = M at *
      obtain ⟨Av, cv, rfl, -, -, -⟩ := own_shape ov
      cases e1 : ((s.L[k]).f == x) with
      | true =>
        rw [e1] at HF
        have e2 : ((s.L[k]).f != x) = false := by simp [bne, e1]
        clear e1
        go_wp2_with fail
        go_roundw
        case rel => exact ⟨k + 1, by omega, by go_num, by rw [HF.out]; simpa using ov, fv, kp⟩
        case measure => simp [intOf]; omega
      | false =>
        rw [e1] at HF
        have e2 : ((s.L[k]).f != x) = true := by simp [bne, e1]
        have HO := Lib.hid (fun W (hW : Keeps [] wr W) => own_keep ov hW (by simp))
        clear e1
        go_wp2_with (at_builtin; refine wpList_app _ rfl (.tmp 27) (.tmp 35) _ rfl 83 (.agg #[.int .i64 0, .int .i64 0, .int .i64 0, .bool false]) 4 32 Tryz.underlying49 HI.out rfl (by omega) (.slice Av M.length cv) _ _ rfl (HO.out _ ((Keeps.refl [] _).alloc _)) _ _ _ _ _ rfl (reads_cells wr #[.int .i64 s.L[k].s, .int .i64 s.L[k].p, .int .i64 s.L[k].f, .bool s.L[k].w] 1 4 83 rfl) (ec_one s.L[k]) (by unfold maxLen; omega) (by omega) ?_)
        intro v6 w6 o6 k6 f6
        have kk := (kp.alloc (.cells #[.int .i64 s.L[k].s, .int .i64 s.L[k].p, .int .i64 s.L[k].f, .bool s.L[k].w] 83)).trans k6 (fun g hg => .inr (fv g hg))
        have hz := kp.size
        clear HO c1 x0 x1 x2 x3
        go_wp2_with fail
        go_roundw
        case rel =>
          refine ⟨k + 1, by omega, by go_num, ?_, fun g hg => ?_, kk⟩
          · rw [HF.out]
            have : (M ++ (if false = true then [] else [s.L[k]])) = M ++ [s.L[k]] := rfl
            rw [this, List.length_append, es_append]
            exact o6
          · rcases f6 g hg with h1 | h1
            · exact fv g h1
            · first | omega | (simp at h1; omega)
        case measure => simp [intOf]; omega
    · obtain rfl : k = s.L.length := by omega
      rw [List.take_length] at ov
      have hfl : (s.L.filter (fun e => !(e.f == x))).length ≤ s.L.length := List.length_filter_le _ _
      have kk := fresh1 HH.out ov kp fv (by omega)
      have HD : Hid (s.drop (fun e => e.f == x) = ⟨s.n, s.L.filter (fun e => !(e.f == x))⟩) := Lib.hid rfl
      clear ov fv
      generalize s.L.filter (fun e => !(e.f == x)) = M at *
      obtain ⟨A1, cap1, rfl, d1, d0, -, hn1⟩ := kk
      have HN := Lib.hid hn1
      clear hn1 hA
      go_wp2_with fail
      go_ret
      rw [HD.out]
      exact ⟨rfl, HN.out⟩

set_option maxRecDepth 100000 in
set_option maxHeartbeats 3200000 in
theorem rflush_any (w : World) (F : List Nat) (p : Nat) (s : Tl) (x : Int) (hn : s.n ≤ 1000) (h : TlRep 86 w F p s) :
    Calls Tryz.prog 67 #[.pointer (some ⟨p, 0, none⟩), .int .i64 x] w fun e w' => e = .returned (.int .i64 ((s.L.length : Int) - (s.drop (fun e => e.s == x)).L.length)) ∧ Next 86 w w' F p (s.drop (fun e => e.s == x)) := by
  obtain ⟨A, cap, h⟩ := h
  have hm := h.m
  obtain ⟨_, _, hv, -, -, hA⟩ := own_shape h.o
  obtain ⟨rfl, -, rfl⟩ : A = _ ∧ s.L.length = _ ∧ cap = _ := by injection hv with h1 h2 h3; exact ⟨h1, rfl, h3⟩
  clear hv
  have HH := Lib.hid h
  have HI := Lib.hid info83
  clear h
  go_enter Tryz.func67, Tryz.ntmps67
  go_wp2
  go_loopw [5, 6] (fun v i wr => ∃ k : Nat, k ≤ s.L.length ∧ i = .int .i64 k ∧ wr.ownsRow 0 83 4 v ((s.L.take k).filter (fun e => !(e.s == x))).length (es ((s.L.take k).filter (fun e => !(e.s == x)))) ∧ (∀ g ∈ fp v, w.heap.size ≤ g) ∧ Keeps [] w wr) (fun _ i _ => s.L.length - (intOf i).toNat)
  case atStart => exact ⟨0, by omega, rfl, World.ownsRow_nil _ _ _ _, by simp, Keeps.refl _ _⟩
  case round =>
    obtain ⟨k, hk, rfl, ov, fv, kp⟩ := hrel
    have c1 : wr.cell? ⟨p, 1, none⟩ = some (.slice A s.L.length cap) := (HH.out.b.keep kp (by simp)).cell 1
    by_cases hlt : k < s.L.length
    · obtain ⟨g, rfl⟩ := hA (by omega)
      have o1 := own_keep HH.out.o kp (by simp)
      have x0 := own_cell o1 (j := k * 4) (u := .int .i64 s.L[k].s) (by rw [show k * 4 = k * 4 + 0 by omega, es_at hlt (by omega)]; rfl)
      have x1 := own_cell o1 (j := k * 4 + 1) (u := .int .i64 s.L[k].p) (by rw [es_at hlt (by omega)]; rfl)
      have x2 := own_cell o1 (j := k * 4 + 2) (u := .int .i64 s.L[k].f) (by rw [es_at hlt (by omega)]; rfl)
      have x3 := own_cell o1 (j := k * 4 + 3) (u := .bool s.L[k].w) (by rw [es_at hlt (by omega)]; rfl)
      have hfs : (s.L.take (k + 1)).filter (fun e => !(e.s == x)) = (s.L.take k).filter (fun e => !(e.s == x)) ++ (if (s.L[k]).s == x then [] else [s.L[k]]) := by
        rw [List.take_succ_eq_append_getElem hlt, List.filter_append, List.filter_cons]
        cases (s.L[k]).s == x <;> simp
      have hfl : ((s.L.take k).filter (fun e => !(e.s == x))).length ≤ k := Nat.le_trans (List.length_filter_le _ _) (List.length_take_le _ _)
      have HF := Lib.hid hfs
      clear o1 hfs
      generalize (s.L.take k).filter (fun e => !(e.s == x)) = M at *
      obtain ⟨Av, cv, rfl, -, -, -⟩ := own_shape ov
      cases e1 : ((s.L[k]).s == x) with
      | true =>
        rw [e1] at HF
        have e2 : ((s.L[k]).s != x) = false := by simp [bne, e1]
        clear e1
        go_wp2_with fail
        go_roundw
        case rel => exact ⟨k + 1, by omega, by go_num, by rw [HF.out]; simpa using ov, fv, kp⟩
        case measure => simp [intOf]; omega
      | false =>
        rw [e1] at HF
        have e2 : ((s.L[k]).s != x) = true := by simp [bne, e1]
        have HO := Lib.hid (fun W (hW : Keeps [] wr W) => own_keep ov hW (by simp))
        clear e1
        go_wp2_with (at_builtin; refine wpList_app _ rfl (.tmp 27) (.tmp 35) _ rfl 83 (.agg #[.int .i64 0, .int .i64 0, .int .i64 0, .bool false]) 4 32 Tryz.underlying49 HI.out rfl (by omega) (.slice Av M.length cv) _ _ rfl (HO.out _ ((Keeps.refl [] _).alloc _)) _ _ _ _ _ rfl (reads_cells wr #[.int .i64 s.L[k].s, .int .i64 s.L[k].p, .int .i64 s.L[k].f, .bool s.L[k].w] 1 4 83 rfl) (ec_one s.L[k]) (by unfold maxLen; omega) (by omega) ?_)
        intro v6 w6 o6 k6 f6
        have kk := (kp.alloc (.cells #[.int .i64 s.L[k].s, .int .i64 s.L[k].p, .int .i64 s.L[k].f, .bool s.L[k].w] 83)).trans k6 (fun g hg => .inr (fv g hg))
        have hz := kp.size
        clear HO c1 x0 x1 x2 x3
        go_wp2_with fail
        go_roundw
        case rel =>
          refine ⟨k + 1, by omega, by go_num, ?_, fun g hg => ?_, kk⟩
          · rw [HF.out]
            have : (M ++ (if false = true then [] else [s.L[k]])) = M ++ [s.L[k]] := rfl
            rw [this, List.length_append, es_append]
            exact o6
          · rcases f6 g hg with h1 | h1
            · exact fv g h1
            · first | omega | (simp at h1; omega)
        case measure => simp [intOf]; omega
    · obtain rfl : k = s.L.length := by omega
      rw [List.take_length] at ov
      have hfl : (s.L.filter (fun e => !(e.s == x))).length ≤ s.L.length := List.length_filter_le _ _
      have kk := fresh1 HH.out ov kp fv (by omega)
      have HD : Hid (s.drop (fun e => e.s == x) = ⟨s.n, s.L.filter (fun e => !(e.s == x))⟩) := Lib.hid rfl
      clear ov fv
      generalize s.L.filter (fun e => !(e.s == x)) = M at *
      obtain ⟨A1, cap1, rfl, d1, d0, -, hn1⟩ := kk
      have HN := Lib.hid hn1
      clear hn1 hA
      go_wp2_with fail
      go_ret
      rw [HD.out]
      exact ⟨rfl, HN.out⟩
end Go.Proofs.YteognipfnbocpaaGreat.T13
namespace Go.Proofs.YteognipfnbocpaaGreat.T13
open Go.RowKit

theorem TlAt.cutTo {T : TypeId} {w : World} {F : List Nat} {p : Nat} {t : Tl} {A : Option Addr} {cap k : Nat} (g1 : TlAt T w F p t A cap) (hk1 : k ≤ t.L.length) :
    TlAt T (w.setCell ⟨p, 1, none⟩ (.slice A k cap)) F p ⟨t.n, t.L.take k⟩ A cap := by
  have hlk : (t.L.take k).length = k := by rw [List.length_take]; omega
  have hoff := g1.off
  have e1 : fp (.slice A (t.L.take k).length cap) = fp (.slice A t.L.length cap) := fp_any _ _ _ _ _
  have hb := g1.b.set_ 1 (.slice A k cap)
  have ho : w.ownsRow 0 83 4 (.slice A k cap) k (es (t.L.take k)) := by
    cases A with
    | none =>
      obtain ⟨z1, z2⟩ := own_cutNil g1.o
      obtain rfl : k = 0 := by omega
      subst z2
      exact World.ownsRow_nil _ _ _ _
    | some a =>
      by_cases hl0 : 0 < t.L.length
      · obtain ⟨_, _, hv, -, -, hA⟩ := own_shape g1.o
        obtain ⟨g, hg⟩ := hA hl0
        injection hv with hv1
        rw [← hv1] at hg
        injection hg with hg
        subst hg
        exact own_cutTo g1.o hk1
      · obtain rfl : k = t.L.length := by omega
        rw [List.take_length]
        exact g1.o
  have ho2 : (w.setCell ⟨p, 1, none⟩ (.slice A k cap)).ownsRow 0 83 4 (.slice A k cap) k (es (t.L.take k)) := own_far ho (by rw [fp_any A k cap t.L.length cap]; exact hoff) _
  have hm := g1.m
  exact ⟨by rw [e1]; exact g1.f, by simp only [hlk]; exact hb, by simp only [hlk]; exact ho2, by simp only [hlk]; omega, g1.t⟩
theorem TlAt.drew {T : TypeId} {w : World} {F : List Nat} {p : Nat} {t : Tl} {A : Option Addr} {cap : Nat} (g1 : TlAt T w F p t A cap) (n : Nat) : TlAt T (w.drewN n) F p t A cap := ⟨g1.f, g1.b, g1.o, g1.m, g1.t⟩
theorem TlAt.drew1 {T : TypeId} {w : World} {F : List Nat} {p : Nat} {t : Tl} {A : Option Addr} {cap : Nat} (g1 : TlAt T w F p t A cap) : TlAt T w.drew F p t A cap := ⟨g1.f, g1.b, g1.o, g1.m, g1.t⟩
theorem Next.trans {T : TypeId} {w w1 w2 : World} {F F1 : List Nat} {p : Nat} {t : Tl} (k : Keeps F w w1) (f : ∀ g ∈ F1, g ∈ F ∨ w.heap.size ≤ g) (n : Next T w1 w2 F1 p t) : Next T w w2 F p t := by
  obtain ⟨F2, r, k2, f2⟩ := n
  exact ⟨F2, r, k.trans k2 f, fun g hg => (f2 g hg).elim (f g) (fun h => .inr (Nat.le_trans k.size h))⟩

def theRegion (k : Nat) : Code → Option Code
  | .region id ops d => if id == k then some (.region id ops d) else none
  | .seq a b => match theRegion k a with
    | some c => some c
    | none => theRegion k b
  | .cond _ a b => match theRegion k a with
    | some c => some c
    | none => theRegion k b
  | .block _ c => theRegion k c
  | .loop c => theRegion k c
  | .scope c => theRegion k c
  | _ => none

noncomputable def freg5 : Code := ((Tryz.f61.body.bind (theRegion 5)).getD .skip)
set_option maxRecDepth 1000000 in
set_option maxHeartbeats 3200000 in
theorem freg5_any (w : World) (p n l cap k : Nat) (A : Option Addr) (K : Exit → Act → World → Prop)
    (c0 : w.cell? ⟨p, 0, none⟩ = some (.int .i64 n)) (c1 : w.cell? ⟨p, 1, none⟩ = some (.slice A l cap)) (fz : w.frozen? ⟨p, 1, none⟩ = false)
    (hwr : IntKind.i64.wrap ((n : Int) - 1) = (k : Int)) (hk1 : (k : Int) ≤ cap) (hk0 : (0 : Int) ≤ k)
    (u1 u2 u3 u4 u5 u6 u7 u8 u9 u10 u11 u12 u13 u14 u15 u16 u17 u18 u19 u20 u21 u22 u23 u24 u25 u26 u27 u28 u29 u30 u31 u32 u33 u34 u35 u36 u37 u38 u39 u40 u41 u42 u43 u44 u45 u46 u47 u48 u49 u50 u51 u52 u53 u54 u55 u56 u57 u58 u59 u60 u61 u62 u63 u64 : Value)
    (hK : ∀ (v38 v39 v40 v41 v42 v43 v44 v45 v46 v47 v48 v49 v50 : Value), K .normal ⟨#[.pointer (some ⟨p, 0, none⟩), u1, u2, u3, u4, u5, u6, u7, u8, u9, u10, u11, u12, u13, u14, u15, u16, u17, u18, u19, u20, u21, u22, u23, u24, u25, u26, u27, u28, u29, u30, u31, u32, u33, u34, u35, u36, u37, v38, v39, v40, v41, v42, v43, v44, v45, v46, v47, v48, v49, v50, u51, u52, u53, u54, u55, u56, u57, u58, u59, u60, u61, u62, u63, u64], []⟩ (w.setCell ⟨p, 1, none⟩ (.slice A k cap)).drew) :
    Code.wp Tryz.prog freg5 K ⟨#[.pointer (some ⟨p, 0, none⟩), u1, u2, u3, u4, u5, u6, u7, u8, u9, u10, u11, u12, u13, u14, u15, u16, u17, u18, u19, u20, u21, u22, u23, u24, u25, u26, u27, u28, u29, u30, u31, u32, u33, u34, u35, u36, u37, u38, u39, u40, u41, u42, u43, u44, u45, u46, u47, u48, u49, u50, u51, u52, u53, u54, u55, u56, u57, u58, u59, u60, u61, u62, u63, u64], []⟩ w := by
  have d0 : w.drew.cell? ⟨p, 0, none⟩ = some (.int .i64 n) := c0
  have d1 : w.drew.cell? ⟨p, 1, none⟩ = some (.slice A l cap) := c1
  have fz2 : w.drew.frozen? ⟨p, 1, none⟩ = false := fz
  conv => arg 2; whnf
  dsimp only at hK ⊢
  go_region
  exact hK _ _ _ _ _ _ _ _ _ _ _ _ _
set_option maxRecDepth 100000 in
set_option maxHeartbeats 3200000 in
theorem rfill_any (w : World) (F : List Nat) (p : Nat) (s : Tl) (x : En) (hn : s.n ≤ 1000) (hd : Nd s.L) (h : TlRep 86 w F p s) :
    Calls Tryz.prog 61 #[.pointer (some ⟨p, 0, none⟩), .int .i64 x.s, .int .i64 x.p, .int .i64 x.f, .bool x.w] w fun e w' => e = .returned (.tuple #[]) ∧ Next 86 w w' F p (s.fill x) := by
  have HP := Lib.hid (rplace_any w F p s x.s x.p hn h)
  have HR := Lib.hid h
  obtain ⟨t, ht⟩ : ∃ t, t = s.drop (fun e => e.is x.s x.p) := ⟨_, rfl⟩
  have hsf : s.fill x = if s.n = 0 then t else ⟨s.n, x :: t.L.take (s.n - 1)⟩ := by rw [ht]; rfl
  have htn : t.n = s.n := by rw [ht]; rfl
  rw [← htn] at hsf
  have HS := Lib.hid hsf
  have HN := Lib.hid htn
  have HI := Lib.hid info83
  have hnn := hn
  rw [← htn] at hnn
  have hfx : ∃ z : Int, fidx (fun e => e.is x.s x.p) s.L = z := ⟨_, rfl⟩
  obtain ⟨z, hz⟩ := hfx
  rw [hz] at HP
  have HZ := Lib.hid hz
  have HT := Lib.hid ht
  have HD := Lib.hid hd
  clear h hsf htn ht hd hz
  go_enter Tryz.func61, Tryz.ntmps61
  go_wp2_with fail
  refine HP.out.mono ?_
  rintro e w1 ⟨rfl, k1⟩
  go_upto_if 16 with (fail)
  go_cut [17] from 18 to 22 (fun s17 wc => Next 86 w wc F p t)
  case first =>
    cases hf : s.L.findIdx? (fun e => e.is x.s x.p) with
    | none =>
      obtain rfl : z = -1 := by rw [← HZ.out, fidx_none hf]
      have e1 : t = s := by rw [HT.out]; unfold Tl.drop; rw [keep_filter hf]
      have n1 : Next 86 w w1 F p t := .same (by rw [e1]; exact HR.out.keep k1 (by simp)) (k1.mono (by simp))
      clear hf e1
      go_wp2_with fail
      go_meet
      case rel => exact n1
    | some k =>
      have hkl : k < s.L.length := by rw [List.findIdx?_eq_some_iff_getElem] at hf; exact hf.1
      obtain rfl : z = k := by rw [← HZ.out, fidx_some hf]
      have e1 : t = ⟨s.n, s.L.eraseIdx k⟩ := by rw [HT.out]; unfold Tl.drop; rw [erase_filter HD.out hf]
      have HE := Lib.hid e1
      have hle : (s.L.eraseIdx k).length ≤ s.n := by rw [List.length_eraseIdx_of_lt hkl]; have := HR.out.len; omega
      have hw := rwithout_any w1 F p s k hkl hn (HR.out.keep k1 (by simp))
      have HW := Lib.hid hw
      clear hf e1 hw
      go_wp2_with fail
      refine HW.out.mono ?_
      rintro e w2 ⟨v, rfl, o2, k2, f2⟩
      obtain ⟨A, cap, g1⟩ := HR.out
      have kk := fresh1 g1 o2 (k1.trans k2 (by simp)) (fun g hg => Nat.le_trans k1.size (f2 g hg)) hle
      clear g1 o2 k2 f2 HW
      obtain ⟨A1, cap1, rfl, d1, d0, -, hn1⟩ := kk
      have HN1 : Hid (Next 86 w (w2.setCell ⟨p, 1, none⟩ (.slice A1 (s.L.eraseIdx k).length cap1)) F p t) := Lib.hid (by rw [HE.out]; exact hn1)
      clear hn1 HE k1
      go_wp2_with fail
      go_meet
      case rel => exact HN1.out
  case rest =>
  have n1 := hcut
  clear hcut HP HR HZ HT HD hn k1
  obtain ⟨F1, ⟨A9, cap9, g1⟩, K1, f1⟩ := n1
  rename World => W
  have c0 : W.cell? ⟨p, 0, none⟩ = some (.int .i64 t.n) := g1.b.cell 0
  have c1 : W.cell? ⟨p, 1, none⟩ = some (.slice A9 t.L.length cap9) := g1.b.cell 1
  by_cases h0 : t.n = 0
  · have HFX := Lib.hid (HS.out.trans (if_pos h0))
    have HX := Lib.hid (show TlRep 86 W F1 p t from ⟨A9, cap9, g1⟩)
    rw [h0] at c0
    clear h0 HS HN hnn g1
    go_wp2_with fail
    refine bodyPost_ret (v := .tuple #[]) (by simp [results, Tryz.results61, go_sem]) rfl ?_
    rw [HFX.out]
    exact ⟨rfl, F1, HX.out, K1, f1⟩
  have HFX := Lib.hid (HS.out.trans (if_neg h0))
  have tz : ((t.n : Int) == 0) = false := by simp; omega
  have hcap : t.L.length ≤ cap9 := by obtain ⟨_, _, hv, h1, _, _⟩ := own_shape g1.o; injection hv with _ _ h3; omega
  have hm := g1.m
  by_cases hge : t.n ≤ t.L.length
  · obtain ⟨k, hk⟩ : ∃ k : Nat, k = t.n - 1 := ⟨_, rfl⟩
    have hge1 : decide ((t.n : Int) ≤ (t.L.length : Int)) = true := by simp; omega
    have hwr : IntKind.i64.wrap ((t.n : Int) - 1) = (k : Int) := by rw [IntKind.wrap_i64]; omega
    have HG := Lib.hid g1
    have hkl9 : k ≤ t.L.length := by omega
    have HFX2 : Hid (s.fill x = ⟨t.n, x :: t.L.take k⟩) := by rw [hk]; exact HFX
    have hk1 : (k : Int) ≤ cap9 := by omega
    have hk0 : (0 : Int) ≤ k := by omega
    have hkn : k + 1 ≤ t.n := by omega
    have HFX := HFX2
    clear HFX2 HS HN g1 hk h0
    go_wp2_with fail
    go_quiet (fail)
    have g2 := HG.out.drew nq
    have K2 := K1.drewN nq
    have f2 : ∀ g ∈ F1, g ∈ F ∨ w.heap.size ≤ g := f1
    clear HG c0 c1 K1 f1
    generalize W.drewN nq = W2 at *
    have c0 : W2.cell? ⟨p, 0, none⟩ = some (.int .i64 t.n) := g2.b.cell 0
    have c1 : W2.cell? ⟨p, 1, none⟩ = some (.slice A9 t.L.length cap9) := g2.b.cell 1
    have fz : W2.frozen? ⟨p, 1, none⟩ = false := g2.b.frozen 1
    have hp1 : p ∈ F1 := by rw [g2.f]; simp
    have K3 := (K2.trans ((Keeps.refl F1 W2).setCell (p := ⟨p, 1, none⟩) (.inl hp1) (.slice A9 k cap9)) f2).drew
    have g3 := (g2.cutTo (k := k) hkl9).drew1
    have HG := Lib.hid g3
    have HK := Lib.hid K3
    clear g2 g3 K2 K3 hp1
    go_wp2_with fail
    refine freg5_any W2 p t.n t.L.length cap9 k A9 _ c0 c1 fz hwr hk1 hk0 _ _ _ _ _ _ _ _ _ _ _ _ _ _ _ _ _ _ _ _ _ _ _ _ _ _ _ _ _ _ _ _ _ _ _ _ _ _ _ _ _ _ _ _ _ _ _ _ _ _ _ _ _ _ _ _ _ _ _ _ _ _ _ _ ?_
    intro v38 v39 v40 v41 v42 v43 v44 v45 v46 v47 v48 v49 v50
    have g5 := HG.out
    have K5 := HK.out
    have f1 := f2
    have hlk : (t.L.take k).length = k := by rw [List.length_take]; omega
    clear HG HK c0 c1 fz f2
    generalize (W2.setCell ⟨p, 1, none⟩ (.slice A9 k cap9)).drew = W5 at *
    generalize t.L.take k = L9 at *
    subst hlk
    have c1 : W5.cell? ⟨p, 1, none⟩ = some (.slice A9 L9.length cap9) := g5.b.cell 1
    have hrd : Reads (W5.alloc (.cells #[.int .i64 x.s, .int .i64 x.p, .int .i64 x.f, .bool x.w] 83)) (W5.alloc (.cells #[.int .i64 x.s, .int .i64 x.p, .int .i64 x.f, .bool x.w] 83)).heap.size 4 A9 L9.length (es L9) := reads_own (own_keep g5.o ((Keeps.refl [] W5).alloc _) (by simp))
    have HRD := Lib.hid hrd
    have hpl := g5.b.lt
    have HO1 : Hid ((W5.alloc (.cells #[.int .i64 x.s, .int .i64 x.p, .int .i64 x.f, .bool x.w] 83)).ownsRow 0 83 4 (.slice (some ⟨W5.heap.size, 0, none⟩) 1 1) 1 (ec x)) := own_of_blk (Blk.new _ _ _) (by omega) (by unfold maxLen; omega) rfl rfl
    have HG5 := Lib.hid g5
    have HK5 := Lib.hid K5
    have HF5 := Lib.hid f1
    clear hrd g5 K5 f1
    go_wp2_with (at_builtin; refine wpList_app _ rfl (.tmp 57) (.tmp 61) _ rfl 83 (.agg #[.int .i64 0, .int .i64 0, .int .i64 0, .bool false]) 4 32 Tryz.underlying49 HI.out rfl (by omega) (.slice (some ⟨W5.heap.size, 0, none⟩) 1 1) 1 (ec x) rfl (HO1.out) _ A9 L9.length cap9 _ rfl HRD.out (es_one L9) (by unfold maxLen; omega) (by omega) ?_)
    intro v6 w6 o6 k6 f6
    have kw : Keeps [] W5 w6 := ((Keeps.refl [] W5).alloc (.cells #[.int .i64 x.s, .int .i64 x.p, .int .i64 x.f, .bool x.w] 83)).trans k6 (by simp)
    have kk := fresh1 (L' := x :: L9) HG5.out (by rw [es_cons, List.length_cons, Nat.add_comm]; exact o6) kw (fun g hg => (f6 g hg).elim (fun h => by first | omega | (have := List.mem_singleton.1 h; simp at this; omega) | (have := List.mem_singleton.1 h; omega)) (fun h => by first | omega | (simp at h; omega))) (by show L9.length + 1 ≤ t.n; omega)
    obtain ⟨A1, cap1, rfl, d1, d0, -, hn1⟩ := kk
    have HN1 := Lib.hid hn1
    clear hn1 o6 k6 f6 kw HO1 HRD
    go_wp2_with fail
    go_end0
    rw [HFX.out]
    exact ⟨rfl, HN1.out.trans HK5.out HF5.out⟩
  · have hge1 : decide ((t.n : Int) ≤ (t.L.length : Int)) = false := by simp; omega
    have HFX2 : Hid (s.fill x = ⟨t.n, x :: t.L⟩) := by have := HFX.out; rw [List.take_of_length_le (by omega)] at this; exact Lib.hid this
    have HFX := HFX2
    have HG := Lib.hid g1
    have hkn : t.L.length + 1 ≤ t.n := by omega
    clear HFX2 HS HN g1 h0
    go_wp2_with fail
    go_quiet (fail)
    have g5 : TlAt 86 (W.drewN nq) F1 p ⟨t.n, t.L⟩ A9 cap9 := HG.out.drew nq
    have K5 := K1.drewN nq
    clear HG c0 c1 K1
    generalize W.drewN nq = W5 at *
    generalize t.L = L9 at *
    have c1 : W5.cell? ⟨p, 1, none⟩ = some (.slice A9 L9.length cap9) := g5.b.cell 1
    have hrd : Reads (W5.alloc (.cells #[.int .i64 x.s, .int .i64 x.p, .int .i64 x.f, .bool x.w] 83)) (W5.alloc (.cells #[.int .i64 x.s, .int .i64 x.p, .int .i64 x.f, .bool x.w] 83)).heap.size 4 A9 L9.length (es L9) := reads_own (own_keep g5.o ((Keeps.refl [] W5).alloc _) (by simp))
    have HRD := Lib.hid hrd
    have hpl := g5.b.lt
    have HO1 : Hid ((W5.alloc (.cells #[.int .i64 x.s, .int .i64 x.p, .int .i64 x.f, .bool x.w] 83)).ownsRow 0 83 4 (.slice (some ⟨W5.heap.size, 0, none⟩) 1 1) 1 (ec x)) := own_of_blk (Blk.new _ _ _) (by omega) (by unfold maxLen; omega) rfl rfl
    have HG5 := Lib.hid g5
    have HK5 := Lib.hid K5
    have HF5 := Lib.hid f1
    clear hrd g5 K5 f1
    go_wp2_with (at_builtin; refine wpList_app _ rfl (.tmp 57) (.tmp 61) _ rfl 83 (.agg #[.int .i64 0, .int .i64 0, .int .i64 0, .bool false]) 4 32 Tryz.underlying49 HI.out rfl (by omega) (.slice (some ⟨W5.heap.size, 0, none⟩) 1 1) 1 (ec x) rfl (HO1.out) _ A9 L9.length cap9 _ rfl HRD.out (es_one L9) (by unfold maxLen; omega) (by omega) ?_)
    intro v6 w6 o6 k6 f6
    have kw : Keeps [] W5 w6 := ((Keeps.refl [] W5).alloc (.cells #[.int .i64 x.s, .int .i64 x.p, .int .i64 x.f, .bool x.w] 83)).trans k6 (by simp)
    have kk := fresh1 (L' := x :: L9) HG5.out (by rw [es_cons, List.length_cons, Nat.add_comm]; exact o6) kw (fun g hg => (f6 g hg).elim (fun h => by first | omega | (have := List.mem_singleton.1 h; simp at this; omega) | (have := List.mem_singleton.1 h; omega)) (fun h => by first | omega | (simp at h; omega))) (by show L9.length + 1 ≤ t.n; omega)
    obtain ⟨A1, cap1, rfl, d1, d0, -, hn1⟩ := kk
    have HN1 := Lib.hid hn1
    clear hn1 o6 k6 f6 kw HO1 HRD
    go_wp2_with fail
    go_end0
    rw [HFX.out]
    exact ⟨rfl, HN1.out.trans HK5.out HF5.out⟩
end Go.Proofs.YteognipfnbocpaaGreat.T13
namespace Go.Proofs.YteognipfnbocpaaGreat.T13
open Go.RowKit

set_option maxRecDepth 100000 in
set_option maxHeartbeats 3200000 in
theorem rlook_any (w0 : World) (F : List Nat) (p : Nat) (s : Tl) (a b : Int) (wr : Bool) (hn : s.n ≤ 1000) (h : TlRep 86 w0 F p s) :
    Calls Tryz.prog 59 #[.pointer (some ⟨p, 0, none⟩), .int .i64 a, .int .i64 b, .bool wr] w0 fun e w' => e = .returned (.tuple #[.int .i64 (s.lookR a b wr).1, .bool (s.lookR a b wr).2]) ∧ Next 86 w0 w' F p (s.look a b wr) := by
  have HP := Lib.hid (rplace_any w0 F p s a b hn h)
  have HR := Lib.hid h
  cases hf : s.L.findIdx? (fun e => e.is a b) with
  | none =>
    rw [fidx_none hf] at HP
    have e1 : s.look a b wr = s := by unfold Tl.look Tl.hit; rw [hf]
    have e2 : s.lookR a b wr = (0, false) := by unfold Tl.lookR Tl.hit; rw [hf]
    have HE := Lib.hid (And.intro e1 e2)
    clear hf e1 e2 h
    go_enter Tryz.func59, Tryz.ntmps59
    go_wp2_with fail
    refine HP.out.mono ?_
    rintro e w1 ⟨rfl, k1⟩
    go_wp2_with fail
    go_ret2
    obtain ⟨e1, e2⟩ := HE.out
    rw [e1, e2]
    exact ⟨rfl, .same (HR.out.keep k1 (by simp)) (k1.mono (by simp))⟩
  | some k =>
  have hkl : k < s.L.length := by rw [List.findIdx?_eq_some_iff_getElem] at hf; exact hf.1
  have hgd : s.L.getD k en0 = s.L[k] := by simp [List.getD, hkl]
  rw [fidx_some hf] at HP
  have hj0 : (0 : Int) ≤ k := by omega
  have hj1 : (k : Int) < s.L.length := by omega
  have HS : Hid (∀ W, Keeps [] w0 W → TlRep 86 W F p s) := Lib.hid (fun W hW => HR.out.keep hW (by simp))
  obtain ⟨A, cap, g0⟩ := h
  obtain ⟨_, _, hv, -, -, hA⟩ := own_shape g0.o
  obtain ⟨rfl, -, rfl⟩ : A = _ ∧ s.L.length = _ ∧ cap = _ := by injection hv with h1 h2 h3; exact ⟨h1, rfl, h3⟩
  clear hv
  obtain ⟨gb, rfl⟩ := hA (by omega)
  have HG0 := Lib.hid g0
  clear hA g0
  cases hb : (wr && !s.L[k].w) with
  | true =>
    have e1 : s.look a b wr = s := by unfold Tl.look Tl.hit; rw [hf]; simp only [hgd, hb, if_true]
    have e2 : s.lookR a b wr = (0, false) := by unfold Tl.lookR Tl.hit; rw [hf]; simp only [hgd, hb, if_true]
    have HE := Lib.hid (And.intro e1 e2)
    simp only [Bool.and_eq_true, Bool.not_eq_true'] at hb
    obtain ⟨rfl, hw⟩ := hb
    clear hf e1 e2 hgd
    go_enter Tryz.func59, Tryz.ntmps59
    go_wp2_with fail
    refine HP.out.mono ?_
    rintro e w1 ⟨rfl, k1⟩
    have c1 : w1.cell? ⟨p, 1, none⟩ = some (.slice (some ⟨gb, 0, none⟩) s.L.length cap) := (HG0.out.b.keep k1 (by simp)).cell 1
    have o1 := own_keep HG0.out.o k1 (by simp)
    have x0 := own_cell o1 (j := k * 4) (u := .int .i64 s.L[k].s) (by rw [show k * 4 = k * 4 + 0 by omega, es_at hkl (by omega)]; rfl)
    have x1 := own_cell o1 (j := k * 4 + 1) (u := .int .i64 s.L[k].p) (by rw [es_at hkl (by omega)]; rfl)
    have x2 := own_cell o1 (j := k * 4 + 2) (u := .int .i64 s.L[k].f) (by rw [es_at hkl (by omega)]; rfl)
    have x3 := own_cell o1 (j := k * 4 + 3) (u := .bool s.L[k].w) (by rw [es_at hkl (by omega)]; rfl)
    rw [hw] at x3
    clear o1
    go_wp2_with fail
    go_ret2
    obtain ⟨e1, e2⟩ := HE.out
    rw [e1, e2]
    have kk : Keeps [] w0 (w1.alloc (.cells #[.int .i64 s.L[k].s, .int .i64 s.L[k].p, .int .i64 s.L[k].f, .bool false] 83)) := k1.alloc _
    exact ⟨rfl, .same (HR.out.keep kk (by simp)) (kk.mono (by simp))⟩
  | false =>
  have e1 : s.look a b wr = ⟨s.n, s.L[k] :: s.L.eraseIdx k⟩ := by unfold Tl.look Tl.hit; rw [hf]; simp only [hgd, hb, Bool.false_eq_true, if_false]
  have e2 : s.lookR a b wr = (s.L[k].f, true) := by unfold Tl.lookR Tl.hit; rw [hf]; simp only [hgd, hb, Bool.false_eq_true, if_false]
  have HE := Lib.hid (And.intro e1 e2)
  have HBB := Lib.hid hb
  clear hf e1 e2 hgd hb
  go_enter Tryz.func59, Tryz.ntmps59
  go_wp2_with fail
  refine HP.out.mono ?_
  rintro e w1 ⟨rfl, kw1⟩
  have c1 : w1.cell? ⟨p, 1, none⟩ = some (.slice (some ⟨gb, 0, none⟩) s.L.length cap) := (HG0.out.b.keep kw1 (by simp)).cell 1
  have o1 := own_keep HG0.out.o kw1 (by simp)
  have x0 := own_cell o1 (j := k * 4) (u := .int .i64 s.L[k].s) (by rw [show k * 4 = k * 4 + 0 by omega, es_at hkl (by omega)]; rfl)
  have x1 := own_cell o1 (j := k * 4 + 1) (u := .int .i64 s.L[k].p) (by rw [es_at hkl (by omega)]; rfl)
  have x2 := own_cell o1 (j := k * 4 + 2) (u := .int .i64 s.L[k].f) (by rw [es_at hkl (by omega)]; rfl)
  have x3 := own_cell o1 (j := k * 4 + 3) (u := .bool s.L[k].w) (by rw [es_at hkl (by omega)]; rfl)
  have hb : Blk (w1.alloc (.cells #[.int .i64 s.L[k].s, .int .i64 s.L[k].p, .int .i64 s.L[k].f, .bool s.L[k].w] 83)) w1.heap.size 83 #[.int .i64 s.L[k].s, .int .i64 s.L[k].p, .int .i64 s.L[k].f, .bool s.L[k].w] := Blk.new _ _ _
  have K0 : Keeps [] w0 (w1.alloc (.cells #[.int .i64 s.L[k].s, .int .i64 s.L[k].p, .int .i64 s.L[k].f, .bool s.L[k].w] 83)) := kw1.alloc _
  have hxF : ∀ g ∈ F, g ≠ w1.heap.size := fun g hg e => by have := (HS.out _ kw1).lt g hg; omega
  clear o1
  go_upto_region 5 with fail
  clear c1 x0 x1 x2 x3 kw1 HP hj0 hj1
  generalize w1.alloc (.cells #[.int .i64 s.L[k].s, .int .i64 s.L[k].p, .int .i64 s.L[k].f, .bool s.L[k].w] 83) = w at *
  generalize w1.heap.size = xb at *
  obtain ⟨x, hx⟩ : ∃ x, x = s.L[k] := ⟨_, rfl⟩
  rw [← hx] at HE HBB hb
  clear hx
  have HK0 := Lib.hid K0
  have h := HS.out _ K0
  have HC : Hid (∀ W, Keeps [] w W → Calls Tryz.prog 84 #[.pointer (some ⟨p, 0, none⟩), .int .i64 k] W fun e w' => ∃ v, e = .returned v ∧ w'.ownsRow 0 83 4 v (s.L.eraseIdx k).length (es (s.L.eraseIdx k)) ∧ Keeps [] W w' ∧ ∀ g ∈ fp v, W.heap.size ≤ g) := Lib.hid (fun W hW => rwithout_any W F p s k hkl hn (h.keep hW (by simp)))
  clear K0 HG0
  obtain ⟨A, cap, g1⟩ := h
  have HG := Lib.hid g1
  have HB := Lib.hid hb
  have HI := Lib.hid info83
  have HXF := Lib.hid hxF
  have x0 := hb.cell 0
  have x1 := hb.cell 1
  have x2 := hb.cell 2
  have x3 := hb.cell 3
  have KA : Hid (Keeps [] w (w.alloc (.cells #[.int .i64 x.s, .int .i64 x.p, .int .i64 x.f, .bool x.w] 83)).drew) := Lib.hid (((Keeps.refl [] w).alloc _).drew)
  have KB : Hid (Keeps [] w w.drew) := Lib.hid ((Keeps.refl [] w).drew)
  have P1 := Lib.hid (es_one (s.L.eraseIdx k))
  have hle : (s.L.eraseIdx k).length + 1 = s.L.length := by rw [List.length_eraseIdx_of_lt hkl]; omega
  have hm := g1.m
  have h63 : 1 + (s.L.eraseIdx k).length ≤ maxLen := by unfold maxLen; omega
  have HL : Hid ((x :: s.L.eraseIdx k).length ≤ s.n) := Lib.hid (by simp only [List.length_cons]; omega)
  have HW : Hid (∀ (v : Value) (W : World), W.ownsRow 0 83 4 v (1 + (s.L.eraseIdx k).length) (ec x ++ es (s.L.eraseIdx k)) → W.ownsRow 0 83 4 v (x :: s.L.eraseIdx k).length (es (x :: s.L.eraseIdx k))) := Lib.hid (fun v W h => by rw [es_cons, List.length_cons, Nat.add_comm]; exact h)
  have HOA : Hid (∀ W, Keeps [] (w.alloc (.cells #[.int .i64 x.s, .int .i64 x.p, .int .i64 x.f, .bool x.w] 83)).drew W → W.ownsRow 0 83 4 (.slice (some ⟨w.heap.size, 0, none⟩) 1 1) 1 (ec x)) := Lib.hid (fun W hW => own_of_blk ((Blk.new w 83 #[.int .i64 x.s, .int .i64 x.p, .int .i64 x.f, .bool x.w]).drew.keep hW (by simp)) (by omega) (by unfold maxLen; omega) rfl rfl)
  have HOB : Hid (∀ W : World, (W.alloc (.cells #[.int .i64 x.s, .int .i64 x.p, .int .i64 x.f, .bool x.w] 83)).ownsRow 0 83 4 (.slice (some ⟨W.heap.size, 0, none⟩) 1 1) 1 (ec x)) := Lib.hid (fun W => own_of_blk (Blk.new W 83 #[.int .i64 x.s, .int .i64 x.p, .int .i64 x.f, .bool x.w]) (by omega) (by unfold maxLen; omega) rfl rfl)
  have HRB : Hid (∀ (W : World) (A1 : Option Addr) (c1 : Nat), W.ownsRow 0 83 4 (.slice A1 (s.L.eraseIdx k).length c1) (s.L.eraseIdx k).length (es (s.L.eraseIdx k)) → Reads (W.alloc (.cells #[.int .i64 x.s, .int .i64 x.p, .int .i64 x.f, .bool x.w] 83)) (W.alloc (.cells #[.int .i64 x.s, .int .i64 x.p, .int .i64 x.f, .bool x.w] 83)).heap.size 4 A1 (s.L.eraseIdx k).length (es (s.L.eraseIdx k))) := Lib.hid (fun W A1 c1 o => reads_own (own_keep o ((Keeps.refl [] W).alloc _) (by simp)))
  have HFB : Hid (∀ W : World, w.heap.size ≤ W.heap.size → ∀ g ∈ fp (.slice (some ⟨W.heap.size, 0, none⟩) 1 1), w.heap.size ≤ g) := Lib.hid (fun W hW g hg => by rw [List.mem_singleton.1 hg]; exact hW)
  have hpl := g1.b.lt
  have hsz1 : (s.L.eraseIdx k).length ≤ 1000 := by omega
  clear g1 hb hle hxF
  cases wr with
  | false =>
    go_wp2_with fail
    go_region_law (first
      | (refine step_app (by rfl) (.tmp 33) (.tmp 36) 49 (by rfl) 83 (.agg #[.int .i64 0, .int .i64 0, .int .i64 0, .bool false]) 4 32 Tryz.underlying49 HI.out rfl (by omega) (.slice (some ⟨w.heap.size, 0, none⟩) 1 1) 1 (ec x) ?_ oA _ A1 (s.L.eraseIdx k).length c1 (es (s.L.eraseIdx k)) ?_ (reads_own o1) P1.out h63 (by omega) (fun v2 w2 ho2 hk2 hf2 => ?_); (focus (first | (simp [Act.eval]; done) | (simp [Act.eval, Act.put]; done))); (focus (first | (simp [Act.eval]; done) | (simp [Act.eval, Act.put]; done))); have kk := fresh1 (L' := x :: s.L.eraseIdx k) HG.out (HW.out _ _ ho2) (kk1.trans hk2 (fun g hg => .inr ((fun g (hg : g ∈ fp (.slice (some ⟨w.heap.size, 0, none⟩) 1 1)) => Nat.le_of_eq (List.mem_singleton.1 hg).symm) g hg))) (fun g hg => (hf2 g hg).elim ((fun g (hg : g ∈ fp (.slice (some ⟨w.heap.size, 0, none⟩) 1 1)) => Nat.le_of_eq (List.mem_singleton.1 hg).symm) g) (fun h => Nat.le_trans kk1.size h)) HL.out; obtain ⟨A3, cap3, rfl, d1, d0, hsz, hn⟩ := kk; have HN := Lib.hid hn; clear hn)
      | (refine step_app (by rfl) (.tmp 33) (.tmp 36) 49 (by rfl) 83 (.agg #[.int .i64 0, .int .i64 0, .int .i64 0, .bool false]) 4 32 Tryz.underlying49 HI.out rfl (by omega) (.slice (some ⟨w1.heap.size, 0, none⟩) 1 1) 1 (ec x) ?_ (HOB.out w1) _ A1 (s.L.eraseIdx k).length c1 (es (s.L.eraseIdx k)) ?_ (HRB.out w1 A1 c1 o1) P1.out h63 (by omega) (fun v2 w2 ho2 hk2 hf2 => ?_); (focus (first | (simp [Act.eval]; done) | (simp [Act.eval, Act.put]; done))); (focus (first | (simp [Act.eval]; done) | (simp [Act.eval, Act.put]; done))); have kk := fresh1 (L' := x :: s.L.eraseIdx k) HG.out (HW.out _ _ ho2) ((kk1.alloc (.cells #[.int .i64 x.s, .int .i64 x.p, .int .i64 x.f, .bool x.w] 83)).trans hk2 (fun g hg => .inr ((HFB.out w1 zz) g hg))) (fun g hg => (hf2 g hg).elim ((HFB.out w1 zz) g) (fun h => Nat.le_trans (kk1.alloc (.cells #[.int .i64 x.s, .int .i64 x.p, .int .i64 x.f, .bool x.w] 83)).size h)) HL.out; obtain ⟨A3, cap3, rfl, d1, d0, hsz, hn⟩ := kk; have HN := Lib.hid hn; clear hn)
      | (refine step_call rfl 84 _ _ rfl #[.pointer (some ⟨p, 0, none⟩), .int .i64 k] (by first | (simp [Act.eval]; done) | (simp [Act.eval, Act.put]; done)) (enters_of Tryz.func84 (by kernel_rfl) rfl) (HC.out _ KA.out) ?_; rintro e w1 ⟨v, rfl, o1, k1, f1⟩; refine ⟨_, rfl, ?_⟩; obtain ⟨A1, c1, rfl, -, -, -⟩ := own_shape o1; have kk1 := KA.out.trans k1 (by simp); have yb := HB.out.keep kk1 (by simp); have y0 := yb.cell 0; have y1 := yb.cell 1; have y2 := yb.cell 2; have y3 := yb.cell 3; have zz := kk1.size; have ff := Lib.hid (fun g (hg : g ∈ fp (.slice A1 (s.L.eraseIdx k).length c1)) => Nat.le_trans KA.out.size (f1 g hg)); clear yb; have oA := HOA.out _ k1)
      | (refine step_call rfl 84 _ _ rfl #[.pointer (some ⟨p, 0, none⟩), .int .i64 k] (by first | (simp [Act.eval]; done) | (simp [Act.eval, Act.put]; done)) (enters_of Tryz.func84 (by kernel_rfl) rfl) (HC.out _ KB.out) ?_; rintro e w1 ⟨v, rfl, o1, k1, f1⟩; refine ⟨_, rfl, ?_⟩; obtain ⟨A1, c1, rfl, -, -, -⟩ := own_shape o1; have kk1 := KB.out.trans k1 (by simp); have yb := HB.out.keep kk1 (by simp); have y0 := yb.cell 0; have y1 := yb.cell 1; have y2 := yb.cell 2; have y3 := yb.cell 3; have zz := kk1.size; have ff := Lib.hid (fun g (hg : g ∈ fp (.slice A1 (s.L.eraseIdx k).length c1)) => Nat.le_trans KB.out.size (f1 g hg)); clear yb))
    all_goals
      obtain ⟨F3, r3, k3, f3⟩ := HN.out
      have b3 := HB.out.keep k3 (fun h => HXF.out xb h rfl)
      have HN3 := Lib.hid (And.intro r3 (And.intro k3 f3))
      clear HN r3 k3 f3
      generalize hw3 : World.setCell _ _ _ = w3 at *
      clear hw3
      have y2 := b3.cell 2
      go_wp2_with fail
      go_ret2
      obtain ⟨e1, e2⟩ := HE.out
      obtain ⟨r3, k3, f3⟩ := HN3.out
      rw [e1, e2]
      exact ⟨rfl, F3, r3, (HK0.out.mono (by simp)).trans k3 (fun g hg => .inl hg), fun g hg => (f3 g hg).imp_right (Nat.le_trans HK0.out.size)⟩
  | true =>
    have t1 : (!x.w) = false := by simpa using HBB.out
    go_wp2_with fail
    go_region_law (first
      | (refine step_app (by rfl) (.tmp 33) (.tmp 36) 49 (by rfl) 83 (.agg #[.int .i64 0, .int .i64 0, .int .i64 0, .bool false]) 4 32 Tryz.underlying49 HI.out rfl (by omega) (.slice (some ⟨w.heap.size, 0, none⟩) 1 1) 1 (ec x) ?_ oA _ A1 (s.L.eraseIdx k).length c1 (es (s.L.eraseIdx k)) ?_ (reads_own o1) P1.out h63 (by omega) (fun v2 w2 ho2 hk2 hf2 => ?_); (focus (first | (simp [Act.eval]; done) | (simp [Act.eval, Act.put]; done))); (focus (first | (simp [Act.eval]; done) | (simp [Act.eval, Act.put]; done))); have kk := fresh1 (L' := x :: s.L.eraseIdx k) HG.out (HW.out _ _ ho2) (kk1.trans hk2 (fun g hg => .inr ((fun g (hg : g ∈ fp (.slice (some ⟨w.heap.size, 0, none⟩) 1 1)) => Nat.le_of_eq (List.mem_singleton.1 hg).symm) g hg))) (fun g hg => (hf2 g hg).elim ((fun g (hg : g ∈ fp (.slice (some ⟨w.heap.size, 0, none⟩) 1 1)) => Nat.le_of_eq (List.mem_singleton.1 hg).symm) g) (fun h => Nat.le_trans kk1.size h)) HL.out; obtain ⟨A3, cap3, rfl, d1, d0, hsz, hn⟩ := kk; have HN := Lib.hid hn; clear hn)
      | (refine step_app (by rfl) (.tmp 33) (.tmp 36) 49 (by rfl) 83 (.agg #[.int .i64 0, .int .i64 0, .int .i64 0, .bool false]) 4 32 Tryz.underlying49 HI.out rfl (by omega) (.slice (some ⟨w1.heap.size, 0, none⟩) 1 1) 1 (ec x) ?_ (HOB.out w1) _ A1 (s.L.eraseIdx k).length c1 (es (s.L.eraseIdx k)) ?_ (HRB.out w1 A1 c1 o1) P1.out h63 (by omega) (fun v2 w2 ho2 hk2 hf2 => ?_); (focus (first | (simp [Act.eval]; done) | (simp [Act.eval, Act.put]; done))); (focus (first | (simp [Act.eval]; done) | (simp [Act.eval, Act.put]; done))); have kk := fresh1 (L' := x :: s.L.eraseIdx k) HG.out (HW.out _ _ ho2) ((kk1.alloc (.cells #[.int .i64 x.s, .int .i64 x.p, .int .i64 x.f, .bool x.w] 83)).trans hk2 (fun g hg => .inr ((HFB.out w1 zz) g hg))) (fun g hg => (hf2 g hg).elim ((HFB.out w1 zz) g) (fun h => Nat.le_trans (kk1.alloc (.cells #[.int .i64 x.s, .int .i64 x.p, .int .i64 x.f, .bool x.w] 83)).size h)) HL.out; obtain ⟨A3, cap3, rfl, d1, d0, hsz, hn⟩ := kk; have HN := Lib.hid hn; clear hn)
      | (refine step_call rfl 84 _ _ rfl #[.pointer (some ⟨p, 0, none⟩), .int .i64 k] (by first | (simp [Act.eval]; done) | (simp [Act.eval, Act.put]; done)) (enters_of Tryz.func84 (by kernel_rfl) rfl) (HC.out _ KA.out) ?_; rintro e w1 ⟨v, rfl, o1, k1, f1⟩; refine ⟨_, rfl, ?_⟩; obtain ⟨A1, c1, rfl, -, -, -⟩ := own_shape o1; have kk1 := KA.out.trans k1 (by simp); have yb := HB.out.keep kk1 (by simp); have y0 := yb.cell 0; have y1 := yb.cell 1; have y2 := yb.cell 2; have y3 := yb.cell 3; have zz := kk1.size; have ff := Lib.hid (fun g (hg : g ∈ fp (.slice A1 (s.L.eraseIdx k).length c1)) => Nat.le_trans KA.out.size (f1 g hg)); clear yb; have oA := HOA.out _ k1)
      | (refine step_call rfl 84 _ _ rfl #[.pointer (some ⟨p, 0, none⟩), .int .i64 k] (by first | (simp [Act.eval]; done) | (simp [Act.eval, Act.put]; done)) (enters_of Tryz.func84 (by kernel_rfl) rfl) (HC.out _ KB.out) ?_; rintro e w1 ⟨v, rfl, o1, k1, f1⟩; refine ⟨_, rfl, ?_⟩; obtain ⟨A1, c1, rfl, -, -, -⟩ := own_shape o1; have kk1 := KB.out.trans k1 (by simp); have yb := HB.out.keep kk1 (by simp); have y0 := yb.cell 0; have y1 := yb.cell 1; have y2 := yb.cell 2; have y3 := yb.cell 3; have zz := kk1.size; have ff := Lib.hid (fun g (hg : g ∈ fp (.slice A1 (s.L.eraseIdx k).length c1)) => Nat.le_trans KB.out.size (f1 g hg)); clear yb))
    all_goals
      obtain ⟨F3, r3, k3, f3⟩ := HN.out
      have b3 := HB.out.keep k3 (fun h => HXF.out xb h rfl)
      have HN3 := Lib.hid (And.intro r3 (And.intro k3 f3))
      clear HN r3 k3 f3
      generalize hw3 : World.setCell _ _ _ = w3 at *
      clear hw3
      have y2 := b3.cell 2
      go_wp2_with fail
      go_ret2
      obtain ⟨e1, e2⟩ := HE.out
      obtain ⟨r3, k3, f3⟩ := HN3.out
      rw [e1, e2]
      exact ⟨rfl, F3, r3, (HK0.out.mono (by simp)).trans k3 (fun g hg => .inl hg), fun g hg => (f3 g hg).imp_right (Nat.le_trans HK0.out.size)⟩
end Go.Proofs.YteognipfnbocpaaGreat.T13
