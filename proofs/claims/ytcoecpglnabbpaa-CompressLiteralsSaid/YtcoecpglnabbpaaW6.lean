/- Pack. -/
import Derived.Test.YtcoecpglnabbpaaW5
namespace Go.Proofs.Ytcoecpglnabbpaa
open Go.RowKit Go.Shelf
attribute [local go_sem] Oper.semAt_some

theorem isB_own {B b : Nat} {bs : List Value} {W W' : World} {row : Option Nat} (h : Lib.IsBuilderF 34 5 B b bs W) (hg : W.grownBy W' row) (hr : ∀ r, row = some r → ∃ o, W.heap[r]? = some o ∧ o.isCells = false) : Lib.IsBuilderF 34 5 B b bs W' := by
  have key : ∀ p, Lib.BuilderAtF 34 5 B b p bs W → Lib.BuilderAtF 34 5 B b p bs W' := by
    rintro p ⟨hB, v, hb, ho, hne⟩
    refine ⟨hB, v, grownBy_block hb hg (fun e => ?_), ho.kept hg ?_, hne⟩
    · obtain ⟨o, h1, h2⟩ := hr b e
      rw [hb] at h1
      injection h1 with h1
      subst h1
      simp [Obj.isCells] at h2
    · rcases ho.2 with ⟨rfl, _⟩ | ⟨g, cap, cur, fz, rfl, _, hgg, _⟩
      · exact .inl rfl
      · right
        intro e
        obtain ⟨o, h1, h2⟩ := hr g (by rw [← e]; rfl)
        rw [hgg] at h1
        injection h1 with h1
        subst h1
        simp [Obj.isCells] at h2
  exact h.imp (key _) (key _)
theorem others_keeps {b : Nat} {W W' : World} {cs : Array Value} {t : TypeId} (hsz : W.heap.size ≤ W'.heap.size) (hb : W.heap[b]? = some (.cells cs t (0, 0))) (h : Lib.OthersKept 5 (some b) W W') : KeepsOthers W W' :=
  ⟨hsz, fun k o hk ho => h k o hk (fun e => by
    injection e with e
    subst e
    rw [hb] at hk
    injection hk with hk
    subst hk
    simp [Obj.isCells] at ho) (fun c fz e => by subst e; simp [Obj.isCells] at ho)⟩
/-- Pack's two results. -/
def packR (l : Bs) : Bs × Bool := match packP l with
  | some t => (t, true)
  | none => ([], false)
theorem enc_len (x : Bs × Bool) : (enc x).length ≤ x.1.length + 2 := by
  obtain ⟨p, b⟩ := x
  cases b <;> simp [enc]
theorem flat_len (pre : List GP) : ((pre.map (·.1)).flatMap enc).length ≤ pre.length * 66 := by
  induction pre with
  | nil => simp
  | cons x r ih =>
    have h1 := enc_len x.1
    have h2 := x.2.2
    simp only [List.map_cons, List.flatMap_cons, List.length_append, List.length_cons]
    omega
theorem pieces_len : ∀ (n : Nat) (l : Bs), l.length ≤ n → (pieces l).length ≤ n := by
  intro n
  induction n with
  | zero => intro l h; obtain rfl : l = [] := List.eq_nil_of_length_eq_zero (by omega); rw [pieces_nil]; simp
  | succ n ih =>
    intro l h
    cases l with
    | nil => rw [pieces_nil]; simp
    | cons a r =>
      rw [pieces_cons]
      have h1 := hd_pos (a := a) (r := r)
      have := ih ((a :: r).drop (hd (a :: r))) (by simp only [List.length_drop]; omega)
      simp only [List.length_cons]
      omega
theorem flat_snoc (pre : List GP) (x : GP) : ((pre ++ [x]).map (·.1)).flatMap enc = (pre.map (·.1)).flatMap enc ++ enc x.1 := by simp
/-- The builder's state between two rounds. -/
structure PI (w : World) (s : ByteArray) (pre : List GP) (W : World) : Prop where
  b : Lib.IsBuilderF 34 5 w.heap.size w.heap.size (Lib.byteCells ((pre.map (·.1)).flatMap enc)) W
  p : W.heap[w.heap.size + 1]? = some (.cells #[.string s] 9 (0, 0))
  k : Below w.heap.size w W
theorem PI.own {w : World} {s : ByteArray} {B : Nat} (hB : w.heap.size ≤ B) : OwnFrom B (PI w s) := fun _ _ _ _ h hg hr =>
  ⟨isB_own h.b hg (fun r e => (hr r e).2), grownBy_block h.p hg (fun e => by
    obtain ⟨_, o, h1, h2⟩ := hr _ e
    rw [h.p] at h1
    injection h1 with h1
    subst h1
    simp [Obj.isCells] at h2), h.k.grown hg h.k.size (fun k e => Nat.le_trans hB (hr k e).1)⟩
/-- One write. -/
theorem PI.write {w : World} {s : ByteArray} {bs : List Value} {W W' : World} (hp : W.heap[w.heap.size + 1]? = some (.cells #[.string s] 9 (0, 0))) (hk : Below w.heap.size w W)
    (hb : Lib.IsBuilderF 34 5 w.heap.size w.heap.size bs W) (hB : Below w.heap.size W W') (ho : Lib.OthersKept 5 (some w.heap.size) W W') :
    W'.heap[w.heap.size + 1]? = some (.cells #[.string s] 9 (0, 0)) ∧ Below w.heap.size w W' ∧ KeepsOthers W W' ∧ Kp (w.heap.size + 1) W W' := by
  have h := ho _ _ hp (fun e => by injection e with e; omega) (fun c fz e => by cases e)
  obtain ⟨v, cs, t, hbk⟩ : ∃ (v : Value) (cs : Array Value) (t : TypeId), W.heap[w.heap.size]? = some (.cells cs t (0, 0)) := by
    rcases hb with ⟨_, v, hb, _⟩ | ⟨_, v, hb, _⟩
    · exact ⟨v, _, _, hb⟩
    · exact ⟨v, _, _, hb⟩
  exact ⟨h, hk.trans hB, others_keeps hB.size hbk ho, h.trans hp.symm⟩
set_option maxHeartbeats 6400000 in
set_option maxRecDepth 100000 in
theorem pack_64 (w : World) (s : ByteArray) (hs : s.size = 64) : Calls Try.prog 8 #[.string s] w fun e w' => e = .returned (.tuple #[.string ⟨(packR (bys s)).1.toArray⟩, .bool (packR (bys s)).2]) ∧ Below w.heap.size w w' := by
  refine (callsIn_wide (n := 5)).1 ?_
  refine callsIn_of_wp_marks Try.func8 rfl trivial ?_ rfl
  simp only [Try.ntmps8, List.size_toArray, List.length_cons, List.length_nil, Nat.reduceAdd, Nat.reduceSub, Array.replicate_succ, Array.replicate_zero, List.push_toArray, List.append_toArray, List.nil_append, List.cons_append]
  have hs2 : (s.size : Int) = 64 := by omega
  have ts : ((s.size : Int) != 64) = false := by simp [hs2]
  clear hs2
  have HS := Lib.hid hs
  clear hs
  gi_wp2_with fail
  refine ⟨trivial, ?_⟩
  refine (callsIn_wide.2 (pieces_any _ s)).mono ?_
  rintro e w' ⟨rfl, rfl⟩
  gi_wp2_with fail
  have hpg : ((w.alloc (.cells #[.pointer none, .slice none 0 0] 34)).alloc (.cells #[.string s] 9)).heap[w.heap.size + 1]? = some (.cells #[.string s] 9 (0, 0)) := by
    have := World.alloc_heap_new (w.alloc (.cells #[.pointer none, .slice none 0 0] 34)) (.cells #[.string s] 9)
    rwa [World.size_alloc] at this
  have hbl : ((w.alloc (.cells #[.pointer none, .slice none 0 0] 34)).alloc (.cells #[.string s] 9)).heap[w.heap.size]? = some (.cells #[.pointer none, .slice none 0 0] 34 (0, 0)) :=
    (Below.heap_alloc _ _ _ (by simp)).trans (World.alloc_heap_new w _)
  have hbw : Below w.heap.size w ((w.alloc (.cells #[.pointer none, .slice none 0 0] 34)).alloc (.cells #[.string s] 9)) := ((Below.refl _ w).alloc (Nat.le_refl _) _).alloc (by simp) _
  have hsz : ((w.alloc (.cells #[.pointer none, .slice none 0 0] 34)).alloc (.cells #[.string s] 9)).heap.size = w.heap.size + 2 := by simp
  refine wpIn_rangeFunc_ownF rfl (by omega) (gf := 19) (lb := #[.pointer (some ⟨w.heap.size + 1, 0, none⟩)]) rfl trivial (enters_of Try.func19 (by kernel_rfl) rfl)
    (pieces_stops 4 (by omega) (w.heap.size + 1) s HS.out _ hpg) (fun h k => k.trans h) (fun W l o o' hl h ho hw => World.putObj_heap_other (by rw [hsz] at hl; omega)) (Below.refl _ _) (fun _ => rfl)
    (PI w s) (fun _ _ _ => False) (PI.own (by rw [hsz]; omega)) (fun _ _ _ _ _ hs _ _ => hs)
    ⟨.inl ⟨Nat.le_refl _, .slice none 0 0, hbl, World.ownsRowF_nil _ _ _ _, by simp [Value.ownBlock]⟩, hpg, hbw⟩
    (fun x => { tmps := #[.string s, undef, .string ⟨#[]⟩, .bool false, .pointer (some ⟨w.heap.size, 0, none⟩), .string ⟨x.1.1.toArray⟩, .bool x.1.2, .string s, .int .i64 s.size, .bool false, .string s, .func (.func 19) #[] #[.pointer (some ⟨w.heap.size + 1, 0, none⟩)], .string ⟨x.1.1.toArray⟩, .bool x.1.2, undef, undef, undef, undef, undef, undef, undef, undef, undef, undef, undef, undef, undef, undef, undef, undef, undef, undef], defers := [] }) ?assign ?body ?done ?stop
  case assign =>
    intro l x W K hK
    unfold encs
    gi_wp2
    exact hK
  case body =>
    rintro l pre ⟨⟨p, is⟩, hg1, hg2⟩ W ⟨hb, hp, hk⟩ hlen
    clear hpg hbl hbw hsz ts
    have hN : (pieces (bys s)).length ≤ 64 := pieces_len 64 (bys s) (by have := HS.out; simp; omega)
    have hfl := flat_len pre
    have hL : (Lib.byteCells ((pre.map (·.1)).flatMap enc)).length ≤ 4300 := by rw [Lib.byteCells_length]; omega
    have hW0 := hk.size
    have hsn := flat_snoc pre ⟨(p, is), hg1, hg2⟩
    obtain ⟨t, ht⟩ : ∃ t : ByteArray, t = ⟨p.toArray⟩ := ⟨_, rfl⟩
    have htl : t.size = p.length := by rw [ht]; exact List.size_toArray
    have hbp : bys t = p := by rw [ht]
    have ht1 : 1 ≤ t.size := by have : 1 ≤ p.length := hg1; omega
    have ht2 : t.size ≤ 64 := by have : p.length ≤ 64 := hg2; omega
    have HSN := Lib.hid hsn
    have HBP := Lib.hid hbp
    have HTL := Lib.hid htl
    clear hN hfl hsn hbp htl hlen
    generalize hF : (pre.map (·.1)).flatMap enc = Fl at *
    clear hF
    cases is with
    | true =>
      have hq0 : ((128 : Int) + t.size) ≤ 255 := by omega
      show Code.wpIn _ _ _ _ _ { tmps := #[.string s, undef, .string ⟨#[]⟩, .bool false, .pointer (some ⟨w.heap.size, 0, none⟩), .string ⟨p.toArray⟩, .bool true, .string s, .int .i64 s.size, .bool false, .string s, .func (.func 19) #[] #[.pointer (some ⟨w.heap.size + 1, 0, none⟩)], .string ⟨p.toArray⟩, .bool true, undef, undef, undef, undef, undef, undef, undef, undef, undef, undef, undef, undef, undef, undef, undef, undef, undef, undef], defers := [] } W
      rw [← ht]
      clear ht
      gi_wp2_with fail
      refine ⟨trivial, ?_⟩
      refine (CallsIn.inRound l (callsIn_wide.2 (WriteByte_k w.heap.size w.heap.size _ (128 + t.size) W hb (by omega) hW0))).mono ?_
      rintro e W1 ⟨rfl, h1, hB1, ho1⟩
      obtain ⟨hp1, hk1, ko1, kp1⟩ := PI.write hp hk hb hB1 ho1
      have hW1 := hk1.size
      have hL1 : (Lib.byteCells Fl ++ [Value.int .u8 (128 + t.size)]).length ≤ 4301 := by simp; omega
      have ha0 : (0 : Int) < t.size := by omega
      have HW := Lib.hid (And.intro hp1 (And.intro hk1 (And.intro ko1 kp1)))
      clear hp hk hb hB1 ho1 hp1 hk1 ko1 kp1
      gi_wp2_with fail
      refine ⟨trivial, ?_⟩
      refine (CallsIn.inRound l (callsIn_wide.2 (WriteByte_k w.heap.size w.heap.size _ _ W1 (.inr h1) (by omega) hW1))).mono ?_
      rintro e W2 ⟨rfl, h2, hB2, ho2⟩
      obtain ⟨hp1, hk1, ko1, kp1⟩ := HW.out
      obtain ⟨hp2, hk2, ko2, kp2⟩ := PI.write hp1 hk1 (.inr h1) hB2 ho2
      gi_wp2
      refine ⟨ko1.trans ko2, kp2.trans kp1, ⟨.inr ?_, hp2, hk2⟩⟩
      rw [HSN.out, Lib.byteCells_append]
      have hh : (p.headD 0).toNat = (t[0]'(by omega)).toNat := by
        rw [← HBP.out]
        have := bys_at t 0 (by omega)
        rw [List.headD_eq_head?_getD, List.head?_eq_getElem?, this]
        rfl
      have hn : (UInt8.ofNat (128 + p.length)).toNat = 128 + p.length := toNat_ofNat (by have := HTL.out; omega)
      have he : Lib.byteCells (enc (p, true)) = [.int .u8 (128 + t.size), .int .u8 ((t[0]'(by omega)).toNat)] := by
        simp only [enc, Lib.byteCells, List.map_cons, List.map_nil, hn, hh, HTL.out]
        simp
      rw [he]
      simpa using h2
    | false =>
      have hq0 : (t.size : Int) ≤ 255 := by omega
      show Code.wpIn _ _ _ _ _ { tmps := #[.string s, undef, .string ⟨#[]⟩, .bool false, .pointer (some ⟨w.heap.size, 0, none⟩), .string ⟨p.toArray⟩, .bool false, .string s, .int .i64 s.size, .bool false, .string s, .func (.func 19) #[] #[.pointer (some ⟨w.heap.size + 1, 0, none⟩)], .string ⟨p.toArray⟩, .bool false, undef, undef, undef, undef, undef, undef, undef, undef, undef, undef, undef, undef, undef, undef, undef, undef, undef, undef], defers := [] } W
      rw [← ht]
      clear ht
      gi_wp2_with fail
      refine ⟨trivial, ?_⟩
      refine (CallsIn.inRound l (callsIn_wide.2 (WriteByte_k w.heap.size w.heap.size _ t.size W hb (by omega) hW0))).mono ?_
      rintro e W1 ⟨rfl, h1, hB1, ho1⟩
      obtain ⟨hp1, hk1, ko1, kp1⟩ := PI.write hp hk hb hB1 ho1
      have hW1 := hk1.size
      have hL1 : (Lib.byteCells Fl ++ [Value.int .u8 t.size]).length ≤ 4301 := by simp; omega
      have HW := Lib.hid (And.intro hp1 (And.intro hk1 (And.intro ko1 kp1)))
      clear hp hk hb hB1 ho1 hp1 hk1 ko1 kp1
      gi_wp2_with fail
      refine ⟨trivial, ?_⟩
      refine (CallsIn.inRound l (callsIn_wide.2 (WriteString_k w.heap.size w.heap.size _ t W1 (.inr h1) (by omega) hW1))).mono ?_
      rintro e W2 ⟨rfl, h2, hB2, ho2⟩
      obtain ⟨hp1, hk1, ko1, kp1⟩ := HW.out
      obtain ⟨hp2, hk2, ko2, kp2⟩ := PI.write hp1 hk1 (.inr h1) hB2 ho2
      gi_wp2
      refine ⟨ko1.trans ko2, kp2.trans kp1, ⟨.inr ?_, hp2, hk2⟩⟩
      rw [HSN.out, Lib.byteCells_append]
      have hn : (UInt8.ofNat p.length).toNat = p.length := toNat_ofNat (by have := HTL.out; omega)
      have he : Lib.byteCells (enc (p, false)) = .int .u8 t.size :: Lib.strCells t := by
        rw [Lib.strCells_eq, show t.data.toList = p from HBP.out]
        simp only [enc, Lib.byteCells, List.map_cons, hn, HTL.out]
      rw [he]
      simpa using h2
  case done =>
    rintro D ys W hD hS ⟨hb, hp, hk⟩ hK
    rw [hsz] at hD
    rw [hS] at hb
    have hf0 : Lib.IsBuilderF 34 5 w.heap.size w.heap.size (Lib.byteCells (form (bys s))) W := hb
    have HB := Lib.hid hf0
    have HLEN : Hid ((Lib.byteCells (form (bys s))).length = (form (bys s)).length) := Lib.hid (Lib.byteCells_length _)
    have hslen : (bys s).length = 64 := by have := HS.out; simp; omega
    have HR : Hid (packR (bys s) = if (form (bys s)).length ≤ 47 then (form (bys s), true) else ([], false)) := Lib.hid (by
      unfold packR packP
      by_cases h : (form (bys s)).length ≤ 47
      · rw [if_pos ⟨hslen, h⟩, if_pos h]
      · rw [if_neg (fun h2 => h h2.2), if_neg h])
    clear hb hf0 hpg hbl hbw hsz hS hslen hp
    generalize form (bys s) = Fl at *
    by_cases hf : Fl.length ≤ 47
    · have t1 : decide ((47 : Int) < (Lib.byteCells Fl).length) = false := by rw [HLEN.out]; simp; omega
      have HR2 : Hid (packR (bys s) = (Fl, true)) := Lib.hid (HR.out.trans (if_pos hf))
      have hW0 := hk.size
      clear HR hf
      gi_wp2_with fail
      refine ⟨trivial, ?_⟩
      refine (callsIn_wide.2 (len_any _ _ _ W HB.out)).mono ?_
      rintro e w' ⟨rfl, rfl⟩
      gi_wp2_with fail
      refine ⟨trivial, ?_⟩
      refine (callsIn_wide.2 (String_any_k w.heap.size w.heap.size Fl W HB.out hW0)).mono ?_
      rintro e W2 ⟨rfl, -, hB2, ho2⟩
      have hK2 := ho2 D _ hK (fun e => by injection e with e; omega) (fun c fz e => by cases e)
      have hk2 := hk.trans hB2
      clear hB2 ho2 hK HB t1 hk
      gi_wp2
      refine ⟨by simp, .inl ⟨_, _, rfl, run_takeDeferred hK2, ?_⟩⟩
      refine ⟨.tuple #[.string ⟨Fl.toArray⟩, .bool true], by simp [results, Try.f8, go_sem], ?_⟩
      show _ = Ending.returned (.tuple #[.string ⟨(packR (bys s)).1.toArray⟩, .bool (packR (bys s)).2]) ∧ _
      rw [HR2.out]
      exact ⟨rfl, hk2.trans (belowK_b (w := w) (Nat.le_refl _) W2 D _ _ (by omega) hK2 rfl rfl)⟩
    · have t1 : decide ((47 : Int) < (Lib.byteCells Fl).length) = true := by rw [HLEN.out]; simp; omega
      have HR2 : Hid (packR (bys s) = ([], false)) := Lib.hid (HR.out.trans (if_neg hf))
      clear HR hf
      gi_wp2_with fail
      refine ⟨trivial, ?_⟩
      refine (callsIn_wide.2 (len_any _ _ _ W HB.out)).mono ?_
      rintro e w' ⟨rfl, rfl⟩
      gi_wp2
      refine ⟨by simp, .inl ⟨_, _, rfl, run_takeDeferred hK, ?_⟩⟩
      refine ⟨.tuple #[.string ⟨#[]⟩, .bool false], by simp [results, Try.f8, go_sem], ?_⟩
      show _ = Ending.returned (.tuple #[.string ⟨(packR (bys s)).1.toArray⟩, .bool (packR (bys s)).2]) ∧ _
      rw [HR2.out]
      exact ⟨rfl, hk.trans (belowK_b (w := w) (Nat.le_refl _) W D _ _ (by omega) hK rfl rfl)⟩
  case stop =>
    rintro D c pre W hD hpre h
    exact h.elim
theorem pack_no (w : World) (s : ByteArray) (hs : s.size ≠ 64) : Calls Try.prog 8 #[.string s] w fun e w' => e = .returned (.tuple #[.string ⟨(packR (bys s)).1.toArray⟩, .bool (packR (bys s)).2]) ∧ Below w.heap.size w w' := by
  have hr : packR (bys s) = ([], false) := by
    unfold packR packP
    rw [if_neg]
    intro h
    apply hs
    have := h.1
    simpa using this
  rw [hr]
  have ts : ((s.size : Int) != 64) = true := by simp; omega
  clear hs
  go_enter Try.func8, Try.ntmps8
  go_wp2
  go_ret2
  exact ⟨rfl, Below.refl _ _⟩
/-- Pack. -/
theorem pack_any (w : World) (s : ByteArray) : Calls Try.prog 8 #[.string s] w fun e w' => e = .returned (.tuple #[.string ⟨(packR (bys s)).1.toArray⟩, .bool (packR (bys s)).2]) ∧ Below w.heap.size w w' := by
  by_cases hs : s.size = 64
  · exact pack_64 w s hs
  · exact pack_no w s hs
end Go.Proofs.Ytcoecpglnabbpaa
