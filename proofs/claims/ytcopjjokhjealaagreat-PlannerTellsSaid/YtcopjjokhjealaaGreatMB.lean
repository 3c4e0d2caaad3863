/- Texts of the elder seat, turned to this one: W40 W41 W42. -/
import Derived.Test.YtcopjjokhjealaaGreatMA
import Derived.Test.YtcopjjokhjealaaGreatGrIn
namespace Go.Proofs.YtcopjjokhjealaaGreat
open Go.RowKit Go.Shelf
attribute [local go_sem] Oper.semAt_some

def ccs (c : Ct) : List Value := [.int .i64 c.l, .int .i64 c.i, .int .i64 c.runs, .int .i64 c.com, .int .i64 c.con, .int .i64 c.drp, .int .i64 c.str]
theorem ccs_len (x : Ct) : (ccs x).length = 7 := rfl
theorem ccs_one (x : Ct) : ∀ u ∈ ccs x, u.oneCell' = true := by intro u hu; simp [ccs] at hu; rcases hu with rfl | rfl | rfl | rfl | rfl | rfl | rfl <;> rfl
/-- The counts told so far. -/
structure CsAt (g : Int × Int → Option Ct) (left : Int × Int → Prop) (ks : List (Int × Int)) (cs : List Ct) : Prop where
  nd : ks.Nodup
  mem : ∀ k, kP.ok k → (k ∈ ks ↔ (g k).isSome = true ∧ ¬ left k)
  ok : ∀ k ∈ ks, kP.ok k
  eq : cs.map some = ks.map g
theorem CsAt.put {g : Int × Int → Option Ct} {left : Int × Int → Prop} {ks : List (Int × Int)} {cs : List Ct} (h : CsAt g left ks cs) {k : Int × Int} {c : Ct} (hk : kP.ok k) (hg : g k = some c) (hl : left k) : CsAt g (fun y => left y ∧ y ≠ k) (ks ++ [k]) (cs ++ [c]) := by
  have hx : k ∉ ks := fun hh => ((h.mem k hk).1 hh).2 hl
  refine ⟨?_, fun y hy => ?_, fun y hy => ?_, by simp [h.eq, hg]⟩
  · rw [List.nodup_append]
    exact ⟨h.nd, by simp, fun a ha b hb e => hx (by simp at hb; rw [← hb, ← e]; exact ha)⟩
  · rw [List.mem_append, h.mem y hy, List.mem_singleton]
    constructor
    · rintro (⟨h1, h2⟩ | rfl)
      · exact ⟨h1, fun hh => h2 hh.1⟩
      · exact ⟨by rw [hg]; rfl, fun hh => hh.2 rfl⟩
    · rintro ⟨h1, h2⟩
      by_cases e : y = k
      · exact .inr e
      · exact .inl ⟨h1, fun hh => h2 ⟨hh, e⟩⟩
  · rcases List.mem_append.1 hy with hy | hy
    · exact h.ok y hy
    · rw [List.mem_singleton.1 hy]; exact hk
/-- All counts. -/
def AllC (g : Int × Int → Option Ct) (cs : List Ct) : Prop := ∃ ks : List (Int × Int), ks.Nodup ∧ (∀ k, k ∈ ks ↔ kP.ok k ∧ (g k).isSome = true) ∧ cs.map some = ks.map g
theorem CsAt.all {g : Int × Int → Option Ct} {left : Int × Int → Prop} {ks : List (Int × Int)} {cs : List Ct} (h : CsAt g left ks cs) (hl : ∀ k, kP.ok k → ¬ left k) : AllC g cs :=
  ⟨ks, h.nd, fun k => ⟨fun hk => ⟨h.ok k hk, ((h.mem k (h.ok k hk)).1 hk).1⟩, fun ⟨h1, h2⟩ => (h.mem k h1).2 ⟨h2, hl k h1⟩⟩, h.eq⟩
def encC (c : Ct) : Array Value := #[.agg #[.int .i64 c.l, .int .i64 c.i, .int .i64 c.runs, .int .i64 c.com, .int .i64 c.con, .int .i64 c.drp, .int .i64 c.str]]
theorem values_any (w : World) (cm : Nat) : Calls Tryz.prog 69 #[.map (some cm)] w fun e w' => e = .returned (.func (.func 83) #[] #[.pointer (some ⟨w.heap.size, 0, none⟩)]) ∧ w' = w.alloc (.cells #[.map (some cm)] 59) := by
  go_enter Tryz.func69, Tryz.ntmps69
  go_wp2
  go_ret
  exact ⟨rfl, rfl⟩
set_option maxRecDepth 100000 in
set_option maxHeartbeats 6400000 in
theorem vals_stops (n : Nat) (hn : 1 ≤ n) (Bm cm nc : Nat) (g : Int × Int → Option Ct) (w0 : World) (hBm : w0.heap[Bm]? = some (.cells #[.map (some cm)] 59 (0, 0))) (hm : GMap kP eC w0 cm nc g) :
    SeqStopsK Fence.wide n Tryz.prog 83 #[.pointer (some ⟨Bm, 0, none⟩)] encC KeepsWalks (fun cs => AllC g cs ∧ cs.length ≤ nc) (fun _ => True) nc w0 := fun l J Jx W hW hJ hJx hY h0 => by
  have hBm' : W.cell? ⟨Bm, 0, none⟩ = some (.map (some cm)) := Blk.cell (w := W) (g := Bm) (t := 59) (cs := #[.map (some cm)]) ((hW.block Bm (Array.getElem?_eq_some_iff.1 hBm).1).trans hBm) 0
  have HM := Lib.hid (hm.keep (Keeps.of_below hW []) (by simp))
  have HJ := Lib.hid hJ
  have HJX := Lib.hid hJx
  have HY := Lib.hid hY
  have H0 := Lib.hid h0
  clear hBm hm hJ hJx hY h0
  refine callsIn_of_wp Tryz.func83 rfl trivial ?_ rfl
  simp only [Tryz.ntmps83, List.size_toArray, List.length_cons, List.length_nil, Nat.reduceAdd, Nat.reduceSub, Array.replicate_succ, Array.replicate_zero, List.push_toArray, List.append_toArray, List.nil_append, List.cons_append]
  gi_wp2_with (first
    | (gi_at_range; refine wpListIn_rangeG rfl _ 59 rfl Tryz.underlying59 rfl HM.out ?_; intro w1 cnt0 hc0 hr0 hg0 hz0)
    | gi_in)
  go_frame
  have HR0 := Lib.hid hr0
  have HJ0 := Lib.hid (HJ.out [] W w1 none H0.out hg0 (fun r e => by cases e))
  clear hr0 hg0 hz0 H0
  gi_loopw [4] (fun _ wr => ∃ (left : Int × Int → Prop) (cnt : Nat) (ks : List (Int × Int)) (cs : List Ct), GRng kP eC wr cm W.heap.size nc g left cnt ∧ CsAt g left ks cs ∧ J cs wr ∧ cs.length + cnt ≤ nc) (fun _ wr => wr.rangeLeft cm W.heap.size)
  case atStart =>
    exact ⟨_, cnt0, [], [], HR0.out, ⟨List.nodup_nil, fun k hk => ⟨fun h => (by cases h), fun h => absurd h.1 h.2⟩, fun k h => (by cases h), rfl⟩, HJ0.out, by simpa using hc0⟩
  case round =>
    obtain ⟨left, cnt, ks, cs, hr, hc, hj, hlen⟩ := hrel
    have HR := Lib.hid hr
    have HC := Lib.hid hc
    have HJS := Lib.hid hj
    have hle := hr.left_eq
    clear hr hc hj HR0 HJ0
    gi_wp2_with (first
      | (gi_at_next; refine wpListIn_nextG rfl _ rfl rfl HR.out ?_ ?_)
      | gi_in)
    · intro hdone
      have HA := Lib.hid (HC.out.all (fun k hk => hdone k.1 k.2 hk))
      clear hdone
      gi_wp2
      go_end0
      exact ⟨⟨_, rfl⟩, .inl ⟨cs, ⟨HA.out, by omega⟩, HJS.out⟩⟩
    · intro x1 x2 v w2 cnt' hok hfx hlx hr2 hlt hg2 hz2 hen
      have hen' : (Instr.entry (.pointer (some ⟨W.heap.size, 0, none⟩))).run Tryz.prog w2 = .ok (.tuple #[.agg #[.int .i64 x1, .int .i64 x2], .agg #[.int .i64 v.l, .int .i64 v.i, .int .i64 v.runs, .int .i64 v.com, .int .i64 v.con, .int .i64 v.drp, .int .i64 v.str]]) w2 := hen
      have hj2 := HJ.out cs wr w2 (some W.heap.size) HJS.out hg2 (fun r e => by cases e; exact ⟨Nat.le_refl _, HR.out.walk⟩)
      have hj3 := HJ.out cs w2 (w2.alloc (.cells #[.int .i64 v.l, .int .i64 v.i, .int .i64 v.runs, .int .i64 v.com, .int .i64 v.con, .int .i64 v.drp, .int .i64 v.str] 84)) none hj2 (World.grownBy_alloc w2 _ none) (fun r e => by cases e)
      have HP := Lib.hid (HC.out.put hok hfx hlx)
      have HR3 := Lib.hid (hr2.keep ((Keeps.refl [] w2).alloc (.cells #[.int .i64 v.l, .int .i64 v.i, .int .i64 v.runs, .int .i64 v.com, .int .i64 v.con, .int .i64 v.drp, .int .i64 v.str] 84)) (by simp) (by simp))
      obtain ⟨fn, tmps, assign, body, hy, hR⟩ := HY.out cs v _ hj3 (by omega)
      unfold encC at hy
      have HRR := Lib.hid hR
      clear hen hr2 hj2 hj3 hok hfx hlx hg2 hR HR HC HJS hz2
      gi_wp2
      refine HRR.out.mono ?_
      rintro e W3 (⟨rfl, hJ3, hk3⟩ | ⟨rfl, hJx3⟩)
      · have HJ3 := Lib.hid hJ3
        have HR4 := Lib.hid (HR3.out.of_walks hk3)
        have hle4 := HR4.out.left_eq
        clear hJ3 hk3 HR3 HRR
        gi_wp2
        go_roundw
        case rel => exact ⟨_, cnt', _, cs ++ [v], HR4.out, HP.out, HJ3.out, by simp; omega⟩
        case measure => rw [hle4, hle]; omega
      · gi_wp2
        refine bodyPost_ret (results_none rfl _ _ _) rfl ?_
        exact ⟨⟨_, rfl⟩, .inr ⟨_, trivial, hJx3⟩⟩
end Go.Proofs.YtcopjjokhjealaaGreat
namespace Go.Proofs.YtcopjjokhjealaaGreat
open Go.RowKit Go.Shelf
attribute [local go_sem] Oper.semAt_some

theorem info84 : (Tryz.prog.info? 84).map (fun i => (i.zero, i.size, i.bytes)) = some (some (.agg #[.int .i64 0, .int .i64 0, .int .i64 0, .int .i64 0, .int .i64 0, .int .i64 0, .int .i64 0]), 7, 56) := by kernel_rfl
/-- 'append' onto a row of one's own, in a round. -/
theorem wpListIn_app {l nn : Nat} {P : Program} (w : World) {ops : Array Oper} {rest : List Oper} {o : Oper} {a : Act} {Q : Exit → Act → World → Prop} (hgd : o.guard = none) (s x : Operand) (t : TypeId)
    (ho : o.op = .call { callee := .builtin .append, args := #[s, x], argTypes := #[t, t] })
    (e : TypeId) (z : Value) (size bytes : Nat) (ht : P.underlying t = some (.slice e)) (hi : (P.info? e).map (fun i => (i.zero, i.size, i.bytes)) = some (some z, size, bytes))
    (hzs : z.cells.size = size) (hsz : 0 < size)
    (v : Value) (n : Nat) (xs : List Value) (hs : a.eval s = v) (hown : w.ownsRow 0 e size v n xs)
    (B : Nat) (A : Option Addr) (m c : Nat) (news : List Value) (hx : a.eval x = .slice A m c) (hr : Reads w B size A m news) (h1 : ∀ u ∈ news, u.oneCell' = true)
    (h63 : n + m ≤ maxLen) (hbytes : (n + m) * bytes ≤ 140737488355328)
    (h : ∀ v' w', w'.ownsRow 0 e size v' (n + m) (xs ++ news) → Keeps (fp v) w w' → (∀ g ∈ fp v', g ∈ fp v ∨ w.heap.size ≤ g) → wpListIn (Fence.wide.inRound l) nn P ops Q rest (a.put o.dst v') w') : wpListIn (Fence.wide.inRound l) nn P ops Q (o :: rest) a w := by
  obtain ⟨i, hi0, hz, hsize, hby⟩ := info_parts hi
  refine wpListIn_plain hgd fun K' hK' => oper_round (by rw [ho]; intro c hc; cases hc) ?_
  refine wp_append_any w s x t ho 0 e i z size bytes ht hi0 hz hsize hby hzs hsz v n xs hs hown B A m c news hx hr h1 h63 hbytes (Nat.zero_le _) (fun v' w' ho' hg hat => ?_)
  refine hK' _ _ (h v' w' ho' ((Keeps.refl _ w).grown hg (fun g hv => .inl (by unfold fp; rw [hv]; simp))) (fun g hg' => ?_))
  unfold fp at hg' ⊢
  rcases hat with e | e
  · rw [e] at hg'; exact .inl hg'
  · rw [e] at hg'; simp at hg'; right; omega
theorem ka_size (w : World) (o : Obj) : (w.alloc o).heap.size = w.heap.size + 1 := by simp
theorem keepsOthers_of {G : List Nat} {W W' : World} (h : Keeps G W W') (hG : ∀ g ∈ G, ∃ cs t, W.heap[g]? = some (.cells cs t (0, 0))) : KeepsOthers W W' :=
  ⟨h.size, fun k o hk ho => (h.block k (Array.getElem?_eq_some_iff.1 hk).1 (fun hg => by
    obtain ⟨cs, t, h2⟩ := hG k hg
    rw [h2] at hk
    injection hk with hk
    subst hk
    simp [Obj.isCells] at ho)).trans hk⟩
/-- What has come lies in the box. -/
structure CB (w : World) (B : Nat) (pre : List Ct) (W : World) : Prop where
  b : ∃ v, Blk W B 63 #[v] ∧ W.ownsRow 0 84 7 v pre.length (rw ccs pre) ∧ ∀ g ∈ fp v, B < g
  k : Below B w W
theorem CB.grown {w : World} {B : Nat} (hB : B = w.heap.size) : OwnFrom (B + 1) (CB w B) := fun pre W W' row h hg hr => by
  obtain ⟨v, h1, h2, h3⟩ := h.b
  have hne : ∀ {g t : Nat} {cs : Array Value}, Blk W g t cs → some g ≠ row := fun {g t cs} hb e => by
    obtain ⟨o, ho1, ho2⟩ := (hr g e.symm).2
    unfold Blk at hb
    rw [hb] at ho1
    injection ho1 with ho1
    subst ho1
    simp [Obj.isCells] at ho2
  refine ⟨⟨v, h1.grown hg (hne h1), ?_, h3⟩, h.k.grown hg (by rw [hB]; exact h.k.size) (fun r e => by have := (hr r e).1; omega)⟩
  refine ⟨h2.1, ?_⟩
  rcases h2.2 with h4 | ⟨g, cap, cur, rfl, hb, hgg, r⟩
  · exact .inl h4
  · have hb' : Blk W g 84 cur := hgg
    exact .inr ⟨g, cap, cur, rfl, hb, hb'.grown hg (hne hb'), r⟩
set_option maxHeartbeats 6400000 in
set_option maxRecDepth 100000 in
theorem appendSeq_any (w : World) (Bm cm nc : Nat) (g : Int × Int → Option Ct) (hBm : w.heap[Bm]? = some (.cells #[.map (some cm)] 59 (0, 0))) (hm : GMap kP eC w cm nc g) (hnc : nc ≤ 1000) :
    Calls Tryz.prog 89 #[.slice none 0 0, .func (.func 83) #[] #[.pointer (some ⟨Bm, 0, none⟩)]] w fun e w' => ∃ v cs, e = .returned v ∧ AllC g cs ∧ w'.ownsRow 0 84 7 v cs.length (rw ccs cs) ∧ Keeps [] w w' ∧ (∀ x ∈ fp v, w.heap.size ≤ x) ∧ cs.length ≤ nc := by
  suffices hsuf : Calls Tryz.prog 89 #[.slice none 0 0, .func (.func 83) #[] #[.pointer (some ⟨Bm, 0, none⟩)]] w fun e w' => ∃ v cs, e = .returned v ∧ AllC g cs ∧ w'.ownsRow 0 84 7 v cs.length (rw ccs cs) ∧ Below w.heap.size w w' ∧ (∀ x ∈ fp v, w.heap.size ≤ x) ∧ cs.length ≤ nc from
    hsuf.mono (fun e w' ⟨v, cs, h1, h2, h3, h4, h5, h6⟩ => ⟨v, cs, h1, h2, h3, Keeps.of_below h4 [], h5, h6⟩)
  have ka := (Below.refl w.heap.size w).alloc (Nat.le_refl _) (.cells #[.slice none 0 0] 63)
  have hst := vals_stops 4 (by omega) Bm cm nc g (w.alloc (.cells #[.slice none 0 0] 63)) ((Below.heap_alloc _ _ _ (Array.getElem?_eq_some_iff.1 hBm).1).trans hBm) (hm.keep (Keeps.of_below ka []) (by simp))
  have HST := Lib.hid hst
  have HI := Lib.hid info84
  have cb0 : CB w w.heap.size [] (w.alloc (.cells #[.slice none 0 0] 63)) := ⟨⟨_, Blk.new _ _ _, World.ownsRow_nil _ _ _ _, by simp⟩, ka⟩
  have HCB := Lib.hid cb0
  clear hst hBm hm ka cb0
  refine (callsIn_wide (n := 5)).1 ?_
  refine callsIn_of_wp_marks Tryz.func89 rfl trivial ?_ rfl
  simp only [Tryz.ntmps89, List.size_toArray, List.length_cons, List.length_nil, Nat.reduceAdd, Nat.reduceSub, Array.replicate_succ, Array.replicate_zero, List.push_toArray, List.append_toArray, List.nil_append, List.cons_append]
  gi_wp2_with fail
  have hsz : (w.alloc (.cells #[.slice none 0 0] 63)).heap.size = w.heap.size + 1 := by simp
  obtain ⟨W0, hW0⟩ : ∃ W0, w.alloc (.cells #[.slice none 0 0] 63) = W0 := ⟨_, rfl⟩
  rw [hW0] at hsz HST HCB ⊢
  clear hW0
  obtain ⟨B, hB⟩ : ∃ B, w.heap.size = B := ⟨_, rfl⟩
  have HBw := Lib.hid hB
  rw [hB] at hsz HCB ⊢
  refine wpIn_rangeFunc_ownH rfl (by omega) (gf := 83) (lb := #[.pointer (some ⟨Bm, 0, none⟩)]) rfl trivial (enters_of Tryz.func83 (by kernel_rfl) rfl)
    HST.out walksK_t (fun W l o o' hl' h ho hw => walksK_b (w := W0) W l o o' hl' h ho hw) (Below.refl _ _) (fun _ => rfl)
    (fun pre W => CB w B pre W ∧ B + 1 ≤ W.heap.size) (fun _ _ _ => False)
    ?own1 (fun _ _ _ _ _ hs _ _ => hs) ⟨HCB.out, by omega⟩ (fun x a' W => ∃ Bx, B + 1 ≤ Bx ∧ Blk W Bx 84 #[.int .i64 x.l, .int .i64 x.i, .int .i64 x.runs, .int .i64 x.com, .int .i64 x.con, .int .i64 x.drp, .int .i64 x.str] ∧
      a' = { tmps := #[.slice none 0 0, .func (.func 83) #[] #[.pointer (some ⟨Bm, 0, none⟩)], .pointer (some ⟨B, 0, none⟩), undef, .slice none 0 0, .pointer (some ⟨Bx, 0, none⟩), .func (.func 83) #[] #[.pointer (some ⟨Bm, 0, none⟩)], .agg #[.int .i64 x.l, .int .i64 x.i, .int .i64 x.runs, .int .i64 x.com, .int .i64 x.con, .int .i64 x.drp, .int .i64 x.str], undef, undef, undef, undef, undef], defers := [] }) ?own3 ?assign ?body ?done ?stop
  case own1 =>
    rintro pre W W' row ⟨h1, h2⟩ hg hr
    exact ⟨CB.grown HBw.out.symm pre W W' row h1 hg (fun r e => ⟨by have := (hr r e).1; omega, (hr r e).2⟩), Nat.le_trans h2 hg.size⟩
  case own3 =>
    rintro x a' _ W W' row ⟨Bx, h1, h2, h3⟩ hg hr
    refine ⟨Bx, h1, h2.grown hg (fun e => ?_), h3⟩
    obtain ⟨o, ho1, ho2⟩ := (hr _ e.symm).2
    unfold Blk at h2
    rw [h2] at ho1
    injection ho1 with ho1
    subst ho1
    simp [Obj.isCells] at ho2
  case assign =>
    rintro l pre x W K ⟨h1, h2⟩ hK
    unfold encC
    gi_wp2
    have hg := World.grownBy_alloc W (.cells #[.int .i64 x.l, .int .i64 x.i, .int .i64 x.runs, .int .i64 x.com, .int .i64 x.con, .int .i64 x.drp, .int .i64 x.str] 84) none
    exact hK _ _ ((KeepsOthers.alloc _ _).from _) (KeepsOthers.alloc _ _).walks ⟨CB.grown HBw.out.symm pre W _ none h1 hg (fun r e => by cases e), by simp; omega⟩ ⟨W.heap.size, h2, Blk.new _ _ _, rfl⟩
  case body =>
    rintro l pre x a' W hl' ⟨rr, hrr⟩ ⟨h1, h2⟩ ⟨Bx, hBx, hbx, rfl⟩ hlen
    obtain ⟨v, hb, ho, hf⟩ := h1.b
    obtain ⟨A, c, rfl, -, -, -⟩ := own_shape ho
    have c0 : W.cell? ⟨B, 0, none⟩ = some (.slice A pre.length c) := hb.cell 0
    have z0 : W.frozen? ⟨B, 0, none⟩ = false := hb.frozen 0
    have d0 : W.cell? ⟨Bx, 0, none⟩ = some (.int .i64 x.l) := hbx.cell 0
    have d1 : W.cell? ⟨Bx, 1, none⟩ = some (.int .i64 x.i) := hbx.cell 1
    have d2 : W.cell? ⟨Bx, 2, none⟩ = some (.int .i64 x.runs) := hbx.cell 2
    have d3 : W.cell? ⟨Bx, 3, none⟩ = some (.int .i64 x.com) := hbx.cell 3
    have d4 : W.cell? ⟨Bx, 4, none⟩ = some (.int .i64 x.con) := hbx.cell 4
    have d5 : W.cell? ⟨Bx, 5, none⟩ = some (.int .i64 x.drp) := hbx.cell 5
    have d6 : W.cell? ⟨Bx, 6, none⟩ = some (.int .i64 x.str) := hbx.cell 6
    have ka : Keeps [] W (W.alloc (.cells #[.int .i64 x.l, .int .i64 x.i, .int .i64 x.runs, .int .i64 x.com, .int .i64 x.con, .int .i64 x.drp, .int .i64 x.str] 84)) := (Keeps.refl _ _).alloc _
    have HO := Lib.hid (own_keep ho ka (by simp))
    have HRD := Lib.hid (reads_cells W #[.int .i64 x.l, .int .i64 x.i, .int .i64 x.runs, .int .i64 x.com, .int .i64 x.con, .int .i64 x.drp, .int .i64 x.str] 1 7 84 rfl)
    have KA := Lib.hid ka
    have HB1 := Lib.hid hb
    have HF := Lib.hid hf
    have HK := Lib.hid h1.k
    have hbl := hb.lt
    have HCL : Hid (∀ y ∈ fp (.slice A pre.length c), ∃ cs t, W.heap[y]? = some (.cells cs t (0, 0))) := Lib.hid (fun y hy => by
      rcases ho.2 with ⟨h0, _⟩ | ⟨g', cap, cur, h0, _, hh, _⟩
      · rw [h0] at hy; simp at hy
      · rw [h0] at hy; simp at hy; subst hy; exact ⟨_, _, hh⟩)
    clear h1 hb ho hf hbx ka
    gi_wp2_with (first
      | (gi_at_builtin; refine wpListIn_app _ rfl (.tmp 8) (.tmp 10) _ rfl 84 (.agg #[.int .i64 0, .int .i64 0, .int .i64 0, .int .i64 0, .int .i64 0, .int .i64 0, .int .i64 0]) 7 56 Tryz.underlying63 HI.out rfl (by omega) (.slice A pre.length c) _ _ rfl HO.out _ _ _ _ [.int .i64 x.l, .int .i64 x.i, .int .i64 x.runs, .int .i64 x.com, .int .i64 x.con, .int .i64 x.drp, .int .i64 x.str] rfl HRD.out (by simp [Value.oneCell']) (by unfold maxLen; omega) (by omega) ?_)
      | gi_in)
    intro v5 w5 o5 k5 f5
    obtain ⟨A5, c5, rfl, -, -, -⟩ := own_shape o5
    have k5' : Keeps (fp (.slice A pre.length c)) W w5 := (KA.out.mono (fun g hg => by cases hg)).trans k5 (fun g hg => .inl hg)
    have b5 := HB1.out.keep k5' (fun hg => Nat.lt_irrefl _ (HF.out B hg))
    have c5' : w5.cell? ⟨B, 0, none⟩ = some (.slice A pre.length c) := b5.cell 0
    have z5 : w5.frozen? ⟨B, 0, none⟩ = false := b5.frozen 0
    have HO5 := Lib.hid o5
    have HB5 := Lib.hid b5
    have K5 := Lib.hid k5'
    have F5 : Hid (∀ g ∈ fp (.slice A5 (pre.length + 1) c5), B < g) := Lib.hid (fun g hg => (f5 g hg).elim (HF.out g) (fun h => by
      have h1 := ka_size W (.cells #[.int .i64 x.l, .int .i64 x.i, .int .i64 x.runs, .int .i64 x.com, .int .i64 x.con, .int .i64 x.drp, .int .i64 x.str] 84)
      omega))
    clear o5 k5 f5 k5' b5 HO HRD KA
    gi_wp2
    have k6 : Keeps (B :: fp (.slice A pre.length c)) W (w5.setCell ⟨B, 0, none⟩ (.slice A5 (pre.length + 1) c5)) := (K5.out.mono (fun g hg => List.mem_cons_of_mem _ hg)).setCell (.inl (by simp)) _
    have hge : ∀ y ∈ B :: fp (.slice A pre.length c), B ≤ y := fun y hy => by
      rcases List.mem_cons.1 hy with rfl | hy
      · exact Nat.le_refl _
      · exact Nat.le_of_lt (HF.out y hy)
    have hcl : ∀ y ∈ B :: fp (.slice A pre.length c), ∃ cs t, W.heap[y]? = some (.cells cs t (0, 0)) := fun y hy => by
      rcases List.mem_cons.1 hy with rfl | hy
      · exact ⟨_, _, HB1.out⟩
      · exact HCL.out y hy
    have ko := keepsOthers_of k6 hcl
    refine ⟨ko.from _, ko.walks, ⟨⟨_, HB5.out.set_ 0 _, ?_, F5.out⟩, HK.out.trans (k6.belowB (by omega) hge)⟩, Nat.le_trans h2 k6.size⟩
    have e : (pre ++ [x]).length = pre.length + 1 := by simp
    rw [e, rw_append, show rw ccs [x] = ccs x by simp [rw]]
    exact own_far HO5.out (fun hg => Nat.lt_irrefl _ (F5.out B hg)) _
  case done =>
    rintro D ys W hD hys ⟨h1, h2⟩ hK
    obtain ⟨v, hb, ho, hf⟩ := h1.b
    obtain ⟨A, c, rfl, -, -, -⟩ := own_shape ho
    have c0 : W.cell? ⟨B, 0, none⟩ = some (.slice A ys.length c) := hb.cell 0
    gi_wp2
    refine ⟨by simp, .inl ⟨_, _, rfl, run_takeDeferred hK, ?_⟩⟩
    have hg := grownBy_putObj' W D (.deferred none)
    have h5 := CB.grown HBw.out.symm ys W _ (some D) h1 hg (fun r e => by cases e; exact ⟨by omega, _, hK, rfl⟩)
    have hDn : ∀ y ∈ fp (.slice A ys.length c), some y ≠ some D := fun y hy e => by
      have e : y = D := by simpa using e
      subst e
      rcases ho.2 with ⟨h0, _⟩ | ⟨g', cap, cur, h0, _, hh, _⟩
      · rw [h0] at hy; simp at hy
      · rw [h0] at hy; simp at hy; subst hy; rw [hh] at hK; cases hK
    have ho5 : (W.putObj D (.deferred none)).ownsRow 0 84 7 (.slice A ys.length c) ys.length (rw ccs ys) := by
      refine own_keep (F := [D]) ho ((Keeps.refl _ _).grown hg (fun g e => .inl (by cases e; simp))) (fun y hy hyD => hDn y hy (by rw [List.mem_singleton.1 hyD]))
    refine ⟨.slice A ys.length c, by simp [results, Tryz.f89, go_sem], ?_⟩
    exact ⟨_, ys, rfl, hys.1, ho5, by rw [HBw.out]; exact h5.k, fun y hy => by rw [HBw.out]; exact Nat.le_of_lt (hf y hy), hys.2⟩
  case stop =>
    rintro D cd pre W hD _ h
    exact h.elim
end Go.Proofs.YtcopjjokhjealaaGreat
namespace Go.Proofs.YtcopjjokhjealaaGreat
open Go.RowKit

def cmpI (x y : Int) : Int := if x < y then -1 else if y < x then 1 else 0
def orI (a b : Int) : Int := if a ≠ 0 then a else b
def cmpC (x y : Ct) : Int := orI (cmpI x.l y.l) (cmpI x.i y.i)
set_option maxHeartbeats 1600000 in
theorem nan_any (w : World) (x : Int) : Calls Tryz.prog 91 #[.int .i64 x] w fun e w' => e = .returned (.bool false) ∧ w' = w := by
  go_enter Tryz.func91, Tryz.ntmps91
  go_wp2_with fail
  go_ret
  exact ⟨rfl, rfl⟩
set_option maxRecDepth 100000 in
set_option maxHeartbeats 3200000 in
theorem compare_any (w : World) (x y : Int) : Calls Tryz.prog 85 #[.int .i64 x, .int .i64 y] w fun e w' => e = .returned (.int .i64 (cmpI x y)) ∧ w' = w := by
  obtain ⟨V, hV⟩ : ∃ V, cmpI x y = V := ⟨_, rfl⟩
  rw [hV]
  have HV := Lib.hid hV
  clear hV
  go_enter Tryz.func85, Tryz.ntmps85
  go_wp2_with fail
  refine (nan_any _ x).mono ?_
  rintro e _ ⟨rfl, rfl⟩
  go_wp2_with fail
  refine (nan_any _ y).mono ?_
  rintro e _ ⟨rfl, rfl⟩
  by_cases h1 : x < y
  · have eV : V = -1 := by rw [← HV.out]; unfold cmpI; rw [if_pos h1]
    subst eV
    clear HV
    go_wp2_with fail
    go_ret
    exact ⟨rfl, rfl⟩
  · by_cases h2 : y < x
    · have eV : V = 1 := by rw [← HV.out]; unfold cmpI; rw [if_neg h1, if_pos h2]
      subst eV
      clear HV
      go_wp2_with fail
      go_ret
      exact ⟨rfl, rfl⟩
    · have eV : V = 0 := by rw [← HV.out]; unfold cmpI; rw [if_neg h1, if_neg h2]
      subst eV
      clear HV
      go_wp2_with fail
      go_ret
      exact ⟨rfl, rfl⟩
set_option maxRecDepth 100000 in
set_option maxHeartbeats 3200000 in
theorem or_any (w : World) (b : Nat) (c0 c1 : Int) (h0 : w.cell? ⟨b, 0, none⟩ = some (.int .i64 c0)) (h1 : w.cell? ⟨b, 1, none⟩ = some (.int .i64 c1)) :
    Calls Tryz.prog 84 #[.slice (some ⟨b, 0, none⟩) 2 2] w fun e w' => e = .returned (.int .i64 (orI c0 c1)) ∧ w' = w := by
  obtain ⟨V, hV⟩ : ∃ V, orI c0 c1 = V := ⟨_, rfl⟩
  rw [hV]
  have HV := Lib.hid hV
  clear hV
  go_enter Tryz.func84, Tryz.ntmps84
  go_wp2_with fail
  go_loop [8] (fun iv => iv = .int .i64 0 ∨ (iv = .int .i64 1 ∧ c0 = 0) ∨ (iv = .int .i64 2 ∧ c0 = 0 ∧ c1 = 0)) (fun iv => 3 - (intOf iv).toNat)
  case atStart => exact .inl rfl
  case round =>
    rcases hrel with rfl | ⟨rfl, rfl⟩ | ⟨rfl, rfl, rfl⟩
    · by_cases e0 : c0 = 0
      · subst e0
        go_wp2_with fail
        go_round
        case rel => exact .inr (.inl ⟨by go_num, trivial⟩)
        case measure => simp [intOf]
      · have eV : V = c0 := by rw [← HV.out]; unfold orI; rw [if_pos e0]
        subst eV
        clear HV
        go_wp2_with fail
        go_ret
        exact ⟨rfl, rfl⟩
    · by_cases e1 : c1 = 0
      · subst e1
        go_wp2_with fail
        go_round
        case rel => exact .inr (.inr ⟨by go_num, trivial, trivial⟩)
        case measure => simp [intOf]
      · have eV : V = c1 := by rw [← HV.out]; simp [orI]
        subst eV
        clear HV
        go_wp2_with fail
        go_ret
        exact ⟨rfl, rfl⟩
    · have eV : V = 0 := by rw [← HV.out]; simp [orI]
      subst eV
      clear HV
      go_wp2_with fail
      go_ret
      exact ⟨rfl, rfl⟩
noncomputable def ord1C : Code := ((Tryz.f70.body.bind (theRegion 1)).getD .skip)
set_option maxRecDepth 1000000 in
set_option maxHeartbeats 1600000 in
set_option linter.unusedSimpArgs false in
theorem ord1_any (w : World) (ab bb : Nat) (x y : Ct) (K : Exit → Act → World → Prop)
    (hS : ∀ W, Keeps [] w W → Blk W ab 84 #[.int .i64 x.l, .int .i64 x.i, .int .i64 x.runs, .int .i64 x.com, .int .i64 x.con, .int .i64 x.drp, .int .i64 x.str] ∧ Blk W bb 84 #[.int .i64 y.l, .int .i64 y.i, .int .i64 y.runs, .int .i64 y.com, .int .i64 y.con, .int .i64 y.drp, .int .i64 y.str])
    (u0 u1 u4 u5 u6 u7 u8 u9 u10 u11 u12 u13 u14 u15 u16 : Value)
    (hK : ∀ (v5 v6 v7 v8 v9 v10 v11 v12 v13 v14 v15 v16 : Value), K .normal ⟨#[u0, u1, .pointer (some ⟨ab, 0, none⟩), .pointer (some ⟨bb, 0, none⟩), .int .i64 (orI (cmpI x.l y.l) (cmpI x.i y.i)), v5, v6, v7, v8, v9, v10, v11, v12, v13, v14, v15, v16], []⟩ (w.drew.alloc (.cells #[.int .i64 (cmpI x.l y.l), .int .i64 (cmpI x.i y.i)] 3))) :
    Code.wp Tryz.prog ord1C K ⟨#[u0, u1, .pointer (some ⟨ab, 0, none⟩), .pointer (some ⟨bb, 0, none⟩), u4, u5, u6, u7, u8, u9, u10, u11, u12, u13, u14, u15, u16], []⟩ w := by
  have HS := Lib.hid hS
  clear hS
  conv => arg 2; whnf
  try dsimp only at hK ⊢
  refine wp_region_noPanic ?_
  refine wp_region_held_drew (S := fun W => Blk W ab 84 #[.int .i64 x.l, .int .i64 x.i, .int .i64 x.runs, .int .i64 x.com, .int .i64 x.con, .int .i64 x.drp, .int .i64 x.str] ∧ Blk W bb 84 #[.int .i64 y.l, .int .i64 y.i, .int .i64 y.runs, .int .i64 y.com, .int .i64 y.con, .int .i64 y.drp, .int .i64 y.str]) (by kernel_rfl) (HS.out _ ((Keeps.refl [] w).drew)) (fun hHeld => ?_)
  obtain ⟨w0, hw0⟩ : ∃ w0, w.drew = w0 := ⟨_, rfl⟩
  try rw [hw0] at hHeld
  rw [hw0]
  have K0 : Keeps [] w w0 := by rw [← hw0]; exact (Keeps.refl [] w).drew
  refine wpAnyH_take (i := 0) (oi := ⟨some 5, Op.fieldAddr 84 (Operand.tmp 2) 0, 0, _, _, none⟩) (v := ?vq1) rfl (by kernel_rfl) (by kernel_rfl) (by kernel_rfl) (fun _ _ _ h => h) (Or.inl ⟨by rfl, fun W hW => ?_⟩) (by assumption) ?_
  rotate_left
  · go_simp
    with_reducible rfl
  try simp only [Act.put, List.setIfInBounds_toArray, List.set_cons_zero, List.set_cons_succ]
  refine wpAnyH_take (i := 1) (oi := ⟨some 6, Op.load 3 (Operand.tmp 5), 3, _, _, none⟩) (v := .int .i64 x.l) rfl (by kernel_rfl) (by kernel_rfl) (by kernel_rfl) (fun _ _ _ h => h) (Or.inl ⟨by rfl, fun W hW => ?_⟩) (by assumption) ?_
  · (have a0 := hW.1.cell 0; clear hW; go_simp)
  try simp only [Act.put, List.setIfInBounds_toArray, List.set_cons_zero, List.set_cons_succ]
  refine wpAnyH_take (i := 2) (oi := ⟨some 7, Op.fieldAddr 84 (Operand.tmp 3) 0, 0, _, _, none⟩) (v := ?vq2) rfl (by kernel_rfl) (by kernel_rfl) (by kernel_rfl) (fun _ _ _ h => h) (Or.inl ⟨by rfl, fun W hW => ?_⟩) (by assumption) ?_
  rotate_left
  · go_simp
    with_reducible rfl
  try simp only [Act.put, List.setIfInBounds_toArray, List.set_cons_zero, List.set_cons_succ]
  refine wpAnyH_take (i := 3) (oi := ⟨some 8, Op.load 3 (Operand.tmp 7), 3, _, _, none⟩) (v := .int .i64 y.l) rfl (by kernel_rfl) (by kernel_rfl) (by kernel_rfl) (fun _ _ _ h => h) (Or.inl ⟨by rfl, fun W hW => ?_⟩) (by assumption) ?_
  · (have a0 := hW.2.cell 0; clear hW; go_simp)
  try simp only [Act.put, List.setIfInBounds_toArray, List.set_cons_zero, List.set_cons_succ]
  refine wpAnyH_take (i := 5) (oi := ⟨some 10, Op.fieldAddr 84 (Operand.tmp 2) 1, 0, _, _, none⟩) (v := ?vq3) rfl (by kernel_rfl) (by kernel_rfl) (by kernel_rfl) (fun _ _ _ h => h) (Or.inl ⟨by rfl, fun W hW => ?_⟩) (by assumption) ?_
  rotate_left
  · go_simp
    with_reducible rfl
  try simp only [Act.put, List.setIfInBounds_toArray, List.set_cons_zero, List.set_cons_succ]
  refine wpAnyH_take (i := 6) (oi := ⟨some 11, Op.load 3 (Operand.tmp 10), 3, _, _, none⟩) (v := .int .i64 x.i) rfl (by kernel_rfl) (by kernel_rfl) (by kernel_rfl) (fun _ _ _ h => h) (Or.inl ⟨by rfl, fun W hW => ?_⟩) (by assumption) ?_
  · (have a0 := hW.1.cell 1; clear hW; go_simp)
  try simp only [Act.put, List.setIfInBounds_toArray, List.set_cons_zero, List.set_cons_succ]
  refine wpAnyH_take (i := 7) (oi := ⟨some 12, Op.fieldAddr 84 (Operand.tmp 3) 1, 0, _, _, none⟩) (v := ?vq4) rfl (by kernel_rfl) (by kernel_rfl) (by kernel_rfl) (fun _ _ _ h => h) (Or.inl ⟨by rfl, fun W hW => ?_⟩) (by assumption) ?_
  rotate_left
  · go_simp
    with_reducible rfl
  try simp only [Act.put, List.setIfInBounds_toArray, List.set_cons_zero, List.set_cons_succ]
  refine wpAnyH_take (i := 8) (oi := ⟨some 13, Op.load 3 (Operand.tmp 12), 3, _, _, none⟩) (v := .int .i64 y.i) rfl (by kernel_rfl) (by kernel_rfl) (by kernel_rfl) (fun _ _ _ h => h) (Or.inl ⟨by rfl, fun W hW => ?_⟩) (by assumption) ?_
  · (have a0 := hW.2.cell 1; clear hW; go_simp)
  try simp only [Act.put, List.setIfInBounds_toArray, List.set_cons_zero, List.set_cons_succ]
  refine wpAnyH_ready (rs := [4]) (by kernel_rfl) (by simp) ?_
  refine AllReadyH.cons (o := ⟨some 9, Op.call { callee := Callee.value (Operand.func 85), args := #[Operand.tmp 6, Operand.tmp 8], argTypes := #[3, 3] }, 3, _, _, none⟩) rfl (fun KK hKK => ?_) AllReadyH.nil
  refine step_callW (by rfl) 85 _ _ rfl #[.int .i64 x.l, .int .i64 y.l] (by first | (simp [Act.eval]; done) | (simp [Act.eval, Act.put]; done)) (enters_of Tryz.func85 (by kernel_rfl) rfl) (compare_any w0 x.l y.l) ?_
  rintro e w9 ⟨rfl, h9⟩
  refine ⟨_, rfl, ?_⟩
  rw [h9]
  clear h9
  refine hKK.out _ _ (HS.out _ K0) (fun hHeld => ?_)
  clear hKK KK
  try simp only [Act.put, List.setIfInBounds_toArray, List.set_cons_zero, List.set_cons_succ]
  refine wpAnyH_ready (rs := [9]) (by kernel_rfl) (by simp) ?_
  refine AllReadyH.cons (o := ⟨some 14, Op.call { callee := Callee.value (Operand.func 85), args := #[Operand.tmp 11, Operand.tmp 13], argTypes := #[3, 3] }, 3, _, _, none⟩) rfl (fun KK hKK => ?_) AllReadyH.nil
  refine step_callW (by rfl) 85 _ _ rfl #[.int .i64 x.i, .int .i64 y.i] (by first | (simp [Act.eval]; done) | (simp [Act.eval, Act.put]; done)) (enters_of Tryz.func85 (by kernel_rfl) rfl) (compare_any w0 x.i y.i) ?_
  rintro e w9 ⟨rfl, h9⟩
  refine ⟨_, rfl, ?_⟩
  rw [h9]
  clear h9
  refine hKK.out _ _ (HS.out _ K0) (fun hHeld => ?_)
  clear hKK KK
  try simp only [Act.put, List.setIfInBounds_toArray, List.set_cons_zero, List.set_cons_succ]
  refine wpAnyH_ready (rs := [10]) (by kernel_rfl) (by simp) ?_
  refine AllReadyH.cons (o := ⟨some 15, Op.buildSlice 22 2 #[(0, Operand.tmp 9), (1, Operand.tmp 14)], 22, _, _, none⟩) rfl (fun KK hKK => ?_) AllReadyH.nil
  go_simp
  have K5 : Keeps [] w (World.alloc w0 (.cells #[.int .i64 (cmpI x.l y.l), .int .i64 (cmpI x.i y.i)] 3)) := K0.alloc _
  have BS : Blk (World.alloc w0 (.cells #[.int .i64 (cmpI x.l y.l), .int .i64 (cmpI x.i y.i)] 3)) w0.heap.size 3 #[.int .i64 (cmpI x.l y.l), .int .i64 (cmpI x.i y.i)] := Blk.new _ _ _
  refine hKK.out _ _ (HS.out _ K5) (fun hHeld => ?_)
  clear hKK KK
  try simp only [Act.put, List.setIfInBounds_toArray, List.set_cons_zero, List.set_cons_succ]
  refine wpAnyH_ready (rs := [11]) (by kernel_rfl) (by simp) ?_
  refine AllReadyH.cons (o := ⟨some 16, Op.call { callee := Callee.value (Operand.func 84), args := #[Operand.tmp 15], argTypes := #[22] }, 3, _, _, none⟩) rfl (fun KK hKK => ?_) AllReadyH.nil
  refine step_callW (by rfl) 84 _ _ rfl #[.slice (some ⟨w0.heap.size, 0, none⟩) 2 2] (by first | (simp [Act.eval]; done) | (simp [Act.eval, Act.put]; done)) (enters_of Tryz.func84 (by kernel_rfl) rfl) (or_any (World.alloc w0 (.cells #[.int .i64 (cmpI x.l y.l), .int .i64 (cmpI x.i y.i)] 3)) w0.heap.size (cmpI x.l y.l) (cmpI x.i y.i) (BS.cell 0) (BS.cell 1)) ?_
  rintro e w9 ⟨rfl, h9⟩
  refine ⟨_, rfl, ?_⟩
  rw [h9]
  clear h9
  refine hKK.out _ _ (HS.out _ K5) (fun hHeld => ?_)
  clear hKK KK
  try simp only [Act.put, List.setIfInBounds_toArray, List.set_cons_zero, List.set_cons_succ]
  refine wpAnyH_take (i := 12) (oi := ⟨some 4, Op.assign (Operand.tmp 16), 3, _, _, none⟩) (v := ?vq6) rfl (by kernel_rfl) (by kernel_rfl) (by kernel_rfl) (fun _ _ _ h => h) (Or.inl ⟨by rfl, fun W hW => ?_⟩) (by assumption) ?_
  rotate_left
  · go_simp
    with_reducible rfl
  try simp only [Act.put, List.setIfInBounds_toArray, List.set_cons_zero, List.set_cons_succ]
  refine wpAnyH_done (by kernel_rfl) ?_ _
  refine NoPanic.normal ?_
  subst hw0
  exact hK _ _ _ _ _ _ _ _ _ _ _ _
end Go.Proofs.YtcopjjokhjealaaGreat
