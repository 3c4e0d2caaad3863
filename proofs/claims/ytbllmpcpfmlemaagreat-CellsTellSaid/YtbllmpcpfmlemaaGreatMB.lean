/- Texts of the elder seat, turned to this one: W4 W5 W6. -/
import Derived.Test.YtbllmpcpfmlemaaGreatMA
import Derived.Test.YtbllmpcpfmlemaaGreatHeld
import Derived.Deep.Cut
namespace Go.Proofs.YtbllmpcpfmlemaaGreat
open Go.RowKit

theorem opn_eq {x : One} {pp : Option Nat} (hp : pp = none ↔ x.id = 0) (k : Str) : (((pp.isSome) && !(mget x.wr k).isSome) && !(cellOf x.rd k).isSome) = opn x k := by
  unfold opn
  cases pp with
  | none => rw [hp.1 rfl]; rfl
  | some g =>
    have : ¬ x.id = 0 := fun h => by have := hp.2 h; cases this
    cases mget x.wr k <;> cases cellOf x.rd k <;> simp [this]
set_option maxRecDepth 100000 in
set_option maxHeartbeats 1600000 in
theorem open_any {w : World} {M : Mem} {pp : Option Nat} {nk : Nat} {x : One} (h : OneAt w M pp nk x) (hp : pp = none ↔ x.id = 0) (k : Str) (hk : kS.ok k) :
    Calls Tryz.prog 79 #[.pointer (some ⟨M.b, 0, none⟩), sv k] w fun e w' => e = .returned (.bool (opn x k)) ∧ w' = w := by
  rw [← opn_eq hp k]
  have f0 : w.cell? ⟨M.b, 0, none⟩ = some (pv pp) := h.b.cell 0
  have f2 : w.cell? ⟨M.b, 2, none⟩ = some (.map (some M.mw)) := h.b.cell 2
  have f5 : w.cell? ⟨M.b, 5, none⟩ = some (.map (some M.mv)) := h.b.cell 5
  have l2 := h.wm.look hk Tryz.underlying74 (zero9 w)
  have l5 := h.v.look hk Tryz.underlying74 (zero9 w)
  clear h hp
  generalize mget x.wr k = a at l2 ⊢
  generalize cellOf x.rd k = b at l5 ⊢
  obtain ⟨va, hva⟩ : ∃ va, (Option.map eS.val a).getD (Value.string { data := #[] }) = va := ⟨_, rfl⟩
  obtain ⟨vb, hvb⟩ : ∃ vb, (Option.map eS.val b).getD (Value.string { data := #[] }) = vb := ⟨_, rfl⟩
  rw [hva] at l2
  rw [hvb] at l5
  have l2' : (Instr.lookup 74 (.map (some M.mw)) (sv k) true).run Tryz.prog w = .ok (.tuple #[va, .bool a.isSome]) w := l2
  have l5' : (Instr.lookup 74 (.map (some M.mv)) (sv k) true).run Tryz.prog w = .ok (.tuple #[vb, .bool b.isSome]) w := l5
  clear l2 l5 hva hvb
  generalize a.isSome = oa at l2' ⊢
  generalize b.isSome = ob at l5' ⊢
  generalize M.b = Mb at f0 f2 f5 ⊢
  generalize M.mw = Mw at f2 l2' ⊢
  generalize M.mv = Mv at f5 l5' ⊢
  cases pp with
  | none =>
    have f0' : w.cell? ⟨Mb, 0, none⟩ = some (.pointer none) := f0
    clear f0
    cases oa <;> cases ob
    all_goals
      go_enter Tryz.func79, Tryz.ntmps79
      go_wp2_with fail
      go_ret
      exact ⟨rfl, rfl⟩
  | some g =>
    have f0' : w.cell? ⟨Mb, 0, none⟩ = some (.pointer (some ⟨g, 0, none⟩)) := f0
    clear f0
    cases oa <;> cases ob
    all_goals
      go_enter Tryz.func79, Tryz.ntmps79
      go_wp2_with fail
      go_ret
      exact ⟨rfl, rfl⟩
theorem wpList_updG {kt : TypeId} {κ V : Type} {S : KeyS kt κ} {E : ElS V} {ops : Array Oper} {rest : List Oper} {o : Oper} {a : Act} {w : World} {Q : Exit → Act → World → Prop} (hg : o.guard = none) (hd : o.dst = none) (mo xo vo : Operand) (T : TypeId) (hop : o.op = Op.mapUpdate T mo xo vo)
    {e : TypeId} (ht : Tryz.prog.underlying T = some (.map kt e)) (b n : Nat) (f : κ → Option V) (hm : a.eval mo = .map (some b)) (h : GMap S E w b n f) (hn : n < maxLen) (x : κ) (v : V) (hx : a.eval xo = S.val x) (hv : a.eval vo = E.val v) (hok : S.ok x)
    (hK : ∀ w', GMap S E w' b (n + 1) (updG f x (some v)) → Keeps [b] w w' → wpList Tryz.prog ops Q rest a w') : wpList Tryz.prog ops Q (o :: rest) a w := by
  refine wpList_plain hg fun K' hK' => ?_
  obtain ⟨w', hrun, h', hk⟩ := h.upd v hok hn ht
  unfold Oper.wp
  simp [execOp, hop, hm, hx, hv, hrun, Result.andThen]
  refine hK' _ _ ?_
  rw [hd]
  exact hK w' h' hk
theorem wr_upd {m : List (Str × Str)} (hm : AscK m) (i : Int) (k v : Str) : updG (mget m) k (if i = 0 ∧ v = [] then none else some v) = mget (wrPut i k v m) := by
  funext j
  unfold updG wrPut
  by_cases hv : i = 0 ∧ v = []
  · rw [if_pos hv, if_pos hv, mget_mdel]
    by_cases hj : j = k <;> simp [hj]
  · rw [if_neg hv, if_neg hv, mget_mput hm]
    by_cases hj : j = k <;> simp [hj]
theorem GMap.asList {w : World} {b n : Nat} {m : List (Str × Str)} (h : GMap kS eS w b n (mget m)) : GMap kS eS w b m.length (mget m) := by
  have := h.fit Tryz.underlying74 (m.map (·.1)) (fun x _ hx => mget_some.1 hx)
  rwa [List.length_map] at this
/-- A map of one's own differs from one's other blocks. -/
theorem OneAt.wrote {w w' : World} {M : Mem} {pp : Option Nat} {nk : Nat} {x : One} {i : Int} {L : Nat → Option (Int × Nat)} (h : OneAt w M pp nk x) (hL : Lab L i M) (f : List (Str × Str) → List (Str × Str))
    (hm : GMap kS eS w' M.mw (f x.wr).length (mget (f x.wr))) (hk : Keeps [M.mw] w w') : OneAt w' M pp nk (setWr f x) := by
  have e1 : M.b ∉ [M.mw] := fun hc => h.wm.ne_blk h.b (List.mem_singleton.1 hc).symm
  have lne : ∀ g n, L g = some (i, n) → n ≠ 1 → g ∉ [M.mw] := fun g n hg hn hc => by
    rw [List.mem_singleton.1 hc, hL.mw] at hg
    injection hg with hg
    injection hg with _ hg
    exact hn hg.symm
  exact ⟨h.b.keep hk e1, hm, h.l.keep hk (lne _ _ hL.ml (by omega)), own_keep h.o hk (fun g hg => lne _ _ (hL.row g hg) (by omega)), h.v.keep hk (lne _ _ hL.mv (by omega)), h.k.keep hk (lne _ _ hL.mq (by omega)),
    fun p l hl => own_keep (h.s p l hl) hk (fun g hg hc => h.wm.off (h.s p l hl) (by rw [← List.mem_singleton.1 hc]; exact hg))⟩
theorem OneAt.logged {w w' : World} {M : Mem} {pp : Option Nat} {nk : Nat} {x : One} {i : Int} {L : Nat → Option (Int × Nat)} (h : OneAt w M pp nk x) (hL : Lab L i M) (f : List (Str × Str) → List (Str × Str))
    (hm : GMap kS eS w' M.ml (f x.lg).length (mget (f x.lg))) (hk : Keeps [M.ml] w w') : OneAt w' M pp nk (setLg f x) := by
  have e1 : M.b ∉ [M.ml] := fun hc => h.l.ne_blk h.b (List.mem_singleton.1 hc).symm
  have lne : ∀ g n, L g = some (i, n) → n ≠ 2 → g ∉ [M.ml] := fun g n hg hn hc => by
    rw [List.mem_singleton.1 hc, hL.ml] at hg
    injection hg with hg
    injection hg with _ hg
    exact hn hg.symm
  exact ⟨h.b.keep hk e1, h.wm.keep hk (lne _ _ hL.mw (by omega)), hm, own_keep h.o hk (fun g hg => lne _ _ (hL.row g hg) (by omega)), h.v.keep hk (lne _ _ hL.mv (by omega)), h.k.keep hk (lne _ _ hL.mq (by omega)),
    fun p l hl => own_keep (h.s p l hl) hk (fun g hg hc => h.l.off (h.s p l hl) (by rw [← List.mem_singleton.1 hc]; exact hg))⟩
set_option maxRecDepth 100000 in
set_option maxHeartbeats 1600000 in
theorem put_low {w : World} {b mw n : Nat} {pp : Option Nat} {f : Str → Option Str} (f0 : w.cell? ⟨b, 0, none⟩ = some (pv pp)) (f2 : w.cell? ⟨b, 2, none⟩ = some (.map (some mw))) (hm : GMap kS eS w mw n f) (hn : n < maxLen) (k v : Str) (hk : kS.ok k) :
    Calls Tryz.prog 78 #[.pointer (some ⟨b, 0, none⟩), sv k, sv v] w fun e w' => e = .returned (.tuple #[]) ∧ GMap kS eS w' mw (n + 1) (updG f k (if pp = none ∧ v = [] then none else some v)) ∧ Keeps [mw] w w' := by
  have HM := Lib.hid hm
  clear hm
  cases pp with
  | none =>
    have f0' : w.cell? ⟨b, 0, none⟩ = some (.pointer none) := f0
    clear f0
    by_cases hv : v = []
    · rw [if_pos ⟨rfl, hv⟩]
      subst hv
      go_enter Tryz.func78, Tryz.ntmps78
      go_wp2_with (at_delete; (refine wpList_delGM rfl _ _ 74 rfl Tryz.underlying74 rfl HM.out k rfl hk ?_; intro w2 h2 k2))
      refine bodyPost_ret (results_none rfl _ _ _) rfl ?_
      exact ⟨rfl, h2.mono (by omega), k2⟩
    · rw [if_neg (fun h => hv h.2)]
      have hv2 : List.isEmpty v = false := by simpa using hv
      go_enter Tryz.func78, Tryz.ntmps78
      go_wp2_with (refine wpList_updG rfl rfl _ _ _ 74 rfl Tryz.underlying74 mw n f rfl HM.out hn k v rfl rfl hk ?_; intro w2 h2 k2)
      go_end0
      exact ⟨rfl, h2, k2⟩
  | some g =>
    have f0' : w.cell? ⟨b, 0, none⟩ = some (.pointer (some ⟨g, 0, none⟩)) := f0
    clear f0
    rw [if_neg (fun h => by cases h.1)]
    go_enter Tryz.func78, Tryz.ntmps78
    go_wp2_with (refine wpList_updG rfl rfl _ _ _ 74 rfl Tryz.underlying74 mw n f rfl HM.out hn k v rfl rfl hk ?_; intro w2 h2 k2)
    go_end0
    exact ⟨rfl, h2, k2⟩
theorem put_any {w : World} {M : Mem} {pp : Option Nat} {nk : Nat} {x : One} {i : Int} {L : Nat → Option (Int × Nat)} (h : OneAt w M pp nk x) (hL : Lab L i M) (hp : pp = none ↔ x.id = 0) (hw : AscK x.wr) (hl : x.wr.length < maxLen) (k v : Str) (hk : kS.ok k) :
    Calls Tryz.prog 78 #[.pointer (some ⟨M.b, 0, none⟩), sv k, sv v] w fun e w' => e = .returned (.tuple #[]) ∧ OneAt w' M pp nk (setWr (wrPut x.id k v) x) ∧ Keeps [M.mw] w w' := by
  refine (put_low (h.b.cell 0) (h.b.cell 2) h.wm hl k v hk).mono ?_
  rintro e w' ⟨rfl, h1, h2⟩
  refine ⟨rfl, h.wrote hL _ ?_ h2, h2⟩
  simp only [hp] at h1
  rw [wr_upd hw] at h1
  exact h1.asList
end Go.Proofs.YtbllmpcpfmlemaaGreat
namespace Go.Proofs.YtbllmpcpfmlemaaGreat
open Go.RowKit

theorem step_updG {kt : TypeId} {κ V : Type} {S : KeyS kt κ} {E : ElS V} {ops : Array Oper} {o : Oper} {a : Act} {w : World} {K : Act → World → Prop} {Q : Exit → Act → World → Prop} {E0 : Prop} (hg : o.guard = none) (mo xo vo : Operand) (T : TypeId) (hop : o.op = Op.mapUpdate T mo xo vo)
    {e : TypeId} (ht : Tryz.prog.underlying T = some (.map kt e)) (b n : Nat) (f : κ → Option V) (hm : a.eval mo = .map (some b)) (h : GMap S E w b n f) (hn : n < maxLen) (x : κ) (v : V) (hx : a.eval xo = S.val x) (hv : a.eval vo = E.val v) (hok : S.ok x)
    (hK : ∀ w', GMap S E w' b (n + 1) (updG f x (some v)) → Keeps [b] w w' → K (a.put o.dst undef) w') : if Region.wanted o (yielded ops a.tmps) = true then Oper.wp Tryz.prog o a w K Q else E0 := by
  have hw : Region.wanted o (yielded ops a.tmps) = true := by simp [Region.wanted, hg]
  rw [if_pos hw]
  obtain ⟨w', hrun, h', hk⟩ := h.upd v hok hn ht
  unfold Oper.wp
  simp [execOp, hop, hm, hx, hv, hrun, Result.andThen]
  exact hK w' h' hk
theorem reads_blk {w : World} {b : Nat} {t : TypeId} {cs : Array Value} {xs : List Value} {size : Nat} (h : Blk w b t cs) (hx : xs = cs.toList) (hn : cs.size = 1 * size) : Reads w w.heap.size size (some ⟨b, 0, none⟩) 1 xs := by
  subst hx
  refine ⟨by simp [hn], fun _ => ⟨_, rfl, h.lt, fun j u hu => ?_⟩⟩
  rw [add_of_plain, Nat.zero_add, h.cell]
  simpa using hu
abbrev zv32 : Value := .agg #[.int .i64 0, .string ⟨#[]⟩, .string ⟨#[]⟩, .slice none 0 0]
theorem info34 : (Tryz.prog.info? 34).map (fun i => (i.zero, i.size, i.bytes)) = some (some zv32, 4, 64) := by kernel_rfl
def theRegion (k : Nat) : Code → Option Code
  | .region id ops d => if id == k then some (.region id ops d) else none
  | .seq a b => match theRegion k a with
    | some c => some c
    | none => theRegion k b
  | .cond _ a b => match theRegion k a with
    | some c => some c
    | none => theRegion k b
  | .block _ c => theRegion k c
  | .loop c => theRegion k c
  | .scope c => theRegion k c
  | _ => none
noncomputable def note1C : Code := ((Tryz.f80.body.bind (theRegion 1)).getD .skip)
set_option maxRecDepth 1000000 in
set_option maxHeartbeats 1600000 in
set_option linter.unusedSimpArgs false in
theorem note1_any (w : World) (b rb n : Nat) (row : Value) (xs : List Value) (c0 c1 c2 c3 : Value) (K : Exit → Act → World → Prop)
    (hS : ∀ W, Keeps (fp row) w W → W.cell? ⟨b, 4, none⟩ = some row ∧ Blk W rb 34 #[c0, c1, c2, c3]) (hF : ∀ W, Keeps (fp row) w W → W.frozen? ⟨b, 4, none⟩ = false)
    (hO : ∀ W, Keeps [] w W → W.ownsRow 0 34 4 row n xs) (h1 : ∀ u ∈ [c0, c1, c2, c3], u.oneCell' = true) (hn : n < 1000000000)
    (u1 u2 u4 u5 u6 u7 u8 u9 u10 u11 u12 u13 u14 u15 u16 u17 u18 u19 u20 u21 u22 u23 u24 u25 u26 u27 u28 u29 u30 u31 u32 : Value)
    (hK : ∀ (v4 v5 v6 v7 v8 v9 v10 v11 v12 v13 : Value) (row2 : Value) (W : World), W.ownsRow 0 34 4 row2 (n + 1) (xs ++ [c0, c1, c2, c3]) → Keeps (fp row) w W → (∀ g ∈ fp row2, g ∈ fp row ∨ w.heap.size ≤ g) → K .normal ⟨#[.pointer (some ⟨b, 0, none⟩), u1, u2, .pointer (some ⟨rb, 0, none⟩), v4, v5, v6, v7, v8, v9, v10, v11, v12, v13, u14, u15, u16, u17, u18, u19, u20, u21, u22, u23, u24, u25, u26, u27, u28, u29, u30, u31, u32], []⟩ (W.setCell ⟨b, 4, none⟩ row2)) :
    Code.wp Tryz.prog note1C K ⟨#[.pointer (some ⟨b, 0, none⟩), u1, u2, .pointer (some ⟨rb, 0, none⟩), u4, u5, u6, u7, u8, u9, u10, u11, u12, u13, u14, u15, u16, u17, u18, u19, u20, u21, u22, u23, u24, u25, u26, u27, u28, u29, u30, u31, u32], []⟩ w := by
  have HS := Lib.hid hS
  have HF := Lib.hid hF
  have HO := Lib.hid hO
  clear hS hF hO
  conv => arg 2; whnf
  dsimp only at hK ⊢
  refine wp_region_noPanic ?_
  refine wp_region_last (S := fun W => W.cell? ⟨b, 4, none⟩ = some row ∧ Blk W rb 34 #[c0, c1, c2, c3]) 10 (by kernel_rfl) (HS.out _ ((Keeps.refl _ w).drew)) (fun hHeld => ?_)
  obtain ⟨w0, hw0⟩ : ∃ w0, w.drew = w0 := ⟨_, rfl⟩
  try rw [hw0] at hHeld
  rw [hw0]
  have K0 : Keeps [] w w0 := by rw [← hw0]; exact (Keeps.refl [] w).drew
  clear hw0
  refine wpG_take (nx := [8, 2, 3, 4, 7, 6, 7, 8, 9, 10]) (i := 0) (oi := ⟨some 4, Op.move (Operand.tmp 0), 61, _, _, none⟩) (v := ?vq1) (by kernel_rfl) rfl (by decide) (by kernel_rfl) (by kernel_rfl) (by kernel_rfl) (fun _ _ _ h => h) (Or.inl ⟨by rfl, fun W hW => ?_⟩) (by assumption) ?_
  rotate_left
  · go_simp
    with_reducible rfl
  try simp only [Act.put, List.setIfInBounds_toArray, List.set_cons_zero, List.set_cons_succ]
  refine wpG_take (nx := [8, 2, 3, 4, 7, 6, 7, 8, 9, 10]) (i := 1) (oi := ⟨some 5, Op.move (Operand.tmp 0), 61, _, _, none⟩) (v := ?vq2) (by kernel_rfl) rfl (by decide) (by kernel_rfl) (by kernel_rfl) (by kernel_rfl) (fun _ _ _ h => h) (Or.inl ⟨by rfl, fun W hW => ?_⟩) (by assumption) ?_
  rotate_left
  · go_simp
    with_reducible rfl
  try simp only [Act.put, List.setIfInBounds_toArray, List.set_cons_zero, List.set_cons_succ]
  refine wpG_take (nx := [8, 2, 3, 4, 7, 6, 7, 8, 9, 10]) (i := 2) (oi := ⟨some 6, Op.nilCheck (Operand.tmp 5), 0, _, _, none⟩) (v := ?vq3) (by kernel_rfl) rfl (by decide) (by kernel_rfl) (by kernel_rfl) (by kernel_rfl) (fun _ _ _ h => h) (Or.inl ⟨by rfl, fun W hW => ?_⟩) (by assumption) ?_
  rotate_left
  · go_simp
    with_reducible rfl
  try simp only [Act.put, List.setIfInBounds_toArray, List.set_cons_zero, List.set_cons_succ]
  refine wpG_take (nx := [8, 2, 3, 4, 7, 6, 7, 8, 9, 10]) (i := 3) (oi := ⟨some 7, Op.fieldAddr 77 (Operand.tmp 6) 4, 0, _, _, none⟩) (v := ?vq4) (by kernel_rfl) rfl (by decide) (by kernel_rfl) (by kernel_rfl) (by kernel_rfl) (fun _ _ _ h => h) (Or.inl ⟨by rfl, fun W hW => ?_⟩) (by assumption) ?_
  rotate_left
  · go_simp
    with_reducible rfl
  try simp only [Act.put, List.setIfInBounds_toArray, List.set_cons_zero, List.set_cons_succ]
  refine wpG_take (nx := [8, 2, 3, 4, 7, 6, 7, 8, 9, 10]) (i := 4) (oi := ⟨some 8, Op.load 50 (Operand.tmp 7), 50, _, _, none⟩) (v := row) (by kernel_rfl) rfl (by decide) (by kernel_rfl) (by kernel_rfl) (by kernel_rfl) (fun _ _ _ h => h) (Or.inl ⟨by rfl, fun W hW => ?_⟩) (by assumption) ?_
  · (have a0 := hW.1; clear hW; go_simp)
  try simp only [Act.put, List.setIfInBounds_toArray, List.set_cons_zero, List.set_cons_succ]
  refine wpG_take (nx := [8, 2, 3, 4, 7, 6, 7, 8, 9, 10]) (i := 5) (oi := ⟨some 9, Op.load 34 (Operand.tmp 3), 34, _, _, none⟩) (v := .agg #[c0, c1, c2, c3]) (by kernel_rfl) rfl (by decide) (by kernel_rfl) (by kernel_rfl) (by kernel_rfl) (fun _ _ _ h => h) (Or.inl ⟨by rfl, fun W hW => ?_⟩) (by assumption) ?_
  · (have a0 := hW.2.cell 0; have a1 := hW.2.cell 1; have a2 := hW.2.cell 2; have a3 := hW.2.cell 3; clear hW; go_simp)
  try simp only [Act.put, List.setIfInBounds_toArray, List.set_cons_zero, List.set_cons_succ]
  refine wpG_ready (rs := [6]) (by kernel_rfl) (by simp) ?_
  refine AllG.cons (o := ⟨some 10, Op.buildSlice 50 1 #[(0, Operand.tmp 9)], 50, _, _, none⟩) rfl (fun KK hKK => ?_) AllG.nil
  go_simp
  obtain ⟨b6, f8⟩ : ∃ b, w0.heap.size = b := ⟨_, rfl⟩
  rw [f8]
  obtain ⟨W5, e7⟩ : ∃ W, World.alloc w0 (.cells #[c0, c1, c2, c3] 34) = W := ⟨_, rfl⟩
  rw [e7]
  have kk9 : Keeps [] w0 W5 := by rw [← e7]; exact (Keeps.refl [] _).alloc _
  have K10 : Keeps [] w W5 := K0.trans kk9 (by simp)
  have ob11 : Blk W5 b6 34 #[c0, c1, c2, c3] := by rw [← e7, ← f8]; exact Blk.new _ _ _
  refine hKK.out _ _ (HS.out _ (K10.mono (by simp))) (fun hHeld => ?_)
  clear hKK KK e7 f8
  try simp only [Act.put, List.setIfInBounds_toArray, List.set_cons_zero, List.set_cons_succ]
  refine wpG_ready (rs := [7]) (by kernel_rfl) (by simp) ?_
  refine AllG.cons (o := ⟨some 11, Op.call { callee := Callee.builtin Builtin.append, args := #[Operand.tmp 8, Operand.tmp 10], argTypes := #[50, 50] }, 50, _, _, none⟩) rfl (fun KK hKK => ?_) AllG.nil
  refine step_app (by rfl) (.tmp 8) (.tmp 10) 50 (by rfl) 34 zv32 4 64 Tryz.underlying50 info34 rfl (by omega) row n xs ?_ (HO.out _ K10) _ (some ⟨b6, 0, none⟩) 1 1 [c0, c1, c2, c3] ?_ (reads_blk ob11 rfl rfl) h1 (by unfold maxLen; omega) (by omega) (fun v13 W12 ob14 kk15 f16 => ?_)
  · first | (simp [Act.eval]; done) | (simp [Act.eval, Act.put]; done)
  · first | (simp [Act.eval]; done) | (simp [Act.eval, Act.put]; done)
  have K17 : Keeps (fp row) w W12 := (K10.mono (by simp)).trans kk15 (fun g hg => .inl hg)
  have ge18 : ∀ g ∈ fp v13, g ∈ fp row ∨ w.heap.size ≤ g := fun g hg => (f16 g hg).elim .inl (fun h => .inr (Nat.le_trans K10.size h))
  obtain ⟨A19, c20, rfl, -, -, -⟩ := own_shape ob14
  refine hKK.out _ _ (HS.out _ K17) (fun hHeld => ?_)
  clear hKK KK
  try simp only [Act.put, List.setIfInBounds_toArray, List.set_cons_zero, List.set_cons_succ]
  refine wpG_take (nx := [8, 2, 3, 4, 7, 6, 7, 8, 9, 10]) (i := 8) (oi := ⟨some 12, Op.nilCheck (Operand.tmp 4), 0, _, _, none⟩) (v := ?vq21) (by kernel_rfl) rfl (by decide) (by kernel_rfl) (by kernel_rfl) (by kernel_rfl) (fun _ _ _ h => h) (Or.inl ⟨by rfl, fun W hW => ?_⟩) (by assumption) ?_
  rotate_left
  · go_simp
    with_reducible rfl
  try simp only [Act.put, List.setIfInBounds_toArray, List.set_cons_zero, List.set_cons_succ]
  refine wpG_take (nx := [8, 2, 3, 4, 7, 6, 7, 8, 9, 10]) (i := 9) (oi := ⟨some 13, Op.fieldAddr 77 (Operand.tmp 12) 4, 0, _, _, none⟩) (v := ?vq22) (by kernel_rfl) rfl (by decide) (by kernel_rfl) (by kernel_rfl) (by kernel_rfl) (fun _ _ _ h => h) (Or.inl ⟨by rfl, fun W hW => ?_⟩) (by assumption) ?_
  rotate_left
  · go_simp
    with_reducible rfl
  try simp only [Act.put, List.setIfInBounds_toArray, List.set_cons_zero, List.set_cons_succ]
  refine wpG_ready (rs := [10]) (by kernel_rfl) (by simp) ?_
  refine AllG.last (o := ⟨none, Op.store 50 (Operand.tmp 13) (Operand.tmp 11), 0, _, _, none⟩) rfl (fun KK hKK => ?_)
  have hc0 := (HS.out _ K17).1
  have hf0 := HF.out _ K17
  go_simp
  refine hKK.out _ _ ?_
  clear hKK KK hHeld
  try simp only [Act.put, List.setIfInBounds_toArray, List.set_cons_zero, List.set_cons_succ]
  refine wpG_done (by kernel_rfl) ?_ _
  refine NoPanic.normal ?_
  exact hK _ _ _ _ _ _ _ _ _ _ (.slice A19 (n + 1) c20) _ ob14 K17 ge18
noncomputable def note3C : Code := ((Tryz.f80.body.bind (theRegion 3)).getD .skip)
set_option maxRecDepth 1000000 in
set_option maxHeartbeats 1600000 in
set_option linter.unusedSimpArgs false in
theorem note3_any (w : World) (b rb mb n : Nat) (c0 c3 : Value) (k : Str) (v : Str) (f : Str → Option Str) (K : Exit → Act → World → Prop)
    (hS : ∀ W, Keeps [] w W → W.cell? ⟨b, 5, none⟩ = some (.map (some mb)) ∧ Blk W rb 34 #[c0, sv k, sv v, c3] ∧ GMap kS eS W mb n f) (hn : n < maxLen) (hok : kS.ok k)
    (u1 u2 u4 u5 u6 u7 u8 u9 u10 u11 u12 u13 u14 u15 u16 u17 u18 u19 u20 u21 u22 u23 u24 u25 u26 u27 u28 u29 u30 u31 u32 : Value)
    (hK : ∀ (v17 v18 v19 v20 v21 v22 v23 v24 : Value) (W : World), GMap kS eS W mb (n + 1) (updG f k (some v)) → Keeps [mb] w W → K .normal ⟨#[.pointer (some ⟨b, 0, none⟩), u1, u2, .pointer (some ⟨rb, 0, none⟩), u4, u5, u6, u7, u8, u9, u10, u11, u12, u13, u14, u15, u16, v17, v18, v19, v20, v21, v22, v23, v24, u25, u26, u27, u28, u29, u30, u31, u32], []⟩ W) :
    Code.wp Tryz.prog note3C K ⟨#[.pointer (some ⟨b, 0, none⟩), u1, u2, .pointer (some ⟨rb, 0, none⟩), u4, u5, u6, u7, u8, u9, u10, u11, u12, u13, u14, u15, u16, u17, u18, u19, u20, u21, u22, u23, u24, u25, u26, u27, u28, u29, u30, u31, u32], []⟩ w := by
  have HS := Lib.hid hS
  clear hS
  conv => arg 2; whnf
  dsimp only at hK ⊢
  refine wp_region_noPanic ?_
  refine wp_region_last (S := fun W => W.cell? ⟨b, 5, none⟩ = some (.map (some mb)) ∧ Blk W rb 34 #[c0, sv k, sv v, c3] ∧ GMap kS eS W mb n f) 8 (by kernel_rfl) (HS.out _ ((Keeps.refl [] w).drew)) (fun hHeld => ?_)
  obtain ⟨w0, hw0⟩ : ∃ w0, w.drew = w0 := ⟨_, rfl⟩
  try rw [hw0] at hHeld
  rw [hw0]
  have K0 : Keeps [] w w0 := by rw [← hw0]; exact (Keeps.refl [] w).drew
  clear hw0
  refine wpG_take (nx := [1, 2, 3, 8, 5, 8, 7, 8]) (i := 0) (oi := ⟨some 17, Op.move (Operand.tmp 0), 61, _, _, none⟩) (v := ?vq23) (by kernel_rfl) rfl (by decide) (by kernel_rfl) (by kernel_rfl) (by kernel_rfl) (fun _ _ _ h => h) (Or.inl ⟨by rfl, fun W hW => ?_⟩) (by assumption) ?_
  rotate_left
  · go_simp
    with_reducible rfl
  try simp only [Act.put, List.setIfInBounds_toArray, List.set_cons_zero, List.set_cons_succ]
  refine wpG_take (nx := [1, 2, 3, 8, 5, 8, 7, 8]) (i := 1) (oi := ⟨some 18, Op.nilCheck (Operand.tmp 17), 0, _, _, none⟩) (v := ?vq24) (by kernel_rfl) rfl (by decide) (by kernel_rfl) (by kernel_rfl) (by kernel_rfl) (fun _ _ _ h => h) (Or.inl ⟨by rfl, fun W hW => ?_⟩) (by assumption) ?_
  rotate_left
  · go_simp
    with_reducible rfl
  try simp only [Act.put, List.setIfInBounds_toArray, List.set_cons_zero, List.set_cons_succ]
  refine wpG_take (nx := [1, 2, 3, 8, 5, 8, 7, 8]) (i := 2) (oi := ⟨some 19, Op.fieldAddr 77 (Operand.tmp 18) 5, 0, _, _, none⟩) (v := ?vq25) (by kernel_rfl) rfl (by decide) (by kernel_rfl) (by kernel_rfl) (by kernel_rfl) (fun _ _ _ h => h) (Or.inl ⟨by rfl, fun W hW => ?_⟩) (by assumption) ?_
  rotate_left
  · go_simp
    with_reducible rfl
  try simp only [Act.put, List.setIfInBounds_toArray, List.set_cons_zero, List.set_cons_succ]
  refine wpG_take (nx := [1, 2, 3, 8, 5, 8, 7, 8]) (i := 3) (oi := ⟨some 20, Op.load 74 (Operand.tmp 19), 74, _, _, none⟩) (v := .map (some mb)) (by kernel_rfl) rfl (by decide) (by kernel_rfl) (by kernel_rfl) (by kernel_rfl) (fun _ _ _ h => h) (Or.inl ⟨by rfl, fun W hW => ?_⟩) (by assumption) ?_
  · (have a0 := hW.1; clear hW; go_simp)
  try simp only [Act.put, List.setIfInBounds_toArray, List.set_cons_zero, List.set_cons_succ]
  refine wpG_take (nx := [1, 2, 3, 8, 5, 8, 7, 8]) (i := 4) (oi := ⟨some 21, Op.fieldAddr 34 (Operand.tmp 3) 1, 0, _, _, none⟩) (v := ?vq26) (by kernel_rfl) rfl (by decide) (by kernel_rfl) (by kernel_rfl) (by kernel_rfl) (fun _ _ _ h => h) (Or.inl ⟨by rfl, fun W hW => ?_⟩) (by assumption) ?_
  rotate_left
  · go_simp
    with_reducible rfl
  try simp only [Act.put, List.setIfInBounds_toArray, List.set_cons_zero, List.set_cons_succ]
  refine wpG_take (nx := [1, 2, 3, 8, 5, 8, 7, 8]) (i := 5) (oi := ⟨some 22, Op.load 9 (Operand.tmp 21), 9, _, _, none⟩) (v := sv k) (by kernel_rfl) rfl (by decide) (by kernel_rfl) (by kernel_rfl) (by kernel_rfl) (fun _ _ _ h => h) (Or.inl ⟨by rfl, fun W hW => ?_⟩) (by assumption) ?_
  · (have a0 := hW.2.1.cell 1; clear hW; go_simp)
  try simp only [Act.put, List.setIfInBounds_toArray, List.set_cons_zero, List.set_cons_succ]
  refine wpG_take (nx := [1, 2, 3, 8, 5, 8, 7, 8]) (i := 6) (oi := ⟨some 23, Op.fieldAddr 34 (Operand.tmp 3) 2, 0, _, _, none⟩) (v := ?vq27) (by kernel_rfl) rfl (by decide) (by kernel_rfl) (by kernel_rfl) (by kernel_rfl) (fun _ _ _ h => h) (Or.inl ⟨by rfl, fun W hW => ?_⟩) (by assumption) ?_
  rotate_left
  · go_simp
    with_reducible rfl
  try simp only [Act.put, List.setIfInBounds_toArray, List.set_cons_zero, List.set_cons_succ]
  refine wpG_take (nx := [1, 2, 3, 8, 5, 8, 7, 8]) (i := 7) (oi := ⟨some 24, Op.load 9 (Operand.tmp 23), 9, _, _, none⟩) (v := sv v) (by kernel_rfl) rfl (by decide) (by kernel_rfl) (by kernel_rfl) (by kernel_rfl) (fun _ _ _ h => h) (Or.inl ⟨by rfl, fun W hW => ?_⟩) (by assumption) ?_
  · (have a0 := hW.2.1.cell 2; clear hW; go_simp)
  try simp only [Act.put, List.setIfInBounds_toArray, List.set_cons_zero, List.set_cons_succ]
  refine wpG_ready (rs := [8]) (by kernel_rfl) (by simp) ?_
  refine AllG.last (o := ⟨none, Op.mapUpdate 74 (Operand.tmp 20) (Operand.tmp 22) (Operand.tmp 24), 0, _, _, none⟩) rfl (fun KK hKK => ?_)
  refine step_updG (S := kS) (E := eS) rfl _ _ _ 74 rfl Tryz.underlying74 mb n f (by first | (simp [Act.eval]; done) | (simp [Act.eval, Act.put]; done)) (HS.out _ K0).2.2 hn k v (show _ = sv k by first | (simp [Act.eval]; done) | (simp [Act.eval, Act.put]; done)) (show _ = sv v by first | (simp [Act.eval]; done) | (simp [Act.eval, Act.put]; done)) hok ?_
  intro W28 mo29 k30
  have K9 : Keeps [mb] w W28 := (K0.mono (by simp)).trans k30 (by simp)
  refine hKK.out _ _ ?_
  clear hKK KK
  try simp only [Act.put, List.setIfInBounds_toArray, List.set_cons_zero, List.set_cons_succ]
  refine wpG_done (by kernel_rfl) ?_ _
  refine NoPanic.normal ?_
  exact hK _ _ _ _ _ _ _ _ _ mo29 K9
noncomputable def note4C : Code := ((Tryz.f80.body.bind (theRegion 4)).getD .skip)
set_option maxRecDepth 1000000 in
set_option maxHeartbeats 1600000 in
set_option linter.unusedSimpArgs false in
theorem note4_any (w : World) (b rb mb n : Nat) (c0 c2 : Value) (k : Str) (v : SlV) (f : Str → Option SlV) (K : Exit → Act → World → Prop)
    (hS : ∀ W, Keeps [] w W → W.cell? ⟨b, 6, none⟩ = some (.map (some mb)) ∧ Blk W rb 34 #[c0, sv k, c2, v.v] ∧ GMap kS eL W mb n f) (hn : n < maxLen) (hok : kS.ok k)
    (u1 u2 u4 u5 u6 u7 u8 u9 u10 u11 u12 u13 u14 u15 u16 u17 u18 u19 u20 u21 u22 u23 u24 u25 u26 u27 u28 u29 u30 u31 u32 : Value)
    (hK : ∀ (v25 v26 v27 v28 v29 v30 v31 v32 : Value) (W : World), GMap kS eL W mb (n + 1) (updG f k (some v)) → Keeps [mb] w W → K .normal ⟨#[.pointer (some ⟨b, 0, none⟩), u1, u2, .pointer (some ⟨rb, 0, none⟩), u4, u5, u6, u7, u8, u9, u10, u11, u12, u13, u14, u15, u16, u17, u18, u19, u20, u21, u22, u23, u24, v25, v26, v27, v28, v29, v30, v31, v32], []⟩ W) :
    Code.wp Tryz.prog note4C K ⟨#[.pointer (some ⟨b, 0, none⟩), u1, u2, .pointer (some ⟨rb, 0, none⟩), u4, u5, u6, u7, u8, u9, u10, u11, u12, u13, u14, u15, u16, u17, u18, u19, u20, u21, u22, u23, u24, u25, u26, u27, u28, u29, u30, u31, u32], []⟩ w := by
  have HS := Lib.hid hS
  clear hS
  conv => arg 2; whnf
  dsimp only at hK ⊢
  refine wp_region_noPanic ?_
  refine wp_region_last (S := fun W => W.cell? ⟨b, 6, none⟩ = some (.map (some mb)) ∧ Blk W rb 34 #[c0, sv k, c2, v.v] ∧ GMap kS eL W mb n f) 8 (by kernel_rfl) (HS.out _ ((Keeps.refl [] w).drew)) (fun hHeld => ?_)
  obtain ⟨w0, hw0⟩ : ∃ w0, w.drew = w0 := ⟨_, rfl⟩
  try rw [hw0] at hHeld
  rw [hw0]
  have K0 : Keeps [] w w0 := by rw [← hw0]; exact (Keeps.refl [] w).drew
  clear hw0
  refine wpG_take (nx := [1, 2, 3, 8, 5, 8, 7, 8]) (i := 0) (oi := ⟨some 25, Op.move (Operand.tmp 0), 61, _, _, none⟩) (v := ?vq31) (by kernel_rfl) rfl (by decide) (by kernel_rfl) (by kernel_rfl) (by kernel_rfl) (fun _ _ _ h => h) (Or.inl ⟨by rfl, fun W hW => ?_⟩) (by assumption) ?_
  rotate_left
  · go_simp
    with_reducible rfl
  try simp only [Act.put, List.setIfInBounds_toArray, List.set_cons_zero, List.set_cons_succ]
  refine wpG_take (nx := [1, 2, 3, 8, 5, 8, 7, 8]) (i := 1) (oi := ⟨some 26, Op.nilCheck (Operand.tmp 25), 0, _, _, none⟩) (v := ?vq32) (by kernel_rfl) rfl (by decide) (by kernel_rfl) (by kernel_rfl) (by kernel_rfl) (fun _ _ _ h => h) (Or.inl ⟨by rfl, fun W hW => ?_⟩) (by assumption) ?_
  rotate_left
  · go_simp
    with_reducible rfl
  try simp only [Act.put, List.setIfInBounds_toArray, List.set_cons_zero, List.set_cons_succ]
  refine wpG_take (nx := [1, 2, 3, 8, 5, 8, 7, 8]) (i := 2) (oi := ⟨some 27, Op.fieldAddr 77 (Operand.tmp 26) 6, 0, _, _, none⟩) (v := ?vq33) (by kernel_rfl) rfl (by decide) (by kernel_rfl) (by kernel_rfl) (by kernel_rfl) (fun _ _ _ h => h) (Or.inl ⟨by rfl, fun W hW => ?_⟩) (by assumption) ?_
  rotate_left
  · go_simp
    with_reducible rfl
  try simp only [Act.put, List.setIfInBounds_toArray, List.set_cons_zero, List.set_cons_succ]
  refine wpG_take (nx := [1, 2, 3, 8, 5, 8, 7, 8]) (i := 3) (oi := ⟨some 28, Op.load 75 (Operand.tmp 27), 75, _, _, none⟩) (v := .map (some mb)) (by kernel_rfl) rfl (by decide) (by kernel_rfl) (by kernel_rfl) (by kernel_rfl) (fun _ _ _ h => h) (Or.inl ⟨by rfl, fun W hW => ?_⟩) (by assumption) ?_
  · (have a0 := hW.1; clear hW; go_simp)
  try simp only [Act.put, List.setIfInBounds_toArray, List.set_cons_zero, List.set_cons_succ]
  refine wpG_take (nx := [1, 2, 3, 8, 5, 8, 7, 8]) (i := 4) (oi := ⟨some 29, Op.fieldAddr 34 (Operand.tmp 3) 1, 0, _, _, none⟩) (v := ?vq34) (by kernel_rfl) rfl (by decide) (by kernel_rfl) (by kernel_rfl) (by kernel_rfl) (fun _ _ _ h => h) (Or.inl ⟨by rfl, fun W hW => ?_⟩) (by assumption) ?_
  rotate_left
  · go_simp
    with_reducible rfl
  try simp only [Act.put, List.setIfInBounds_toArray, List.set_cons_zero, List.set_cons_succ]
  refine wpG_take (nx := [1, 2, 3, 8, 5, 8, 7, 8]) (i := 5) (oi := ⟨some 30, Op.load 9 (Operand.tmp 29), 9, _, _, none⟩) (v := sv k) (by kernel_rfl) rfl (by decide) (by kernel_rfl) (by kernel_rfl) (by kernel_rfl) (fun _ _ _ h => h) (Or.inl ⟨by rfl, fun W hW => ?_⟩) (by assumption) ?_
  · (have a0 := hW.2.1.cell 1; clear hW; go_simp)
  try simp only [Act.put, List.setIfInBounds_toArray, List.set_cons_zero, List.set_cons_succ]
  refine wpG_take (nx := [1, 2, 3, 8, 5, 8, 7, 8]) (i := 6) (oi := ⟨some 31, Op.fieldAddr 34 (Operand.tmp 3) 3, 0, _, _, none⟩) (v := ?vq35) (by kernel_rfl) rfl (by decide) (by kernel_rfl) (by kernel_rfl) (by kernel_rfl) (fun _ _ _ h => h) (Or.inl ⟨by rfl, fun W hW => ?_⟩) (by assumption) ?_
  rotate_left
  · go_simp
    with_reducible rfl
  try simp only [Act.put, List.setIfInBounds_toArray, List.set_cons_zero, List.set_cons_succ]
  refine wpG_take (nx := [1, 2, 3, 8, 5, 8, 7, 8]) (i := 7) (oi := ⟨some 32, Op.load 29 (Operand.tmp 31), 29, _, _, none⟩) (v := v.v) (by kernel_rfl) rfl (by decide) (by kernel_rfl) (by kernel_rfl) (by kernel_rfl) (fun _ _ _ h => h) (Or.inl ⟨by rfl, fun W hW => ?_⟩) (by assumption) ?_
  · (have a0 := hW.2.1.cell 3; clear hW; go_simp)
  try simp only [Act.put, List.setIfInBounds_toArray, List.set_cons_zero, List.set_cons_succ]
  refine wpG_ready (rs := [8]) (by kernel_rfl) (by simp) ?_
  refine AllG.last (o := ⟨none, Op.mapUpdate 75 (Operand.tmp 28) (Operand.tmp 30) (Operand.tmp 32), 0, _, _, none⟩) rfl (fun KK hKK => ?_)
  refine step_updG (S := kS) (E := eL) rfl _ _ _ 75 rfl Tryz.underlying75 mb n f (by first | (simp [Act.eval]; done) | (simp [Act.eval, Act.put]; done)) (HS.out _ K0).2.2 hn k v (show _ = sv k by first | (simp [Act.eval]; done) | (simp [Act.eval, Act.put]; done)) (show _ = v.v by first | (simp [Act.eval]; done) | (simp [Act.eval, Act.put]; done)) hok ?_
  intro W36 mo37 k38
  have K9 : Keeps [mb] w W36 := (K0.mono (by simp)).trans k38 (by simp)
  refine hKK.out _ _ ?_
  clear hKK KK
  try simp only [Act.put, List.setIfInBounds_toArray, List.set_cons_zero, List.set_cons_succ]
  refine wpG_done (by kernel_rfl) ?_ _
  refine NoPanic.normal ?_
  exact hK _ _ _ _ _ _ _ _ _ mo37 K9
end Go.Proofs.YtbllmpcpfmlemaaGreat
namespace Go.Proofs.YtbllmpcpfmlemaaGreat
open Go.RowKit

theorem rw_snoc (c : Rd → List Value) (l : List Rd) (r : Rd) : rw c (l ++ [r]) = rw c l ++ c r := by rw [rw_append, rw_cons, rw_nil, List.append_nil]
theorem rw_congr {c d : Rd → List Value} {l : List Rd} (h : ∀ r ∈ l, c r = d r) : rw c l = rw d l := by
  induction l with
  | nil => rfl
  | cons x l ih => rw [rw_cons, rw_cons, h x (by simp), ih (fun r hr => h r (by simp [hr]))]
def slSet (sl : Str → SlV) (p : Str) (u : SlV) : Str → SlV := fun q => if q = p then u else sl q
theorem rdC_slSet {sl : Str → SlV} {p : Str} {u : SlV} {r : Rd} (h : p ∉ prefixes [r]) : rdC (slSet sl p u) r = rdC sl r := by
  cases r with
  | cell k v => rfl
  | keys q l =>
    have e : slSet sl p u q = sl q := if_neg (fun e => h (by rw [e]; simp [prefixes]))
    show [Value.int .i64 1, sv q, sv [], (slSet sl p u q).v] = _
    rw [e]
    rfl
theorem not_prefix {l : List Rd} {p : Str} (h : p ∉ prefixes l) : ∀ r ∈ l, p ∉ prefixes [r] := by
  intro r hr hp
  cases r with
  | cell k v => simp [prefixes] at hp
  | keys q v =>
    rw [show p = q by simpa [prefixes] using hp] at h
    exact h (mem_prefixes hr)
theorem Lab.ne {L : Nat → Option (Int × Nat)} {i : Int} {g g' n n' : Nat} (h : L g = some (i, n)) (h' : L g' = some (i, n')) (hn : n ≠ n') : g ≠ g' := by
  rintro rfl
  rw [h] at h'
  injection h' with h'
  injection h' with _ h'
  exact hn h'
theorem own_apart {w : World} {e e' size size' n n' : Nat} {v v' : Value} {xs xs' : List Value} (h : w.ownsRow 0 e size v n xs) (h' : w.ownsRow 0 e' size' v' n' xs') (hne : e ≠ e') : ∀ g ∈ fp v, g ∉ fp v' := by
  intro g hg hg'
  rcases h'.2 with ⟨rfl, _⟩ | ⟨g', cap, cur, rfl, _, hh, _⟩
  · simp at hg'
  · simp at hg'
    subst hg'
    exact own_blk_off h (t := e') (cs := cur) hh hne hg
set_option maxRecDepth 100000 in
set_option maxHeartbeats 3200000 in
theorem noteCell_any {w : World} {M : Mem} {pp : Option Nat} {nk : Nat} {x : One} {i : Int} {L : Nat → Option (Int × Nat)} (h : OneAt w M pp nk x) (hL : Lab L i M) (hn : x.rd.length < 1000000000) (k v : Str) (hk : kS.ok k) (hc : cellOf x.rd k = none) :
    Calls Tryz.prog 80 #[.pointer (some ⟨M.b, 0, none⟩), .agg #[.int .i64 0, sv k, sv v, .slice none 0 0]] w fun e w' => e = .returned (.tuple #[]) ∧
      ∃ row, OneAt w' { M with row := row } pp nk (addRd (.cell k v) x) ∧ Keeps (M.b :: M.mv :: fp M.row) w w' ∧ ∀ g ∈ fp row, g ∈ fp M.row ∨ w.heap.size ≤ g := by
  have hlen : (cellKeys x.rd).length < maxLen := by have := rd_len x.rd; unfold maxLen; omega
  have H := Lib.hid h
  have hrow : M.b ∉ fp M.row := own_blk_off h.o h.b (by decide)
  have hbl := h.b.lt
  have hml := h.v.lt
  have hHn := Lib.hid hn
  have hmvb : M.mv ≠ M.b := h.v.ne_blk h.b
  clear h hn
  go_enter Tryz.func80, Tryz.ntmps80
  have KA : Hid (Keeps [] w (w.alloc (.cells #[.int .i64 0, sv k, sv v, .slice none 0 0] 34))) := Lib.hid ((Keeps.refl [] w).alloc _)
  have BA := Lib.hid (Blk.new w 34 #[.int .i64 0, sv k, sv v, .slice none 0 0])
  have SA : Hid ((w.alloc (.cells #[.int .i64 0, sv k, sv v, .slice none 0 0] 34)).heap.size = w.heap.size + 1) := Lib.hid (by simp)
  go_upto_region 1 with fail
  generalize w.alloc (.cells #[.int .i64 0, sv k, sv v, .slice none 0 0] 34) = w1 at KA BA SA ⊢
  generalize hrb : w.heap.size = rb at BA SA ⊢
  have hrow1 : rb ∉ fp M.row := fun hg => by have := own_lt H.out.o hg; omega
  refine note1_any w1 M.b rb x.rd.length M.row (rw (rdC M.sl) x.rd) (.int .i64 0) (sv k) (sv v) (.slice none 0 0) _ ?_ ?_ ?_ (by simp [Value.oneCell']) hHn.out _ _ _ _ _ _ _ _ _ _ _ _ _ _ _ _ _ _ _ _ _ _ _ _ _ _ _ _ _ _ _ ?_
  · intro W hW
    refine ⟨((hW.cell (p := ⟨M.b, 4, none⟩) (Nat.lt_of_lt_of_le hbl KA.out.size) hrow).trans ((KA.out.cell (p := ⟨M.b, 4, none⟩) hbl (by simp)).trans (H.out.b.cell 4))), BA.out.keep hW hrow1⟩
  · intro W hW
    exact ((H.out.b.keep KA.out (by simp)).keep hW hrow).frozen 4
  · intro W hW
    exact own_keep H.out.o (KA.out.trans hW (by simp)) (by simp)
  intro v4 v5 v6 v7 v8 v9 v10 v11 v12 v13 row2 W o2 k2 f2
  have f3 : ∀ g ∈ fp row2, g ∈ fp M.row ∨ rb + 1 ≤ g := fun g hg => by rw [← SA.out]; exact f2 g hg
  have hbr2 : M.b ∉ fp row2 := fun hg => (f3 _ hg).elim hrow (fun h => by omega)
  have hrb2 : rb ∉ fp row2 := fun hg => (f3 _ hg).elim hrow1 (fun h => by omega)
  have KW0 : Keeps (fp M.row) w W := (KA.out.mono (by simp)).trans k2 (fun g hg => .inl hg)
  have KW : Hid (Keeps (M.b :: fp M.row) w (W.setCell ⟨M.b, 4, none⟩ row2)) := Lib.hid ((KW0.mono (fun g hg => by simp [hg])).setCell (by simp) _)
  have B2 : Hid (Blk (W.setCell ⟨M.b, 4, none⟩ row2) M.b 77 #[pv pp, .int .i64 nk, .map (some M.mw), .map (some M.ml), row2, .map (some M.mv), .map (some M.mq)]) := Lib.hid (((H.out.b.keep KW0 hrow).set_ 4 row2))
  have BR : Hid (Blk (W.setCell ⟨M.b, 4, none⟩ row2) rb 34 #[.int .i64 0, sv k, sv v, .slice none 0 0]) := Lib.hid ((BA.out.keep k2 hrow1).far (by show rb ≠ M.b; omega) row2)
  have OR : Hid ((W.setCell ⟨M.b, 4, none⟩ row2).ownsRow 0 34 4 row2 (x.rd.length + 1) (rw (rdC M.sl) x.rd ++ [.int .i64 0, sv k, sv v, .slice none 0 0])) := Lib.hid (own_far o2 hbr2 row2)
  have r0 := BR.out.cell 0
  clear o2 k2 f2 KW0
  generalize W.setCell ⟨M.b, 4, none⟩ row2 = W2 at KW B2 BR OR r0 ⊢
  have r0' : W2.cell? ⟨rb, 0, none⟩ = some (.int .i64 0) := r0
  clear r0
  go_upto_region 3 with fail
  have hmr : M.mv ∉ M.b :: fp M.row := by
    intro hg
    rcases List.mem_cons.1 hg with h1 | h1
    · exact hmvb h1
    · exact Lab.ne hL.mv (hL.row _ h1) (by omega) rfl
  have GM := Lib.hid (H.out.v.keep KW.out hmr)
  refine note3_any W2 M.b rb M.mv _ (.int .i64 0) (.slice none 0 0) k v (cellOf x.rd) _ ?_ hlen hk _ _ _ _ _ _ _ _ _ _ _ _ _ _ _ _ _ _ _ _ _ _ _ _ _ _ _ _ _ _ _ ?_
  · intro W3 hW3
    exact ⟨(hW3.cell (p := ⟨M.b, 5, none⟩) B2.out.lt (by simp)).trans (B2.out.cell 5), BR.out.keep hW3 (by simp), GM.out.keep hW3 (by simp)⟩
  intro w17 w18 w19 w20 w21 w22 w23 w24 W3 g3 k3
  have KW3 : Keeps (M.b :: M.mv :: fp M.row) w W3 := (KW.out.mono (fun g hg => by rcases List.mem_cons.1 hg with h | h <;> simp [h])).trans k3 (fun g hg => .inl (by rw [List.mem_singleton.1 hg]; simp))
  go_wp2_with fail
  go_end0
  have hx3 : ∀ g, g ∉ M.b :: fp M.row → g ≠ M.mv → g ∉ M.b :: M.mv :: fp M.row := by
    intro g h1 h2 h3
    simp only [List.mem_cons] at h1 h3
    rcases h3 with h3 | h3 | h3
    · exact h1 (.inl h3)
    · exact h2 h3
    · exact h1 (.inr h3)
  have hoff : ∀ g n, L g = some (i, n) → n ≠ 0 → n ≠ 5 → g ∉ M.b :: fp M.row := by
    intro g n hg h1 h2 h3
    rcases List.mem_cons.1 h3 with h3 | h3
    · exact Lab.ne hg hL.b h1 h3
    · exact Lab.ne hg (hL.row _ h3) h2 rfl
  have hx3s : ∀ (_ : Mem) {v : Value} {n : Nat} {xs : List Value}, w.ownsRow 0 9 1 v n xs → ∀ g ∈ fp v, g ∉ M.b :: M.mv :: fp M.row := by
    intro _ v' n' xs' h0 g hg h1
    simp only [List.mem_cons] at h1
    rcases h1 with h1 | h1 | h1
    · exact own_blk_off h0 H.out.b (by decide) (by rw [← h1]; exact hg)
    · exact H.out.v.off h0 (by rw [← h1]; exact hg)
    · exact own_apart h0 H.out.o (by decide) g hg h1
  refine ⟨rfl, row2, ⟨B2.out.keep k3 (by simpa using Ne.symm hmvb), H.out.wm.keep KW3 (hx3 _ (hoff _ _ hL.mw (by omega) (by omega)) (Lab.ne hL.mw hL.mv (by omega))), H.out.l.keep KW3 (hx3 _ (hoff _ _ hL.ml (by omega) (by omega)) (Lab.ne hL.ml hL.mv (by omega))), ?_, ?_, ?_, ?_⟩, KW3, fun g hg => (f3 g hg).elim .inl (fun h => .inr (by omega))⟩
  · show W3.ownsRow 0 34 4 row2 (x.rd ++ [_]).length (rw (rdC M.sl) (x.rd ++ [_]))
    rw [rw_snoc, List.length_append]
    refine own_keep OR.out k3 (fun g hg h1 => ?_)
    rw [List.mem_singleton.1 h1] at hg
    rcases f3 _ hg with h2 | h2
    · exact Lab.ne hL.mv (hL.row _ h2) (by omega) rfl
    · omega
  · show GMap kS eS W3 M.mv (cellKeys (x.rd ++ [_])).length (cellOf (x.rd ++ [_]))
    rw [cellKeys_append, List.length_append]
    refine g3.congr (fun q _ => ?_)
    rw [cellOf_append]
    unfold updG
    by_cases hq : q = k
    · subst hq
      rw [if_pos rfl, hc]
      simp [cellOf]
    · rw [if_neg hq]
      simp [cellOf, Ne.symm hq]
  · show GMap kS eL W3 M.mq (prefixes (x.rd ++ [_])).length (fun p => (keysOf (x.rd ++ [_]) p).map fun _ => M.sl p)
    rw [prefixes_append, show prefixes [Rd.cell k v] = [] from rfl, List.append_nil]
    refine (H.out.k.keep KW3 (hx3 _ (hoff _ _ hL.mq (by omega) (by omega)) (Lab.ne hL.mq hL.mv (by omega)))).congr (fun q _ => ?_)
    rw [keysOf_append]
    simp [keysOf]
  · intro p l hl
    rcases List.mem_append.1 (show _ ∈ x.rd ++ [_] from hl) with h1 | h1
    · have h0 := H.out.s p l h1
      refine own_keep h0 KW3 (hx3s M h0)
    · simp at h1
set_option maxRecDepth 100000 in
set_option maxHeartbeats 3200000 in
theorem noteKeys_any {w : World} {M : Mem} {pp : Option Nat} {nk : Nat} {x : One} {i : Int} {L : Nat → Option (Int × Nat)} (h : OneAt w M pp nk x) (hL : Lab L i M) (hn : x.rd.length < 1000000000) (p : Str) (l : List Str) (u : SlV) (hk : kS.ok p) (hc : keysOf x.rd p = none) (hu : w.ownsRow 0 9 1 u.v l.length (l.map sv)) :
    Calls Tryz.prog 80 #[.pointer (some ⟨M.b, 0, none⟩), .agg #[.int .i64 1, sv p, sv [], u.v]] w fun e w' => e = .returned (.tuple #[]) ∧
      ∃ row, OneAt w' { M with row := row, sl := slSet M.sl p u } pp nk (addRd (.keys p l) x) ∧ Keeps (M.b :: M.mq :: fp M.row) w w' ∧ ∀ g ∈ fp row, g ∈ fp M.row ∨ w.heap.size ≤ g := by
  have hlen : (prefixes x.rd).length < maxLen := by have := rd_len x.rd; unfold maxLen; omega
  have H := Lib.hid h
  have HU := Lib.hid hu
  clear hu
  have hrow : M.b ∉ fp M.row := own_blk_off h.o h.b (by decide)
  have hbl := h.b.lt
  have hml := h.k.lt
  have hHn := Lib.hid hn
  have hmvb : M.mq ≠ M.b := h.k.ne_blk h.b
  clear h hn
  go_enter Tryz.func80, Tryz.ntmps80
  have KA : Hid (Keeps [] w (w.alloc (.cells #[.int .i64 1, sv p, sv [], u.v] 34))) := Lib.hid ((Keeps.refl [] w).alloc _)
  have BA := Lib.hid (Blk.new w 34 #[.int .i64 1, sv p, sv [], u.v])
  have SA : Hid ((w.alloc (.cells #[.int .i64 1, sv p, sv [], u.v] 34)).heap.size = w.heap.size + 1) := Lib.hid (by simp)
  go_upto_region 1 with fail
  generalize w.alloc (.cells #[.int .i64 1, sv p, sv [], u.v] 34) = w1 at KA BA SA ⊢
  generalize hrb : w.heap.size = rb at BA SA ⊢
  have hrow1 : rb ∉ fp M.row := fun hg => by have := own_lt H.out.o hg; omega
  refine note1_any w1 M.b rb x.rd.length M.row (rw (rdC M.sl) x.rd) (.int .i64 1) (sv p) (sv []) (u.v) _ ?_ ?_ ?_ (by simp [Value.oneCell', SlV.v]) hHn.out _ _ _ _ _ _ _ _ _ _ _ _ _ _ _ _ _ _ _ _ _ _ _ _ _ _ _ _ _ _ _ ?_
  · intro W hW
    refine ⟨((hW.cell (p := ⟨M.b, 4, none⟩) (Nat.lt_of_lt_of_le hbl KA.out.size) hrow).trans ((KA.out.cell (p := ⟨M.b, 4, none⟩) hbl (by simp)).trans (H.out.b.cell 4))), BA.out.keep hW hrow1⟩
  · intro W hW
    exact ((H.out.b.keep KA.out (by simp)).keep hW hrow).frozen 4
  · intro W hW
    exact own_keep H.out.o (KA.out.trans hW (by simp)) (by simp)
  intro v4 v5 v6 v7 v8 v9 v10 v11 v12 v13 row2 W o2 k2 f2
  have f3 : ∀ g ∈ fp row2, g ∈ fp M.row ∨ rb + 1 ≤ g := fun g hg => by rw [← SA.out]; exact f2 g hg
  have hbr2 : M.b ∉ fp row2 := fun hg => (f3 _ hg).elim hrow (fun h => by omega)
  have hrb2 : rb ∉ fp row2 := fun hg => (f3 _ hg).elim hrow1 (fun h => by omega)
  have KW0 : Keeps (fp M.row) w W := (KA.out.mono (by simp)).trans k2 (fun g hg => .inl hg)
  have KW : Hid (Keeps (M.b :: fp M.row) w (W.setCell ⟨M.b, 4, none⟩ row2)) := Lib.hid ((KW0.mono (fun g hg => by simp [hg])).setCell (by simp) _)
  have B2 : Hid (Blk (W.setCell ⟨M.b, 4, none⟩ row2) M.b 77 #[pv pp, .int .i64 nk, .map (some M.mw), .map (some M.ml), row2, .map (some M.mv), .map (some M.mq)]) := Lib.hid (((H.out.b.keep KW0 hrow).set_ 4 row2))
  have BR : Hid (Blk (W.setCell ⟨M.b, 4, none⟩ row2) rb 34 #[.int .i64 1, sv p, sv [], u.v]) := Lib.hid ((BA.out.keep k2 hrow1).far (by show rb ≠ M.b; omega) row2)
  have OR : Hid ((W.setCell ⟨M.b, 4, none⟩ row2).ownsRow 0 34 4 row2 (x.rd.length + 1) (rw (rdC M.sl) x.rd ++ [.int .i64 1, sv p, sv [], u.v])) := Lib.hid (own_far o2 hbr2 row2)
  have r0 := BR.out.cell 0
  clear o2 k2 f2 KW0
  generalize W.setCell ⟨M.b, 4, none⟩ row2 = W2 at KW B2 BR OR r0 ⊢
  have r0' : W2.cell? ⟨rb, 0, none⟩ = some (.int .i64 1) := r0
  clear r0
  go_upto_region 4 with fail
  have hmr : M.mq ∉ M.b :: fp M.row := by
    intro hg
    rcases List.mem_cons.1 hg with h1 | h1
    · exact hmvb h1
    · exact Lab.ne hL.mq (hL.row _ h1) (by omega) rfl
  have GM := Lib.hid (H.out.k.keep KW.out hmr)
  refine note4_any W2 M.b rb M.mq _ (.int .i64 1) (sv []) p u (fun q => (keysOf x.rd q).map fun _ => M.sl q) _ ?_ hlen hk _ _ _ _ _ _ _ _ _ _ _ _ _ _ _ _ _ _ _ _ _ _ _ _ _ _ _ _ _ _ _ ?_
  · intro W3 hW3
    exact ⟨(hW3.cell (p := ⟨M.b, 6, none⟩) B2.out.lt (by simp)).trans (B2.out.cell 6), BR.out.keep hW3 (by simp), GM.out.keep hW3 (by simp)⟩
  intro w17 w18 w19 w20 w21 w22 w23 w24 W3 g3 k3
  have KW3 : Keeps (M.b :: M.mq :: fp M.row) w W3 := (KW.out.mono (fun g hg => by rcases List.mem_cons.1 hg with h | h <;> simp [h])).trans k3 (fun g hg => .inl (by rw [List.mem_singleton.1 hg]; simp))
  go_wp2_with fail
  go_end0
  have hx3 : ∀ g, g ∉ M.b :: fp M.row → g ≠ M.mq → g ∉ M.b :: M.mq :: fp M.row := by
    intro g h1 h2 h3
    simp only [List.mem_cons] at h1 h3
    rcases h3 with h3 | h3 | h3
    · exact h1 (.inl h3)
    · exact h2 h3
    · exact h1 (.inr h3)
  have hoff : ∀ g n, L g = some (i, n) → n ≠ 0 → n ≠ 5 → g ∉ M.b :: fp M.row := by
    intro g n hg h1 h2 h3
    rcases List.mem_cons.1 h3 with h3 | h3
    · exact Lab.ne hg hL.b h1 h3
    · exact Lab.ne hg (hL.row _ h3) h2 rfl
  have hx3s : ∀ (_ : Mem) {v : Value} {n : Nat} {xs : List Value}, w.ownsRow 0 9 1 v n xs → ∀ g ∈ fp v, g ∉ M.b :: M.mq :: fp M.row := by
    intro _ v' n' xs' h0 g hg h1
    simp only [List.mem_cons] at h1
    rcases h1 with h1 | h1 | h1
    · exact own_blk_off h0 H.out.b (by decide) (by rw [← h1]; exact hg)
    · exact H.out.k.off h0 (by rw [← h1]; exact hg)
    · exact own_apart h0 H.out.o (by decide) g hg h1
  have e1 : ∀ r ∈ x.rd, rdC (slSet M.sl p u) r = rdC M.sl r := fun r hr => rdC_slSet (not_prefix (keysOf_none.1 hc) r hr)
  have e2 : slSet M.sl p u p = u := if_pos rfl
  refine ⟨rfl, row2, ⟨B2.out.keep k3 (by simpa using Ne.symm hmvb), H.out.wm.keep KW3 (hx3 _ (hoff _ _ hL.mw (by omega) (by omega)) (Lab.ne hL.mw hL.mq (by omega))), H.out.l.keep KW3 (hx3 _ (hoff _ _ hL.ml (by omega) (by omega)) (Lab.ne hL.ml hL.mq (by omega))), ?_, ?_, ?_, ?_⟩, KW3, fun g hg => (f3 g hg).elim .inl (fun h => .inr (by omega))⟩
  · show W3.ownsRow 0 34 4 row2 (x.rd ++ [_]).length (rw (rdC (slSet M.sl p u)) (x.rd ++ [_]))
    rw [rw_snoc, List.length_append, rw_congr e1]
    have e3 : rdC (slSet M.sl p u) (.keys p l) = [.int .i64 1, sv p, sv [], u.v] := by show [Value.int .i64 1, sv p, sv [], (slSet M.sl p u p).v] = _; rw [e2]
    rw [e3]
    refine own_keep OR.out k3 (fun g hg h1 => ?_)
    rw [List.mem_singleton.1 h1] at hg
    rcases f3 _ hg with h2 | h2
    · exact Lab.ne hL.mq (hL.row _ h2) (by omega) rfl
    · omega
  · show GMap kS eS W3 M.mv (cellKeys (x.rd ++ [_])).length (cellOf (x.rd ++ [_]))
    rw [cellKeys_append, show cellKeys [Rd.keys p l] = [] from rfl, List.append_nil]
    refine (H.out.v.keep KW3 (hx3 _ (hoff _ _ hL.mv (by omega) (by omega)) (Lab.ne hL.mv hL.mq (by omega)))).congr (fun q _ => ?_)
    rw [cellOf_append]
    simp [cellOf]
  · show GMap kS eL W3 M.mq (prefixes (x.rd ++ [_])).length (fun q => (keysOf (x.rd ++ [_]) q).map fun _ => slSet M.sl p u q)
    rw [prefixes_append, List.length_append]
    refine g3.congr (fun q _ => ?_)
    rw [keysOf_append]
    unfold updG
    by_cases hq : q = p
    · subst hq
      rw [if_pos rfl, hc, e2]
      simp [keysOf]
    · rw [if_neg hq]
      have e4 : slSet M.sl p u q = M.sl q := if_neg hq
      rw [e4]
      simp [keysOf, Ne.symm hq]
  · intro q l' hl
    rcases List.mem_append.1 (show _ ∈ x.rd ++ [_] from hl) with h1 | h1
    · have h0 := H.out.s q l' h1
      have e4 : slSet M.sl p u q = M.sl q := if_neg (fun e => keysOf_none.1 hc (by rw [← e]; exact mem_prefixes h1))
      show W3.ownsRow 0 9 1 (slSet M.sl p u q).v _ _
      rw [e4]
      exact own_keep h0 KW3 (hx3s M h0)
    · rw [List.mem_singleton] at h1
      injection h1 with h1 h2
      subst h1; subst h2
      show W3.ownsRow 0 9 1 (slSet M.sl q u q).v _ _
      rw [e2]
      exact own_keep HU.out KW3 (hx3s M HU.out)
end Go.Proofs.YtbllmpcpfmlemaaGreat
