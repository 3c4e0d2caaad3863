/- Texts of the elder seat, turned to this one: W7 W8 W9. -/
import Derived.Test.YtbllmpcpfmlemaaGreatSrt
import Derived.Deep.DeepCutAuto
namespace Go.Proofs.YtbllmpcpfmlemaaGreat
open Go.RowKit
/-- The strings l lie at A. -/
structure AtS (w : World) (A : Option Addr) (l : List Str) : Prop where
  at_ : 0 < l.length → ∃ b off, A = some ⟨b, off, none⟩ ∧ b < w.heap.size ∧ ∀ k (hk : k < l.length), w.cell? ⟨b, off + k, none⟩ = some (sv l[k])
  mx : l.length ≤ 1000000
theorem AtS.keep {w w' : World} {A : Option Addr} {l : List Str} (h : AtS w A l) (hk : Keeps [] w w') : AtS w' A l := by
  refine ⟨fun h0 => ?_, h.mx⟩
  obtain ⟨b, off, h1, h2, h3⟩ := h.at_ h0
  exact ⟨b, off, h1, Nat.lt_of_lt_of_le h2 hk.size, fun k hk' => (hk.cell (p := ⟨b, off + k, none⟩) h2 (by simp)).trans (h3 k hk')⟩
theorem AtS.of_own {w : World} {A : Option Addr} {c : Nat} {l : List Str} (h : w.ownsRow 0 9 1 (.slice A l.length c) l.length (vs l)) (hm : l.length ≤ 1000000) : AtS w A l := by
  refine ⟨fun h0 => ?_, hm⟩
  obtain ⟨_, _, hv, -, -, hA⟩ := own_shape h
  obtain ⟨g, hg⟩ := hA h0
  obtain ⟨rfl, -, rfl⟩ : A = _ ∧ l.length = _ ∧ c = _ := by injection hv with h1 h2 h3; exact ⟨h1, rfl, h3⟩
  subst hg
  refine ⟨g, 0, rfl, own_lt h (by simp [fp, Value.ownBlock]), fun k hk => ?_⟩
  rw [Nat.zero_add]
  exact own_cell h (by simp [vs, hk])
theorem vs_one (l : List Str) : ∀ u ∈ vs l, u.oneCell' = true := by
  intro u hu
  unfold vs at hu
  simp at hu
  obtain ⟨x, _, rfl⟩ := hu
  rfl
theorem AtS.reads {w : World} {A : Option Addr} {l : List Str} (h : AtS w A l) : Reads w w.heap.size 1 A l.length (vs l) := by
  refine ⟨by simp [vs], fun h0 => ?_⟩
  obtain ⟨b, off, rfl, hb, hc⟩ := h.at_ h0
  refine ⟨_, rfl, hb, fun j u hu => ?_⟩
  have hj : j < l.length := by
    have := (List.getElem?_eq_some_iff.1 hu).1
    simpa [vs] using this
  have h1 : (vs l)[j]? = some (sv l[j]) := by unfold vs; simp [hj]
  rw [h1] at hu
  injection hu with hu
  rw [add_of_plain, ← hu]
  exact hc j hj
set_option maxRecDepth 100000 in
set_option maxHeartbeats 3200000 in
theorem gone58 (w : World) (k : Str) (b c : Bool) (h : (!b) = c) : Calls Tryz.prog 89 #[sv k, .bool b] w fun e w' => e = .returned (.bool c) ∧ w' = w := by
  subst h
  go_enter Tryz.func89, Tryz.ntmps89
  go_wp2_with fail
  go_ret
  exact ⟨rfl, rfl⟩
/-- What has gone so far. -/
def DfB (g f : Str → Option Bool) (left : Str → Prop) : Prop := ∀ k, kS.ok k → (¬ left k → f k = if g k = some true then some true else none) ∧ (left k → f k = g k)
theorem DfB.step {g f : Str → Option Bool} {left : Str → Prop} (h : DfB g f left) {x : Str} {v : Bool} (hok : kS.ok x) (hfx : f x = some v) (hlx : left x) (f' : Str → Option Bool) (left' : Str → Prop)
    (h1 : (v = false ∧ (∀ y, f' y = if y = x then none else f y)) ∨ (v = true ∧ f' = f)) (h2 : ∀ y, left' y ↔ (left y ∧ y ≠ x)) : DfB g f' left' := by
  have hgx : g x = some v := ((h x hok).2 hlx).symm.trans hfx
  intro k hk
  obtain ⟨a, b⟩ := h k hk
  by_cases e : k = x
  · subst e
    refine ⟨fun _ => ?_, fun h => absurd rfl ((h2 k).1 h).2⟩
    rcases h1 with ⟨rfl, h3⟩ | ⟨rfl, rfl⟩
    · rw [h3, if_pos rfl, hgx]; simp
    · rw [hfx, hgx]; simp
  · have e2 : f' k = f k := by
      rcases h1 with ⟨_, h3⟩ | ⟨_, rfl⟩
      · rw [h3, if_neg e]
      · rfl
    rw [e2]
    exact ⟨fun h => a (fun hl => h ((h2 k).2 ⟨hl, e⟩)), fun h => b ((h2 k).1 h).1⟩
set_option maxRecDepth 100000 in
set_option maxHeartbeats 3200000 in
theorem delB_any (w : World) (cm nc : Nat) (g : Str → Option Bool) (hm : GMap kS eB w cm nc g) :
    Calls Tryz.prog 88 #[.map (some cm), .func (.func 89) #[] #[]] w fun e w' =>
      e = .returned (.tuple #[]) ∧ GMap kS eB w' cm nc (fun k => if g k = some true then some true else none) ∧ Keeps [cm] w w' := by
  have HM := Lib.hid hm
  have hcl := hm.lt
  clear hm
  go_enter Tryz.func88, Tryz.ntmps88
  go_wp2_with (at_range; refine wpList_rangeG rfl _ _ rfl Tryz.underlying115 rfl HM.out ?_; intro w1 cnt0 hc0 hr0 k0 hz0)
  go_frame
  have HR0 := Lib.hid hr0
  have K0 := Lib.hid k0
  have hnr : w.heap.size ≠ cm := by omega
  clear hr0 k0 HM
  go_loopw [4] (fun _ wr => ∃ (f : Str → Option Bool) (left : Str → Prop) (cnt : Nat), GRng kS eB wr cm w.heap.size nc f left cnt ∧ DfB g f left ∧ Keeps [cm] w wr) (fun _ wr => wr.rangeLeft cm w.heap.size)
  case atStart =>
    refine ⟨g, _, cnt0, HR0.out, fun k hk => ⟨fun h2 => ?_, fun _ => rfl⟩, K0.out.mono (by simp)⟩
    cases hg : g k with
    | none => rfl
    | some v => simp [hg] at h2
  case round =>
    obtain ⟨f, left, cnt, hr, hf, kp⟩ := hrel
    have HR := Lib.hid hr
    have HF := Lib.hid hf
    have KP := Lib.hid kp
    have hle := hr.left_eq
    clear hr hf kp HR0 K0
    go_wp2_with (at_next; refine wpList_nextG rfl _ rfl rfl HR.out ?_ ?_)
    · intro hdone
      have FIN : Hid (GMap kS eB wr cm nc (fun k => if g k = some true then some true else none)) := Lib.hid (HR.out.map.congr (fun k hk => ((HF.out k hk).1 (hdone k hk)).symm))
      clear hdone
      go_wp2_with fail
      go_end0
      exact ⟨rfl, FIN.out, KP.out⟩
    · intro x
      constructor
      · intro w2 cnt' hok hfx hlx hr2 hlt k2 hz2 hen
        have hen' : (Instr.entry (.pointer (some ⟨w.heap.size, 0, none⟩))).run Tryz.prog w2 = .ok (.tuple #[sv x, .bool false]) w2 := hen
        have HF2 := Lib.hid (HF.out.step hok hfx hlx)
        have KW : Hid (Keeps [cm] w w2) := Lib.hid (KP.out.trans k2 (fun g hg => .inr (by simp at hg; omega)))
        have HR3 : Hid (GRng kS eB w2 cm w.heap.size nc f (fun y => left y ∧ y ≠ x) cnt') := Lib.hid hr2
        have HOK := Lib.hid hok
        have hle3 := HR3.out.left_eq
        clear hen hr2 hok k2 HR hlx hz2 hfx HF
        go_wp2_with fail
        refine (gone58 _ x false true rfl).mono ?_
        rintro e w3 ⟨rfl, rfl⟩
        go_wp2_with (at_delete; (refine wpList_delG rfl _ _ 115 rfl Tryz.underlying115 rfl HR3.out x rfl HOK.out ?_; intro w4 cnt4 hr4 hc4 k4))
        have HR4 := Lib.hid hr4
        have KW4 : Hid (Keeps [cm] w w4) := Lib.hid (KW.out.trans k4 (by simp))
        have hle4 := hr4.left_eq
        clear hr4 k4 HR3 KW
        go_roundw
        case rel =>
          (repeat apply Exists.intro)
          exact ⟨⟨_, _, cnt4, HR4.out, HF2.out _ _ (.inl ⟨trivial, fun y => by unfold updG; by_cases e : y = x <;> simp [e]⟩) (fun y => ⟨fun h => h.1, fun h => ⟨h, h.2⟩⟩), KW4.out⟩, rfl⟩
        case measure => rw [hle4, hle]; omega
      · intro w2 cnt' hok hfx hlx hr2 hlt k2 hz2 hen
        have hen' : (Instr.entry (.pointer (some ⟨w.heap.size, 0, none⟩))).run Tryz.prog w2 = .ok (.tuple #[sv x, .bool true]) w2 := hen
        have HF2 := Lib.hid (HF.out.step hok hfx hlx)
        have KW : Hid (Keeps [cm] w w2) := Lib.hid (KP.out.trans k2 (fun g hg => .inr (by simp at hg; omega)))
        have HR3 : Hid (GRng kS eB w2 cm w.heap.size nc f (fun y => left y ∧ y ≠ x) cnt') := Lib.hid hr2
        have HOK := Lib.hid hok
        have hle3 := HR3.out.left_eq
        clear hen hr2 hok k2 HR hlx hz2 hfx HF
        go_wp2_with fail
        refine (gone58 _ x true false rfl).mono ?_
        rintro e w3 ⟨rfl, rfl⟩
        go_wp2_with fail
        go_roundw
        case rel => exact ⟨_, _, cnt', HR3.out, HF2.out _ _ (.inr ⟨trivial, rfl⟩) (fun y => Iff.rfl), KW.out⟩
        case measure => rw [hle3, hle]; omega
end Go.Proofs.YtbllmpcpfmlemaaGreat
namespace Go.Proofs.YtbllmpcpfmlemaaGreat
open Go.RowKit
/-- A pointer against nil. -/
theorem pv_guard (op : BinOp) (x : Operand) (p : Option Nat) (w : World) : (eqGuard op 61 x (.const (.pointer none)) (pv p) (.pointer none)).run Tryz.prog w = .ok () w := by
  cases p <;> cases op <;> kernel_rfl
theorem pv_neq (p : Option Nat) (w : World) : (binOp .neq 61 (pv p) (.pointer none)).run Tryz.prog w = .ok (.bool p.isSome) w := by
  cases p <;> kernel_rfl
/-- The keys that come from above. -/
def base (C : St) (x : One) (p : Str) : List Str := match keysOf x.rd p with
  | some l => l
  | none => if x.id = 0 then [] else seesKeys C x.par p
theorem seesKeys_base {C : St} (h : Tree C) {x : One} (hx : x ∈ C) (p : Str) : seesKeys C x.id p = over x.wr p (base C x p) := seesKeys_eq h hx p
def hasOf (l : List Str) : Str → Option Bool := fun y => if y ∈ l then some true else none
/-- The keys with what was written. -/
def finOf (wr : List (Str × Str)) (p : Str) (l : List Str) : Str → Option Bool := fun y => match (if pre p y then mget wr y else none) with
  | some v => some (decide (v ≠ []))
  | none => hasOf l y
theorem finOf_true {wr : List (Str × Str)} (hw : AscK wr) {p : Str} {l : List Str} (hl : Asc l) (y : Str) : finOf wr p l y = some true ↔ y ∈ over wr p l := by
  rw [mem_over hw p hl]
  unfold finOf inOver
  cases (if pre p y then mget wr y else none) with
  | some v => simp
  | none =>
    unfold hasOf
    dsimp only
    split <;> simp [*]
/-- The second loop. -/
def Wh (wr : List (Str × Str)) (p : Str) (l : List Str) (f : Str → Option Bool) (left : Str → Prop) : Prop := ∀ y, kS.ok y → (left y → f y = hasOf l y) ∧ (¬ left y → f y = finOf wr p l y)
theorem Wh.start (wr : List (Str × Str)) (p : Str) (l : List Str) : Wh wr p l (hasOf l) (fun y => (mget wr y).isSome = true) := by
  intro y _
  refine ⟨fun _ => rfl, fun h => ?_⟩
  unfold finOf
  have : mget wr y = none := by
    cases hm : mget wr y with
    | none => rfl
    | some v => exact absurd (show (mget wr y).isSome = true by rw [hm]; rfl) h
  rw [this]
  split
  · rename_i v hv; split at hv <;> cases hv
  · rfl
theorem Wh.skip {wr : List (Str × Str)} {p : Str} {l : List Str} {f : Str → Option Bool} {left : Str → Prop} (h : Wh wr p l f left) {x : Str} (hl : left x) (hp : pre p x = false) : Wh wr p l f (fun y => left y ∧ y ≠ x) := by
  intro y hy
  obtain ⟨a, b⟩ := h y hy
  refine ⟨fun hh => a hh.1, fun hh => ?_⟩
  by_cases e : y = x
  · subst e
    rw [a hl]
    unfold finOf
    rw [hp]
    rfl
  · exact b (fun h1 => hh ⟨h1, e⟩)
theorem Wh.put {wr : List (Str × Str)} {p : Str} {l : List Str} {f : Str → Option Bool} {left : Str → Prop} (h : Wh wr p l f left) {x v : Str} (hx : mget wr x = some v) (hp : pre p x = true) {b : Bool} (hb : decide (v ≠ []) = b) : Wh wr p l (updG f x (some b)) (fun y => left y ∧ y ≠ x) := by
  intro y hy
  obtain ⟨a, c⟩ := h y hy
  unfold updG
  by_cases e : y = x
  · subst e
    refine ⟨fun hh => absurd rfl hh.2, fun _ => ?_⟩
    rw [if_pos rfl]
    unfold finOf
    rw [hp, if_pos rfl, hx, ← hb]
  · rw [if_neg e]
    exact ⟨fun hh => a hh.1, fun hh => c (fun h1 => hh ⟨h1, e⟩)⟩
theorem Wh.sub {wr : List (Str × Str)} {p : Str} {l : List Str} {f : Str → Option Bool} {left : Str → Prop} (h : Wh wr p l f left) {y : Str} (hy : kS.ok y) (hs : (f y).isSome = true) : y ∈ l ++ wr.map (·.1) := by
  obtain ⟨a, b⟩ := h y hy
  rw [List.mem_append]
  have hh : (hasOf l y).isSome = true → y ∈ l := fun h => by
    unfold hasOf at h
    split at h
    · assumption
    · cases h
  by_cases hl : left y
  · rw [a hl] at hs
    exact .inl (hh hs)
  · rw [b hl] at hs
    unfold finOf at hs
    cases hm : (if pre p y then mget wr y else none) with
    | none => rw [hm] at hs; exact .inl (hh hs)
    | some v =>
      split at hm
      · exact .inr (List.mem_map.2 ⟨_, mem_of_mget hm, rfl⟩)
      · cases hm
theorem hasOf_step (l : List Str) {k : Nat} (hk : k < l.length) : updG (hasOf (l.take k)) l[k] (some true) = hasOf (l.take (k + 1)) := by
  funext y
  unfold updG hasOf
  rw [List.take_succ_eq_append_getElem hk]
  simp only [List.mem_append, List.mem_singleton]
  by_cases e : y = l[k]
  · simp [e]
  · simp [e]
/-- The strings of the pool are keys, and not too many. -/
structure PoolOk (P : List Str) : Prop where
  k : ∀ s ∈ P, kS.ok s
  n : P.length ≤ 1000000
theorem PoolOk.le {P : List Str} (h : PoolOk P) {l : List Str} (hl : Asc l) (hs : ∀ s ∈ l, s ∈ P) : l.length ≤ 1000000 := Nat.le_trans (nodup_le l P hl.nodup hs) h.n
theorem PoolOk.leK {P : List Str} (h : PoolOk P) {m : List (Str × Str)} (hl : AscK m) (hs : ∀ e ∈ m, e.1 ∈ P) : m.length ≤ 1000000 := by
  have := h.le (l := m.map Prod.fst) hl (fun s hs' => by obtain ⟨e, he, rfl⟩ := List.mem_map.1 hs'; exact hs e he)
  rwa [List.length_map] at this
theorem base_ok {P : List Str} {C : St} (h : WF P C) {x : One} (hx : x ∈ C) (p : Str) : Asc (base C x p) ∧ ∀ k ∈ base C x p, k ∈ P := by
  unfold base
  cases hk : keysOf x.rd p with
  | some l => exact ⟨((h.ok x hx).sub hk).1, fun k hk' => (((h.ok x hx).sub hk).2 k hk').1⟩
  | none =>
    dsimp only
    split
    · exact ⟨asc_nil, by simp⟩
    · exact ⟨(seesKeys_ok h.ok _ _).1, fun k hk' => ((seesKeys_ok h.ok _ _).2 k hk').1⟩
section
variable {c m : Nat} {Mo : Int → Mem} {L : Nat → Option (Int × Nat)} {F G : List Nat} {C : St} {P : List Str}
set_option maxRecDepth 100000 in
set_option maxHeartbeats 3200000 in
theorem seesKeys_step {w : World} (h : RepM w c m Mo L F G C) (hW : WF P C) (hP : PoolOk P) {x : One} (hx : x ∈ C) (p : Str) (hp : kS.ok p)
    (hup : ∀ W, Keeps [] w W → x.id ≠ 0 → Calls Tryz.prog 58 #[pv (some (Mo x.par).b), sv p] W fun e w' => ∃ v, e = .returned v ∧ w'.ownsRow 0 9 1 v (seesKeys C x.par p).length (vs (seesKeys C x.par p)) ∧ Keeps [] W w' ∧ ∀ g ∈ fp v, W.heap.size ≤ g) :
    Calls Tryz.prog 58 #[pv (some (Mo x.id).b), sv p] w fun e w' => ∃ v, e = .returned v ∧ w'.ownsRow 0 9 1 v (seesKeys C x.id p).length (vs (seesKeys C x.id p)) ∧ Keeps [] w w' ∧ ∀ g ∈ fp v, w.heap.size ≤ g := by
  have hok := hW.ok x hx
  have hb := base_ok hW hx p
  rw [seesKeys_base hW.tree hx]
  have HB : Hid ((keysOf x.rd p = some (base C x p) ∧ x.id ≠ 0) ∨ (keysOf x.rd p = none ∧ x.id = 0 ∧ base C x p = []) ∨ (keysOf x.rd p = none ∧ x.id ≠ 0 ∧ base C x p = seesKeys C x.par p)) := Lib.hid (by
    unfold base
    cases hk : keysOf x.rd p with
    | some l => exact .inl ⟨rfl, fun h0 => by rw [hW.tree.rd0 hx h0] at hk; cases hk⟩
    | none =>
      dsimp only
      by_cases h0 : x.id = 0
      · rw [if_pos h0]; exact .inr (.inl ⟨rfl, h0, rfl⟩)
      · rw [if_neg h0]; exact .inr (.inr ⟨rfl, h0, rfl⟩))
  generalize base C x p = B at hb HB ⊢
  have o := h.one x hx
  have HO := Lib.hid o
  have f0 : w.cell? ⟨(Mo x.id).b, 0, none⟩ = some (pv (parOf Mo x)) := o.b.cell 0
  have f6 : w.cell? ⟨(Mo x.id).b, 6, none⟩ = some (.map (some (Mo x.id).mq)) := o.b.cell 6
  have l6 := o.k.look hp Tryz.underlying75 (zero27 w)
  have HOK := Lib.hid hok
  have HBO := Lib.hid hb
  have HPO := Lib.hid hP
  have hBl : B.length ≤ 1000000 := hP.le hb.1 hb.2
  have hWl : x.wr.length ≤ 1000000 := hP.leK hok.wr hok.wp
  have HUP := Lib.hid hup
  clear h hW hx hok hb o hup hP
  have hpp : parOf Mo x = if x.id = 0 then none else some (Mo x.par).b := rfl
  generalize parOf Mo x = pp at f0 HO hpp
  have HPP := Lib.hid hpp
  generalize hM : Mo x.id = M at f0 f6 l6 HO ⊢
  clear hM hpp
  have e0 : pv (some M.b) = .pointer (some ⟨M.b, 0, none⟩) := rfl
  rw [e0]
  have hqg := fun w => pv_guard .neq (.tmp 15) pp w
  have hqn := fun w => pv_neq pp w
  go_enter Tryz.func58, Tryz.ntmps58
  go_upto_if 16 with fail
  go_cut [5, 6] (fun v _ wc => ∃ (A : Option Addr) (cc : Nat), v = .slice A B.length cc ∧ AtS wc A B ∧ Keeps [] w wc)
  case first =>
    rcases HB.out with ⟨hk, h0⟩ | ⟨hk, h0, hB⟩ | ⟨hk, h0, hB⟩
    · rw [hk] at l6
      obtain rfl : pp = some (Mo x.par).b := by rw [HPP.out, if_neg h0]
      have hs := HO.out.s p B (mem_keysOf hk)
      obtain ⟨As, cs, hv, -, -, -⟩ := own_shape hs
      rw [hv] at hs
      have l6' : (Instr.lookup 75 (.map (some M.mq)) (sv p) true).run Tryz.prog w = .ok (.tuple #[.slice As B.length cs, .bool true]) w := by rw [← hv]; exact l6
      have HAS := Lib.hid (AtS.of_own hs hBl)
      clear l6 hk hs hv
      go_wp2_with fail
      go_meet
      exact ⟨_, _, rfl, HAS.out, Keeps.refl _ _⟩
    · rw [hk] at l6
      obtain rfl : pp = none := by rw [HPP.out, if_pos h0]
      subst hB
      clear l6 hk
      go_wp2_with fail
      go_meet
      exact ⟨none, 0, rfl, ⟨fun h => absurd h (by simp), by simp⟩, Keeps.refl _ _⟩
    · rw [hk] at l6
      obtain rfl : pp = some (Mo x.par).b := by rw [HPP.out, if_neg h0]
      have l6' : (Instr.lookup 75 (.map (some M.mq)) (sv p) true).run Tryz.prog w = .ok (.tuple #[.slice none 0 0, .bool false]) w := l6
      have HBS := Lib.hid hB
      clear l6 hk hB
      go_wp2_with fail
      refine (HUP.out w (Keeps.refl _ _) h0).mono ?_
      rintro e w1 ⟨v, rfl, o1, k1, -⟩
      rw [← HBS.out] at o1
      obtain ⟨As, cs, rfl, -, -, -⟩ := own_shape o1
      have HAS := Lib.hid (AtS.of_own o1 hBl)
      have K1 := Lib.hid k1
      clear o1 k1
      go_wp2_with fail
      go_meet
      exact ⟨_, _, rfl, HAS.out, K1.out⟩
  case rest =>
    obtain ⟨A, cc, rfl, hA, hk⟩ := hcut
    have HA := Lib.hid hA
    have KC := Lib.hid hk
    have HM := Lib.hid (GMap.made (S := kS) (E := eB) wc)
    have KM : Hid (Keeps [] wc (wc.alloc (.map #[] 0))) := Lib.hid ((Keeps.refl [] wc).alloc _)
    have HWR := Lib.hid (HO.out.wm.keep hk (by simp))
    have f2 : wc.cell? ⟨M.b, 2, none⟩ = some (.map (some M.mw)) := (hk.cell (p := ⟨M.b, 2, none⟩) HO.out.b.lt (by simp)).trans (HO.out.b.cell 2)
    have hMb : M.b < wc.heap.size := Nat.lt_of_lt_of_le HO.out.b.lt hk.size
    have hmm := @run_makeMap Tryz.prog
    clear hA hk f0 f6 l6 hqg hqn HB HUP HPP
    go_upto_region 8 with fail
    clear hmm
    have HM1 : Hid (GMap kS eB (wc.alloc (.map #[] 0)) wc.heap.size 0 (fun _ => none)) := HM
    obtain ⟨hb, hbh⟩ : ∃ hb, wc.heap.size = hb := ⟨_, rfl⟩
    rw [hbh] at HM1 ⊢
    have HBH := Lib.hid hbh
    clear hbh HM
    generalize wc.alloc (.map #[] 0) = w1 at KM HM1 ⊢
    have F2 := Lib.hid f2
    clear f2
    go_wp2_with fail
    go_loopw [37] (fun iv wr => ∃ k : Nat, k ≤ B.length ∧ iv = .int .i64 k ∧ GMap kS eB wr hb k (hasOf (B.take k)) ∧ Keeps [] wc wr) (fun iv _ => B.length - (intOf iv).toNat)
    case atStart => exact ⟨0, by omega, rfl, HM1.out.congr (fun y _ => by simp [hasOf]), KM.out⟩
    case round =>
      obtain ⟨k, hk, rfl, hG, kp⟩ := hrel
      have HG := Lib.hid hG
      have KP := Lib.hid kp
      have HAr := Lib.hid (HA.out.keep kp)
      clear hG kp HM1 KM
      by_cases hlt : k < B.length
      · obtain ⟨bl, off, hAA, hbl, hc⟩ := HAr.out.at_ (by omega)
        subst hAA
        have c0 := hc k hlt
        have i0 : (0 : Int) ≤ (k : Int) := by omega
        have i1 : (k : Int) < (B.length : Int) := by omega
        have HK := Lib.hid (HPO.out.k _ (HBO.out.2 _ (List.getElem_mem hlt)))
        have HS := Lib.hid (hasOf_step B hlt)
        generalize B[k] = y at c0 HK HS
        clear hc HAr
        go_wp2_with (refine wpList_updG rfl rfl _ _ _ 115 rfl Tryz.underlying115 hb k _ rfl HG.out (by unfold maxLen; omega) y true rfl rfl HK.out ?_; intro w2 h2 k2)
        have HG2 : Hid (GMap kS eB w2 hb (k + 1) (hasOf (B.take (k + 1)))) := Lib.hid (by rw [← HS.out]; exact h2)
        have K2 : Hid (Keeps [] wc w2) := Lib.hid (KP.out.trans k2 (fun g hg => .inr (by rw [List.mem_singleton.1 hg, HBH.out]; exact Nat.le_refl _)))
        clear h2 k2
        exact ⟨⟨k + 1, by omega, rfl, HG2.out, K2.out⟩, by simp only [intOf]; omega⟩
      · obtain rfl : k = B.length := by omega
        obtain ⟨ws, hws⟩ : ∃ ws, ws = wr := ⟨_, rfl⟩
        subst hws
        have i1 : ¬ ((B.length : Int) < (B.length : Int)) := by omega
        have HGB := Lib.hid (HG.out.congr (g := hasOf B) (fun y _ => by rw [List.take_length]))
        have HWR2 := Lib.hid (HWR.out.keep KP.out (by simp))
        have f2 : ws.cell? ⟨M.b, 2, none⟩ = some (.map (some M.mw)) := (KP.out.cell (p := ⟨M.b, 2, none⟩) hMb (by simp)).trans F2.out
        have hne : hb ≠ M.mw := by have := HWR.out.lt; have := HBH.out; omega
        have hbl : hb < ws.heap.size := HGB.out.lt
        have hml : M.mw < ws.heap.size := HWR2.out.lt
        have KW := Lib.hid (KC.out.trans KP.out (by simp))
        have hwh : w.heap.size ≤ hb := by have := KC.out.size; have := HBH.out; omega
        clear HG HAr HA hlt hk HWR
        go_wp2_with (at_range; refine wpList_rangeG rfl _ _ rfl Tryz.underlying74 rfl HWR2.out ?_; intro w3 cnt0 hc0 hr0 k0 hz0)
        try go_frame
        have HR0 := Lib.hid hr0
        have K0 : Hid (Keeps [] ws w3) := Lib.hid k0
        have HG3 := Lib.hid ((HGB.out.keep k0 (by simp)).mono (show B.length ≤ B.length + x.wr.length by omega))
        clear hr0 k0 f2 HWR2 HGB
        go_loopw [10] (fun _ wq => ∃ (f : Str → Option Bool) (left : Str → Prop) (cnt : Nat), GRng kS eS wq M.mw ws.heap.size x.wr.length (mget x.wr) left cnt ∧ GMap kS eB wq hb (B.length + x.wr.length) f ∧ Wh x.wr p B f left ∧ Keeps [hb] ws wq) (fun _ wq => wq.rangeLeft M.mw ws.heap.size)
        case atStart => exact ⟨_, _, cnt0, HR0.out, HG3.out, Wh.start _ _ _, K0.out.mono (by simp)⟩
        case round =>
          obtain ⟨f, left, cnt, hr, hG, hwh2, kp⟩ := hrel
          have HR := Lib.hid hr
          have HG := Lib.hid hG
          have HW := Lib.hid hwh2
          have KQ := Lib.hid kp
          have hle := hr.left_eq
          clear hr hG hwh2 kp HR0 HG3 K0
          go_wp2_with (at_next; refine wpList_nextG rfl _ rfl rfl HR.out ?_ ?_)
          · intro hdone
            have HD := Lib.hid hdone
            clear hdone
            go_wp2_with fail
            refine (delB_any _ hb _ f HG.out).mono ?_
            rintro e w5 ⟨rfl, g5, k5⟩
            have hws2 : ws.heap.size ≤ wr.heap.size := KQ.out.size
            have K5 : Hid (Keeps [] w w5) := Lib.hid ((KW.out.trans KQ.out (fun g hg => .inr (by rw [List.mem_singleton.1 hg]; exact hwh))).trans k5 (fun g hg => .inr (by rw [List.mem_singleton.1 hg]; exact hwh)))
            have G5 := Lib.hid (g5.keep ((Keeps.refl [] w5).alloc (.cells #[.map (some hb)] 115)) (by simp))
            have B5 := Lib.hid (Blk.new w5 115 #[.map (some hb)])
            have hN : B.length + x.wr.length ≤ 1000000000 := by omega
            have K6 : Hid (Keeps [] w (w5.alloc (.cells #[.map (some hb)] 115))) := Lib.hid (K5.out.trans ((Keeps.refl [] w5).alloc _) (by simp))
            clear g5 k5 HG HR KQ
            go_wp2_with fail
            refine (keysB_any (some hb) _).mono ?_
            rintro e w6 ⟨rfl, rfl⟩
            go_wp2_with fail
            refine (sortedGB _ hb _ _ _ G5.out hN B5.out).mono ?_
            rintro e w7 ⟨v, ss, rfl, s1, s2, -, s3, s4, s5⟩
            have e1 : ss = over x.wr p B := by
              refine asc_ext s1 (asc_over _ _ HBO.out.1) (fun y => ?_)
              rw [s2, ← finOf_true HOK.out.wr HBO.out.1]
              constructor
              · rintro ⟨h1, h2⟩
                rw [← (HW.out y h1).2 (HD.out y h1)]
                by_cases e : f y = some true
                · exact e
                · rw [if_neg e] at h2; cases h2
              · intro h1
                have hy : kS.ok y := by
                  have h2 := (finOf_true HOK.out.wr HBO.out.1 y).1 h1
                  rw [mem_over HOK.out.wr p HBO.out.1] at h2
                  unfold inOver at h2
                  cases hm : (if pre p y then mget x.wr y else none) with
                  | none => rw [hm] at h2; exact HPO.out.k y (HBO.out.2 y h2)
                  | some v =>
                    split at hm
                    · exact HPO.out.k y (HOK.out.wp _ (mem_of_mget hm))
                    · cases hm
                rw [← (HW.out y hy).2 (HD.out y hy)] at h1
                exact ⟨hy, by rw [if_pos h1]; rfl⟩
            subst e1
            have S3 := Lib.hid s3
            have K7 := Lib.hid (K6.out.trans s4 (by simp))
            have F7 : Hid (∀ g ∈ fp v, w.heap.size ≤ g) := Lib.hid (fun g hg => Nat.le_trans K6.out.size (s5 g hg))
            clear s1 s2 s3 s4 s5
            go_wp2_with fail
            go_ret
            exact ⟨v, rfl, S3.out, K7.out, F7.out⟩
          · intro y v w4 cnt' hok hfx hlx hr2 hlt k2 hz2 hen
            have hen' : (Instr.entry (.pointer (some ⟨ws.heap.size, 0, none⟩))).run Tryz.prog w4 = .ok (.tuple #[sv y, sv v]) w4 := hen
            have hws : ws.heap.size < wr.heap.size := HR.out.lt
            have K4 : Hid (Keeps [hb] ws w4) := Lib.hid (KQ.out.trans k2 (fun g hg => .inr (by rw [List.mem_singleton.1 hg]; exact Nat.le_refl _)))
            have HG4 := Lib.hid (HG.out.keep k2 (fun hg => by have := List.mem_singleton.1 hg; omega))
            have HR4 := Lib.hid hr2
            have hle4 := hr2.left_eq
            have HY := Lib.hid hok
            have HSK := Lib.hid (HW.out.skip (x := y) hlx)
            have HPU := Lib.hid (fun (hp : pre p y = true) (b : Bool) (hb : decide (v ≠ []) = b) => HW.out.put hfx hp hb)
            clear hen hr2 k2 hok hlx hfx HW HG HR KQ hz2
            cases hpy : pre p y with
            | true =>
              have HPY := Lib.hid (HPU.out hpy)
              go_wp2_with fail
              refine (prefix_any y p _).mono ?_
              rw [hpy]
              clear hpy
              rintro e w5 ⟨rfl, rfl⟩
              go_wp2_with (refine wpList_updG rfl rfl _ _ _ 115 rfl Tryz.underlying115 hb _ _ rfl HG4.out (by unfold maxLen; omega) y _ rfl rfl HY.out ?_; intro w6 h6 k6)
              have HF6 := Lib.hid (HPY.out (!List.isEmpty v) (by cases v <;> rfl))
              have HG6 : Hid (GMap kS eB w6 hb (B.length + x.wr.length) (updG f y (some !List.isEmpty v))) := Lib.hid (by
                have := h6.fit Tryz.underlying115 (B ++ x.wr.map (·.1)) (fun z hz hs => HF6.out.sub hz hs)
                rwa [List.length_append, List.length_map] at this)
              have HR6 := Lib.hid (HR4.out.keep k6 (fun hg => hne (List.mem_singleton.1 hg).symm) (fun hg => by have := List.mem_singleton.1 hg; omega))
              have K6 := Lib.hid (K4.out.trans k6 (by simp))
              have hle6 := HR6.out.left_eq
              clear h6 k6 HG4 HR4 K4
              exact ⟨⟨_, _, cnt', HR6.out, HG6.out, HF6.out, K6.out⟩, by rw [hle6, hle]; omega⟩
            | false =>
              have HPY := Lib.hid (HSK.out hpy)
              go_wp2_with fail
              refine (prefix_any y p _).mono ?_
              rw [hpy]
              clear hpy
              rintro e w5 ⟨rfl, rfl⟩
              go_wp2_with fail
              go_roundw
              case rel => exact ⟨_, _, cnt', HR4.out, HG4.out, HPY.out, K4.out⟩
              case measure => rw [hle4, hle]; omega
theorem seesKeys_any {w : World} (h : RepM w c m Mo L F G C) (hW : WF P C) (hP : PoolOk P) {x : One} (hx : x ∈ C) (p : Str) (hp : kS.ok p) :
    Calls Tryz.prog 58 #[pv (some (Mo x.id).b), sv p] w fun e w' => ∃ v, e = .returned v ∧ w'.ownsRow 0 9 1 v (seesKeys C x.id p).length (vs (seesKeys C x.id p)) ∧ Keeps [] w w' ∧ ∀ g ∈ fp v, w.heap.size ≤ g := by
  obtain ⟨d, hd⟩ : ∃ d, depth C x.id = d := ⟨_, rfl⟩
  induction d using Nat.strongRecOn generalizing x w with
  | ind d ih =>
    refine seesKeys_step h hW hP hx p hp (fun W hk h0 => ?_)
    obtain ⟨y, hy, hyi⟩ := has_iff.1 (hW.tree.par hx h0)
    have hdp := depth_par hW.tree hx h0
    have := ih (depth C y.id) (by rw [hyi, ← hd]; exact hdp) (h.keep0 hk) hy rfl
    rw [hyi] at this
    exact this
end
end Go.Proofs.YtbllmpcpfmlemaaGreat
namespace Go.Proofs.YtbllmpcpfmlemaaGreat
open Go.RowKit
theorem own_slv {w : World} {e size n : Nat} {v : Value} {xs : List Value} (h : w.ownsRow 0 e size v n xs) : ∃ u : SlV, v = u.v ∧ u.n = n := by
  rcases h.2 with ⟨rfl, rfl⟩ | ⟨g', cap, cur, rfl, _⟩
  · exact ⟨⟨none, 0, 0⟩, rfl, rfl⟩
  · exact ⟨⟨some g', n, cap⟩, rfl, rfl⟩
section
variable {w : World} {c m : Nat} {Mo : Int → Mem} {L : Nat → Option (Int × Nat)} {F G : List Nat} {C : St} {P : List Str}
theorem RepM.at_ (h : RepM w c m Mo L F G C) {i : Int} {x : One} (hx : find C i = some x) : OneAt w (Mo i) (parOf Mo x) (kids C i) x ∧ Lab L i (Mo i) := by
  obtain ⟨h1, h2⟩ := find_mem hx
  have a := h.one x h1
  have b := h.lab x h1
  rw [h2] at a b
  exact ⟨a, b⟩
theorem RepM.blkFi (h : RepM w c m Mo L F G C) {i : Int} {x : One} (hx : find C i = some x) {g : Nat} (hg : g ∈ (Mo i).blocks) : g ∈ F := by
  obtain ⟨h1, h2⟩ := find_mem hx
  exact h.blkF h1 (by rw [h2]; exact hg)
theorem parOf_iff {x : One} : parOf Mo x = none ↔ x.id = 0 := by
  unfold parOf
  split <;> simp [*]
theorem rd_le (hW : WF P C) (hP : PoolOk P) {x : One} (hx : x ∈ C) : x.rd.length ≤ 2000000 := by
  have h := hW.ok x hx
  have h1 := nodup_le _ P h.cn h.cp
  have h2 := nodup_le _ P h.pn h.pp
  have := rd_len x.rd
  have := hP.n
  omega
theorem more_row (h : RepM w c m Mo L F G C) {i : Int} {x : One} (hx : find C i = some x) {row : Value} (hr : ∀ b ∈ fp row, b ∈ fp (Mo i).row ∨ w.heap.size ≤ b) : More w F (fp row ++ F) := by
  refine ⟨fun g hg => List.mem_append_right _ hg, fun g hg => ?_⟩
  rcases List.mem_append.1 hg with hg | hg
  · rcases hr g hg with h1 | h1
    · exact .inl (h.blkFi hx (by simp [Mem.blocks, h1]))
    · exact .inr h1
  · exact .inl hg
set_option maxRecDepth 100000 in
set_option maxHeartbeats 1600000 in
theorem ask_any (h : RepM w c m Mo L F G C) (hW : WF P C) (hP : PoolOk P) {i : Int} {x : One} (hx : find C i = some x) (k : Str) (hk : kS.ok k) :
    Calls Tryz.prog 76 #[.pointer (some ⟨(Mo i).b, 0, none⟩), sv k] w fun e w' => e = .returned (.tuple #[]) ∧ StepOn i w w' c m Mo F G (askP C i k) := by
  obtain ⟨hxC, hxi⟩ := find_mem hx
  obtain ⟨o, hl⟩ := h.at_ hx
  have hop := open_any o parOf_iff k hk
  have f0 : w.cell? ⟨(Mo i).b, 0, none⟩ = some (pv (parOf Mo x)) := o.b.cell 0
  have hres : askP C i k = if opn x k then upd C i (addRd (.cell k (sees C x.par k))) else C := by unfold askP; rw [hx]
  rw [hres]
  cases ho : opn x k with
  | false =>
    rw [ho] at hop
    have HR := Lib.hid h
    clear hres f0 o h
    go_enter Tryz.func76, Tryz.ntmps76
    go_wp2_with fail
    refine hop.mono ?_
    rintro e w1 ⟨rfl, rfl⟩
    go_wp2_with fail
    go_end0
    exact ⟨rfl, StepOn.same HR.out (Keeps.refl _ _)⟩
  | true =>
    rw [ho] at hop
    obtain ⟨h0, -, hc⟩ := opn_iff.1 ho
    obtain ⟨y, hy, hyi⟩ := has_iff.1 (hW.tree.par hxC h0)
    have hsee := sees_any h hW.tree hy k hk
    rw [hyi] at hsee
    have hpp : parOf Mo x = some (Mo x.par).b := by unfold parOf; rw [if_neg h0]
    rw [hpp] at f0
    have f0' : w.cell? ⟨(Mo i).b, 0, none⟩ = some (.pointer (some ⟨(Mo x.par).b, 0, none⟩)) := f0
    have hsee' : Calls Tryz.prog 56 #[.pointer (some ⟨(Mo x.par).b, 0, none⟩), sv k] w fun e w' => e = .returned (sv (sees C x.par k)) ∧ w' = w := hsee
    have hrd := rd_le hW hP hxC
    have hnote := noteCell_any o hl (by omega) k (sees C x.par k) hk hc
    have HR := Lib.hid h
    have HL := Lib.hid hl
    have HX := Lib.hid hx
    have HW := Lib.hid hW
    rw [if_pos rfl]
    clear hres f0 o h hc hpp hsee hl hx hW hrd
    generalize sees C x.par k = v at hsee' hnote ⊢
    go_enter Tryz.func76, Tryz.ntmps76
    go_wp2_with fail
    refine hop.mono ?_
    rintro e w1 ⟨rfl, rfl⟩
    go_wp2_with fail
    refine hsee'.mono ?_
    rintro e w2 ⟨rfl, rfl⟩
    go_wp2_with fail
    refine hnote.mono ?_
    rintro e w3 ⟨rfl, row, o2, k2, f2⟩
    have O2 := Lib.hid o2
    have K2 := Lib.hid k2
    have F2 := Lib.hid f2
    clear o2 k2 f2
    go_wp2_with fail
    go_end0
    refine ⟨rfl, ?_⟩
    have hsub : ∀ b ∈ (Mo i).b :: (Mo i).mv :: fp (Mo i).row, b ∈ (Mo i).blocks := by
      intro b hb
      simp only [List.mem_cons] at hb
      simp only [Mem.blocks, List.mem_cons]
      rcases hb with h | h | h
      · exact .inl h
      · exact .inr (.inr (.inr (.inl h)))
      · exact .inr (.inr (.inr (.inr (.inr h))))
    obtain ⟨L', hr⟩ := HR.out.turn (N := []) HW.out.tree HX.out (g := addRd (.cell k v)) (fun _ => rfl) (fun _ => rfl) K2.out (fun b hb => .inl (hsub b hb)) row (Mo i).sl F2.out (fun b hb => own_lt O2.out.o hb) (by simp)
      (fun p l hl b hb => .inl (by
        rcases List.mem_append.1 (show _ ∈ x.rd ++ [_] from hl) with h1 | h1
        · exact HR.out.inG x hxC p l h1 b (by rw [hxi]; exact hb)
        · simp at h1)) O2.out
    exact ⟨row, (Mo i).sl, L', _, _, hr, more_row HR.out HX.out F2.out, More.refl _ _, F2.out, K2.out.mono hsub⟩
set_option maxRecDepth 100000 in
set_option maxHeartbeats 1600000 in
theorem askKeys_any (h : RepM w c m Mo L F G C) (hW : WF P C) (hP : PoolOk P) {i : Int} {x : One} (hx : find C i = some x) (p : Str) (hk : kS.ok p) :
    Calls Tryz.prog 77 #[.pointer (some ⟨(Mo i).b, 0, none⟩), sv p] w fun e w' => e = .returned (.tuple #[]) ∧ StepOn i w w' c m Mo F G (askKP C i p) := by
  obtain ⟨hxC, hxi⟩ := find_mem hx
  obtain ⟨o, hl⟩ := h.at_ hx
  have f0 : w.cell? ⟨(Mo i).b, 0, none⟩ = some (pv (parOf Mo x)) := o.b.cell 0
  have f6 : w.cell? ⟨(Mo i).b, 6, none⟩ = some (.map (some (Mo i).mq)) := o.b.cell 6
  have l6 := o.k.look hk Tryz.underlying75 (zero27 w)
  have hres : askKP C i p = if x.id ≠ 0 ∧ keysOf x.rd p = none then upd C i (addRd (.keys p (seesKeys C x.par p))) else C := by unfold askKP; rw [hx]
  rw [hres]
  have hqg := fun w => pv_guard .neq (.tmp 21) (parOf Mo x) w
  have hqn := fun w => pv_neq (parOf Mo x) w
  cases hc : keysOf x.rd p with
  | some l =>
    rw [hc] at l6
    obtain ⟨vv, hvv⟩ : ∃ vv, (Option.map eL.val (Option.map (fun _ => (Mo i).sl p) (some l))).getD (Value.slice none 0 0) = vv := ⟨_, rfl⟩
    rw [hvv] at l6
    have l6' : (Instr.lookup 75 (.map (some (Mo i).mq)) (sv p) true).run Tryz.prog w = .ok (.tuple #[vv, .bool true]) w := l6
    have HR := Lib.hid h
    rw [if_neg (by rintro ⟨_, e⟩; cases e)]
    clear hres o h l6 hvv hqg hqn
    go_enter Tryz.func77, Tryz.ntmps77
    go_wp2_with fail
    go_end0
    exact ⟨rfl, StepOn.same HR.out (Keeps.refl _ _)⟩
  | none =>
    rw [hc] at l6
    have l6' : (Instr.lookup 75 (.map (some (Mo i).mq)) (sv p) true).run Tryz.prog w = .ok (.tuple #[.slice none 0 0, .bool false]) w := l6
    by_cases h0 : x.id = 0
    · have hpp : parOf Mo x = none := parOf_iff.2 h0
      rw [hpp] at f0 hqg hqn
      have HR := Lib.hid h
      rw [if_neg (by rintro ⟨e, _⟩; exact e h0)]
      clear hres o h l6 hpp
      go_enter Tryz.func77, Tryz.ntmps77
      go_wp2_with fail
      go_end0
      exact ⟨rfl, StepOn.same HR.out (Keeps.refl _ _)⟩
    · obtain ⟨y, hy, hyi⟩ := has_iff.1 (hW.tree.par hxC h0)
      have hsee := seesKeys_any h hW hP hy p hk
      rw [hyi] at hsee
      have hpp : parOf Mo x = some (Mo x.par).b := by unfold parOf; rw [if_neg h0]
      rw [hpp] at f0 hqg hqn
      have f0' : w.cell? ⟨(Mo i).b, 0, none⟩ = some (.pointer (some ⟨(Mo x.par).b, 0, none⟩)) := f0
      have hsee' : Calls Tryz.prog 58 #[.pointer (some ⟨(Mo x.par).b, 0, none⟩), sv p] w fun e w' => ∃ v, e = .returned v ∧ w'.ownsRow 0 9 1 v (seesKeys C x.par p).length (vs (seesKeys C x.par p)) ∧ Keeps [] w w' ∧ ∀ g ∈ fp v, w.heap.size ≤ g := hsee
      have hrd := rd_le hW hP hxC
      have HR := Lib.hid h
      have HL := Lib.hid hl
      have HX := Lib.hid hx
      have HW := Lib.hid hW
      have HC := Lib.hid hc
      rw [if_pos ⟨h0, rfl⟩]
      clear hres f0 o h hc hpp hsee hl hx hW l6
      generalize seesKeys C x.par p = v at hsee' ⊢
      go_enter Tryz.func77, Tryz.ntmps77
      go_wp2_with fail
      refine hsee'.mono ?_
      rintro e w2 ⟨vv, rfl, o1, k1, g1⟩
      obtain ⟨u, rfl, hun⟩ := own_slv o1
      have hr1 := HR.out.keep0 k1
      have hnote := noteKeys_any (hr1.at_ HX.out).1 HL.out (by omega) p v u hk HC.out o1
      have O1 := Lib.hid o1
      have K1 := Lib.hid k1
      have G1 := Lib.hid g1
      have hws := k1.size
      clear o1 k1 g1 hr1 hun
      obtain ⟨As, n1, c1, huv⟩ : ∃ A n c, u.v = .slice A n c := ⟨_, _, _, rfl⟩
      rw [huv] at hnote ⊢
      clear huv
      go_wp2_with fail
      refine hnote.mono ?_
      rintro e w3 ⟨rfl, row, o2, k2, f2⟩
      have O2 := Lib.hid o2
      have K2 := Lib.hid k2
      have F2 : Hid (∀ g ∈ fp row, g ∈ fp (Mo i).row ∨ w.heap.size ≤ g) := Lib.hid (fun g hg => (f2 g hg).imp id (fun h => Nat.le_trans hws h))
      clear o2 k2 f2
      go_wp2_with fail
      go_end0
      refine ⟨rfl, ?_⟩
      have hsub : ∀ b ∈ (Mo i).b :: (Mo i).mq :: fp (Mo i).row, b ∈ (Mo i).blocks := by
        intro b hb
        simp only [List.mem_cons] at hb
        simp only [Mem.blocks, List.mem_cons]
        rcases hb with h | h | h
        · exact .inl h
        · exact .inr (.inr (.inr (.inr (.inl h))))
        · exact .inr (.inr (.inr (.inr (.inr h))))
      have KT : Keeps (Mo i).blocks w w3 := (K1.out.mono (by simp)).trans (K2.out.mono hsub) (fun g hg => .inl hg)
      have hown := O2.out.s p v (List.mem_append_right _ (by simp))
      have e2 : slSet (Mo i).sl p u p = u := if_pos rfl
      have hown' : w3.ownsRow 0 9 1 u.v v.length (v.map sv) := by
        have := hown
        rw [show ({ Mo i with row := row, sl := slSet (Mo i).sl p u } : Mem).sl p = u from e2] at this
        exact this
      obtain ⟨L', hr⟩ := HR.out.turn (N := fp u.v) HW.out.tree HX.out (g := addRd (.keys p v)) (fun _ => rfl) (fun _ => rfl) KT (fun b hb => .inl hb) row (slSet (Mo i).sl p u) F2.out (fun b hb => own_lt O2.out.o hb)
        (fun b hb => ⟨G1.out b hb, own_lt hown' hb, own_apart hown' O2.out.o (by decide) b hb⟩)
        (fun q l hl b hb => by
          by_cases hq : q = p
          · subst hq
            rw [e2] at hb
            exact .inr hb
          · rcases List.mem_append.1 (show _ ∈ x.rd ++ [_] from hl) with h1 | h1
            · rw [show slSet (Mo i).sl p u q = (Mo i).sl q from if_neg hq] at hb
              exact .inl (HR.out.inG x hxC q l h1 b (by rw [hxi]; exact hb))
            · rw [List.mem_singleton] at h1
              injection h1 with h1 _
              exact absurd h1 hq) O2.out
      refine ⟨row, slSet (Mo i).sl p u, L', _, _, hr, more_row HR.out HX.out F2.out, ⟨fun g hg => List.mem_append_right _ hg, fun g hg => ?_⟩, F2.out, KT⟩
      rcases List.mem_append.1 hg with h1 | h1
      · exact .inr (G1.out g h1)
      · exact .inl h1
end
end Go.Proofs.YtbllmpcpfmlemaaGreat
