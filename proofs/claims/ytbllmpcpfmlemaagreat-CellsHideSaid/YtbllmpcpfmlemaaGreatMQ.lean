/- Texts of the elder seat, turned to this one: W31 W32 W33. -/
import Derived.Test.YtbllmpcpfmlemaaGreatMO
import Derived.Laws.Externs
import Derived.MapKept
import Derived.WalkSpells
import Derived.Maps.RangeRun
import Derived.Maps.Range
namespace Go.Proofs.YtbllmpcpfmlemaaGreat
open Go.RowKit

theorem run_assert73 (w : World) (v : Value) : (Instr.typeAssert (.iface 74 v) 20 74 false).run Tryz.prog w = .ok v w := by
  simp [Instr.typeAssert, run_underlying Tryz.underlying74, go_sem, Result.andThen]
theorem run_clone73 (w : World) {b : Nat} {es : Array MapEntry} {clock : Nat} (hb : w.heap[b]? = some (.map es clock)) :
    (Extern.MapsClone.clone #[.iface 74 (.map (some b))]).run Tryz.prog w = .ok (.iface 74 (.map (some w.heap.size))) (w.alloc (.map es clock)) := by
  have e : Extern.MapsClone.clone #[.iface 74 (.map (some b))] = (getObj b >>= fun o => match o with
      | .map entries clock => (newObj (.map entries clock) >>= fun n => pure (.iface 74 (.map (some n))))
      | _ => stuck "maps.clone: a map expected") := rfl
  rw [e]
  simp [MapKept.run_getObj_map hb, Result.andThen, go_sem]
set_option maxRecDepth 100000 in
set_option maxHeartbeats 2000000 in
theorem cloneMS_any (w : World) (b n : Nat) (f : _ → Option _) (h : GMap kS eS w b n f) :
    Calls Tryz.prog 73 #[.map (some b)] w fun e w' => e = .returned (.map (some w.heap.size)) ∧ GMap kS eS w' w.heap.size n f ∧ Keeps [] w w' ∧ w'.heap.size = w.heap.size + 1 := by
  obtain ⟨D, ⟨es, clock, hb, F, hs, hD⟩, e⟩ := h
  have hq : ∀ (w : World) (r : Option Nat), (binOp .eql 74 (.map r) (.map none)).run Tryz.prog w = .ok (.bool r.isNone) w := fun w r => Go.run_eql_map_nil w _ _ _ r Tryz.underlying74
  have fin : GMap kS eS (w.alloc (.map es clock)) w.heap.size n f := ⟨D, ⟨es, clock, (MapKept.heap_alloc w _).1, F, hs, hD⟩, e⟩
  have kf : Keeps [] w (w.alloc (.map es clock)) := (Keeps.refl _ _).alloc _
  go_enter Tryz.func73, Tryz.ntmps73
  go_wp2
  rw [run_callFunc_extern Tryz.func99 (by kernel_rfl) (by kernel_rfl) (by kernel_rfl) (e := Extern.MapsClone.clone) (by kernel_rfl), run_clone73 w hb]
  simp only [Result.andThen]
  rw [Oper.upon_value]
  go_wp2
  rw [run_assert73]
  simp only [Result.andThen]
  rw [Oper.upon_value]
  go_wp2
  go_ret
  exact ⟨rfl, fin, kf, by simp⟩
theorem run_assert75 (w : World) (v : Value) : (Instr.typeAssert (.iface 75 v) 20 75 false).run Tryz.prog w = .ok v w := by
  simp [Instr.typeAssert, run_underlying Tryz.underlying75, go_sem, Result.andThen]
theorem run_clone75 (w : World) {b : Nat} {es : Array MapEntry} {clock : Nat} (hb : w.heap[b]? = some (.map es clock)) :
    (Extern.MapsClone.clone #[.iface 75 (.map (some b))]).run Tryz.prog w = .ok (.iface 75 (.map (some w.heap.size))) (w.alloc (.map es clock)) := by
  have e : Extern.MapsClone.clone #[.iface 75 (.map (some b))] = (getObj b >>= fun o => match o with
      | .map entries clock => (newObj (.map entries clock) >>= fun n => pure (.iface 75 (.map (some n))))
      | _ => stuck "maps.clone: a map expected") := rfl
  rw [e]
  simp [MapKept.run_getObj_map hb, Result.andThen, go_sem]
set_option maxRecDepth 100000 in
set_option maxHeartbeats 2000000 in
theorem cloneML_any (w : World) (b n : Nat) (f : _ → Option _) (h : GMap kS eL w b n f) :
    Calls Tryz.prog 74 #[.map (some b)] w fun e w' => e = .returned (.map (some w.heap.size)) ∧ GMap kS eL w' w.heap.size n f ∧ Keeps [] w w' ∧ w'.heap.size = w.heap.size + 1 := by
  obtain ⟨D, ⟨es, clock, hb, F, hs, hD⟩, e⟩ := h
  have hq : ∀ (w : World) (r : Option Nat), (binOp .eql 75 (.map r) (.map none)).run Tryz.prog w = .ok (.bool r.isNone) w := fun w r => Go.run_eql_map_nil w _ _ _ r Tryz.underlying75
  have fin : GMap kS eL (w.alloc (.map es clock)) w.heap.size n f := ⟨D, ⟨es, clock, (MapKept.heap_alloc w _).1, F, hs, hD⟩, e⟩
  have kf : Keeps [] w (w.alloc (.map es clock)) := (Keeps.refl _ _).alloc _
  go_enter Tryz.func74, Tryz.ntmps74
  go_wp2
  rw [run_callFunc_extern Tryz.func99 (by kernel_rfl) (by kernel_rfl) (by kernel_rfl) (e := Extern.MapsClone.clone) (by kernel_rfl), run_clone75 w hb]
  simp only [Result.andThen]
  rw [Oper.upon_value]
  go_wp2
  rw [run_assert75]
  simp only [Result.andThen]
  rw [Oper.upon_value]
  go_wp2
  go_ret
  exact ⟨rfl, fin, kf, by simp⟩
set_option maxRecDepth 100000 in
set_option maxHeartbeats 1600000 in
theorem cloneR_any (w : World) (A : Option Addr) (n cap : Nat) (xs : List Value) (ho : w.ownsRow 0 34 4 (.slice A n cap) n xs) (h1 : ∀ u ∈ xs, u.oneCell' = true) (hn : n ≤ 2000000) :
    Calls Tryz.prog 71 #[.slice A n cap] w fun e w' => ∃ v, e = .returned v ∧ w'.ownsRow 0 34 4 v n xs ∧ Keeps [] w w' ∧ ∀ g ∈ fp v, w.heap.size ≤ g := by
  rcases A with _ | a
  · have hx : n = 0 ∧ cap = 0 := by
      rcases ho.2 with ⟨h, h0⟩ | ⟨g, c, cur, h, _⟩
      · injection h with _ _ h2; exact ⟨h0, h2⟩
      · injection h with h; cases h
    obtain ⟨rfl, rfl⟩ := hx
    have he := fun W => Lib.run_eql_slice_nil (P := Tryz.prog) W 50 34 none 0 0 0 0 Tryz.underlying50
    go_enter Tryz.func71, Tryz.ntmps71
    go_wp2
    go_ret
    exact ⟨_, rfl, ho, Keeps.refl _ _, by simp⟩
  · have he := fun W => Lib.run_eql_slice_nil (P := Tryz.prog) W 50 34 (some a) n cap 0 0 Tryz.underlying50
    go_enter Tryz.func71, Tryz.ntmps71
    go_wp2_with (at_builtin; refine wpList_app _ rfl (.tmp 5) (.tmp 6) _ rfl 34 zv32 4 64 Tryz.underlying50 info34 rfl (by omega) (.slice (some ⟨w.heap.size, 0, none⟩) 0 0) 0 [] rfl (own_of_blk (Blk.new w 34 #[]) (by omega) (by omega) rfl rfl) _ _ _ _ xs rfl (reads_own (own_keep ho ((Keeps.refl [] _).alloc _) (by simp))) h1 (by unfold maxLen; omega) (by omega) ?_)
    intro v' w' ho' hk' hf'
    go_wp2
    go_ret
    have hk1 : Keeps [] w (w.alloc (.cells #[] 34)) := (Keeps.refl _ _).alloc _
    refine ⟨v', rfl, by simpa using ho', hk1.trans hk' (by simp), fun g hg => ?_⟩
    rcases hf' g hg with h2 | h2
    · have : g = w.heap.size := by simpa using h2
      omega
    · omega
end Go.Proofs.YtbllmpcpfmlemaaGreat
namespace Go.Proofs.YtbllmpcpfmlemaaGreat
open Go.RowKit
open Go.ChangeMaps (setBlock)

def ptr (x : Nat) : Value := .pointer (some ⟨x, 0, none⟩)
theorem ptr_inj {x y : Nat} (h : ptr x = ptr y) : x = y := by
  unfold ptr at h
  injection h with h
  injection h with h
  injection h
/-- Block b is a map with just these entries. -/
def PM (w : World) (b : Nat) (l : List (Nat × Nat)) : Prop :=
  ∃ es clk, w.heap[b]? = some (.map es clk) ∧ es.toList.map (fun e => (e.key, e.val)) = l.map (fun q => (ptr q.1, ptr q.2)) ∧ (es.toList.map (·.born)).Nodup ∧ ∀ e ∈ es.toList, e.born < clk
section
variable {w w' : World} {b : Nat} {l : List (Nat × Nat)}
theorem PM.lt (h : PM w b l) : b < w.heap.size := by obtain ⟨es, clk, h, _⟩ := h; exact (Array.getElem?_eq_some_iff.1 h).1
theorem PM.keep {K : List Nat} (h : PM w b l) (hk : Keeps K w w') (hb : b ∉ K) : PM w' b l := by
  have hl := h.lt
  obtain ⟨es, clk, h, r⟩ := h
  exact ⟨es, clk, (hk.block b hl hb).trans h, r⟩
theorem PM.made (w : World) : PM (w.alloc (.map #[] 0)) w.heap.size [] := ⟨#[], 0, heap_alloc_new w _, rfl, List.nodup_nil, by simp⟩
theorem run_eq_same (w : World) (x : Nat) : (Op.equal 61 (ptr x) (ptr x)).run Tryz.prog w = .ok true w := by
  have h := info77
  cases hj : Tryz.prog.info? 77 with
  | none => rw [hj] at h; cases h
  | some j =>
    have h2 : ∀ d : Nat, (Op.equalIn (d + 1) 61 (.pointer (some ⟨x, 0, none⟩)) (.pointer (some ⟨x, 0, none⟩))).run Tryz.prog w = .ok true w := fun d => by
      simp [Op.equalIn, run_underlying Tryz.underlying61, sizeOf, typeInfo, hj, run_sameAddr_same]
    unfold ptr
    simp [Op.equal, Op.maxDepth, h2 9999]
theorem run_eq_other {x y : Nat} {ca cb : Array Value} {ta tb : TypeId} (hne : x ≠ y) (ha : Blk w x ta ca) (hb : Blk w y tb cb) : (Op.equal 61 (ptr x) (ptr y)).run Tryz.prog w = .ok false w := by
  have h := info77
  cases hj : Tryz.prog.info? 77 with
  | none => rw [hj] at h; cases h
  | some j =>
    rw [hj] at h
    have hs : j.size ≠ 0 := by have : j.size = 7 := by simpa using h
                               omega
    have hq : (⟨x, 0, none⟩ : Addr) ≠ ⟨y, 0, none⟩ := fun e => hne (by injection e)
    have h2 : ∀ d : Nat, (Op.equalIn (d + 1) 61 (.pointer (some ⟨x, 0, none⟩)) (.pointer (some ⟨y, 0, none⟩))).run Tryz.prog w = .ok false w := fun d => by
      simp [Op.equalIn, run_underlying Tryz.underlying61, sizeOf, typeInfo, hj, hs, run_sameAddr_other w hq ha hb]
    unfold ptr
    simp [Op.equal, Op.maxDepth, h2 9999]
theorem run_eq_nil (w : World) (y : Nat) : (Op.equal 61 (.pointer none) (ptr y)).run Tryz.prog w = .ok false w := by
  have h2 : ∀ d : Nat, (Op.equalIn (d + 1) 61 (.pointer none) (.pointer (some ⟨y, 0, none⟩))).run Tryz.prog w = .ok false w := fun d => by
    simp [Op.equalIn, run_underlying Tryz.underlying61]
  unfold ptr
  simp [Op.equal, Op.maxDepth, h2 9999]
/-- What a pointer finds. -/
def pfind (l : List (Nat × Nat)) (k : Option Nat) : Option Nat := match k with
  | none => none
  | some x => (l.find? fun q => decide (q.1 = x)).map (·.2)
/-- Who is a block of ones. -/
def IsOne (w : World) (x : Nat) : Prop := ∃ cs, Blk w x 77 cs
theorem ask_run (k : Option Nat) (hk : ∀ x, k = some x → IsOne w x) : ∀ (es : List MapEntry) (l : List (Nat × Nat)) (i : Nat), es.map (fun e => (e.key, e.val)) = l.map (fun q => (ptr q.1, ptr q.2)) → (∀ q ∈ l, IsOne w q.1) →
    ∃ r : Option (Nat × Value), (Instr.findAsking 61 (pv k) es i).run Tryz.prog w = .ok r w ∧ r.map (·.2) = (pfind l k).map ptr := by
  intro es
  induction es with
  | nil =>
    intro l i h _
    have : l = [] := by cases l with
      | nil => rfl
      | cons q l => simp at h
    subst this
    refine ⟨none, rfl, ?_⟩
    cases k <;> rfl
  | cons e es ih =>
    intro l i h hl
    cases l with
    | nil => simp at h
    | cons q l =>
      simp only [List.map_cons, List.cons.injEq, Prod.mk.injEq] at h
      obtain ⟨⟨h1, h2⟩, h3⟩ := h
      obtain ⟨r, hr, hr2⟩ := ih l (i + 1) h3 (fun q hq => hl q (by simp [hq]))
      rw [Instr.findAsking]
      simp only [Sem.run_bind, h1]
      cases k with
      | none =>
        rw [show pv none = Value.pointer none from rfl, run_eq_nil w q.1]
        have hr' : (Instr.findAsking 61 (Value.pointer none) es (i + 1)).run Tryz.prog w = .ok r w := hr
        refine ⟨r, ?_, ?_⟩
        · simpa [Result.andThen] using hr'
        · exact hr2
      | some x =>
        rw [show pv (some x) = ptr x from rfl]
        have hr' : (Instr.findAsking 61 (ptr x) es (i + 1)).run Tryz.prog w = .ok r w := hr
        by_cases hx : q.1 = x
        · subst hx
          rw [run_eq_same]
          refine ⟨some (i, e.val), by simp [Result.andThen], ?_⟩
          simp [pfind, h2]
        · obtain ⟨ca, ha⟩ := hk x rfl
          obtain ⟨cb, hb⟩ := hl q (by simp)
          rw [run_eq_other (Ne.symm hx) ha hb]
          refine ⟨r, ?_, ?_⟩
          · simpa [Result.andThen] using hr'
          · rw [hr2]
            simp [pfind, hx]
theorem now_none (k : Option Nat) (e : MapEntry) (es : List MapEntry) : Instr.findNow (.pointer 77) (pv k) (e :: es) 0 = none := by
  cases k <;> (unfold Instr.findNow Instr.sameNow; rfl)
theorem key_run (k : Option Nat) (hk : ∀ x, k = some x → IsOne w x) (es : List MapEntry) (l : List (Nat × Nat)) (h : es.map (fun e => (e.key, e.val)) = l.map (fun q => (ptr q.1, ptr q.2))) (hl : ∀ q ∈ l, IsOne w q.1) :
    ∃ r : Option (Nat × Value), (Instr.findKey 61 (pv k) es).run Tryz.prog w = .ok r w ∧ r.map (·.2) = (pfind l k).map ptr := by
  unfold Instr.findKey
  simp only [Sem.run_bind, run_underlying Tryz.underlying61, Result.andThen]
  cases es with
  | nil =>
    have : l = [] := by cases l with
      | nil => rfl
      | cons q l => simp at h
    subst this
    refine ⟨none, rfl, ?_⟩
    cases k <;> rfl
  | cons e es =>
    rw [now_none]
    exact ask_run k hk _ l 0 h hl
theorem ckP (e : Bool) (k : Option Nat) (w : World) : (Instr.checkKey e 10000 61 (pv k)).run Tryz.prog w = .ok () w := by cases k <;> kernel_rfl
theorem PM.look (h : PM w b l) (k : Option Nat) (hk : ∀ x, k = some x → IsOne w x) (hl : ∀ q ∈ l, IsOne w q.1) : (Instr.lookup 103 (.map (some b)) (pv k) false).run Tryz.prog w = .ok (pv (pfind l k)) w := by
  obtain ⟨es, clk, hb, hm, -, -⟩ := h
  obtain ⟨r, hr, hr2⟩ := key_run k hk es.toList l hm hl
  have hg : (getObj b).run Tryz.prog w = .ok (.map es clk) w := by simp [getObj, Sem.run, hb]
  have hz : (zeroValue 61).run Tryz.prog w = .ok (.pointer none) w := zero55 w
  simp only [Instr.lookup, Sem.run_bind, run_underlying Tryz.underlying103, Result.andThen, hg, ckP, hr, Sem.run_pure]
  cases r with
  | none =>
    cases hp : pfind l k with
    | some y => rw [hp] at hr2; cases hr2
    | none => simp [hz]; rfl
  | some q =>
    obtain ⟨i, v⟩ := q
    cases hp : pfind l k with
    | none => rw [hp] at hr2; cases hr2
    | some y =>
      rw [hp] at hr2
      simp at hr2
      simp [hr2]
      rfl
theorem PM.upd (h : PM w b l) (x y : Nat) (hx : IsOne w x) (hl : ∀ q ∈ l, IsOne w q.1) (hn : x ∉ l.map (·.1)) :
    ∃ w', (Instr.mapUpdate 103 (.map (some b)) (ptr x) (ptr y)).run Tryz.prog w = .ok () w' ∧ PM w' b (l ++ [(x, y)]) ∧ Keeps [b] w w' := by
  have hlt := h.lt
  obtain ⟨es, clk, hb, hm, hnd, hbo⟩ := h
  obtain ⟨r, hr, hr2⟩ := key_run (some x) (fun z e => by injection e with e; rw [← e]; exact hx) es.toList l hm hl
  have hp : pfind l (some x) = none := by
    unfold pfind
    rw [Option.map_eq_none_iff, List.find?_eq_none]
    intro q hq e
    exact hn (List.mem_map.2 ⟨q, hq, by simpa using e⟩)
  rw [hp] at hr2
  have hrn : r = none := by cases r with
    | none => rfl
    | some q => cases hr2
  subst hrn
  have hg : (getObj b).run Tryz.prog w = .ok (.map es clk) w := by simp [getObj, Sem.run, hb]
  have hs : ∀ o, (setObj b o).run Tryz.prog w = .ok () { w with heap := w.heap.setIfInBounds b o } := fun o => by simp [setObj, Sem.run, hb]
  have hr' : (Instr.findKey 61 (ptr x) es.toList).run Tryz.prog w = .ok none w := hr
  have hck : (Instr.checkKey false 10000 61 (ptr x)).run Tryz.prog w = .ok () w := ckP false (some x) w
  refine ⟨{ w with heap := w.heap.setIfInBounds b (.map (es.push ⟨ptr x, ptr y, clk⟩) (clk + 1)) }, ?_, ⟨es.push ⟨ptr x, ptr y, clk⟩, clk + 1, by simp [hlt], ?_, ?_, ?_⟩, ⟨rfl, rfl, rfl, by simp, fun k hk hn => ?_⟩⟩
  · simp [Instr.mapUpdate, run_underlying Tryz.underlying103, Result.andThen, hg, hck, hr', hs]
  · simp [hm]
  · simp only [Array.toList_push, List.map_append, List.map_cons, List.map_nil]
    rw [List.nodup_append]
    refine ⟨hnd, by simp, fun a ha c hc e => ?_⟩
    simp only [List.mem_singleton] at hc
    obtain ⟨q, hq, rfl⟩ := List.mem_map.1 ha
    have := hbo q hq
    omega
  · intro e he
    simp only [Array.toList_push, List.mem_append, List.mem_singleton] at he
    rcases he with he | rfl
    · have := hbo e he; omega
    · exact Nat.lt_succ_self _
  · have : b ≠ k := fun e => hn (by simp [e])
    simp [this]
end
end Go.Proofs.YtbllmpcpfmlemaaGreat
namespace Go.Proofs.YtbllmpcpfmlemaaGreat
open Go.RowKit
open Go.ChangeMaps (setBlock)

theorem inj_of_nodup {α β : Type} {f : α → β} {l : List α} (h : (l.map f).Nodup) : ∀ a ∈ l, ∀ b ∈ l, f a = f b → a = b := by
  induction l with
  | nil => intro a ha; cases ha
  | cons x l ih =>
    rw [List.map_cons, List.nodup_cons] at h
    intro a ha b hb e
    rcases List.mem_cons.1 ha with rfl | ha'
    · rcases List.mem_cons.1 hb with rfl | hb
      · rfl
      · exact absurd (show f a ∈ l.map f from List.mem_map.2 ⟨b, hb, e.symm⟩) h.1
    · rcases List.mem_cons.1 hb with rfl | hb
      · exact absurd (show f b ∈ l.map f from List.mem_map.2 ⟨a, ha', e⟩) h.1
      · exact ih h.2 a ha' b hb e
/-- A loop over the map b: the iterator is r; 'left': which keys are still to come. -/
def PIt (w : World) (b r : Nat) (l : List (Nat × Nat)) (left : Nat → Prop) : Prop :=
  ∃ es clk since seen c0, w.heap[b]? = some (.map es clk) ∧ es.toList.map (fun e => (e.key, e.val)) = l.map (fun q => (ptr q.1, ptr q.2)) ∧ (es.toList.map (·.born)).Nodup ∧ (∀ e ∈ es.toList, e.born < clk) ∧
    w.heap[r]? = some (.mapIter (some b) since seen c0) ∧ (∀ e ∈ es.toList, e.born < since) ∧ since ≤ c0 ∧ since ≤ clk ∧ ∀ x, left x ↔ ∃ e ∈ es.toList, e.key = ptr x ∧ seen.contains e.born = false
section
variable {w w' : World} {b r : Nat} {l : List (Nat × Nat)} {left : Nat → Prop}
theorem PIt.pm (h : PIt w b r l left) : PM w b l := by obtain ⟨es, clk, since, seen, c0, h1, h2, h3, h4, _⟩ := h; exact ⟨es, clk, h1, h2, h3, h4⟩
theorem PIt.lt (h : PIt w b r l left) : r < w.heap.size := by obtain ⟨es, clk, since, seen, c0, _, _, _, _, h, _⟩ := h; exact (Array.getElem?_eq_some_iff.1 h).1
theorem PIt.keep {K : List Nat} (h : PIt w b r l left) (hk : Keeps K w w') (hb : b ∉ K) (hr : r ∉ K) : PIt w' b r l left ∧ w'.rangeLeft b r = w.rangeLeft b r := by
  have h1 := h.pm.lt
  have h2 := h.lt
  obtain ⟨es, clk, since, seen, c0, a1, a2, a3, a4, a5, a6⟩ := h
  have e1 := hk.block b h1 hb
  have e2 := hk.block r h2 hr
  exact ⟨⟨es, clk, since, seen, c0, e1.trans a1, a2, a3, a4, e2.trans a5, a6⟩, by unfold World.rangeLeft; rw [e1, e2]⟩
variable {ops : Array Oper} {rest : List Oper} {o : Oper} {a : Act} {Q : Exit → Act → World → Prop}
theorem wpList_rangeP (hg : o.guard = none) (m : Operand) (hop : o.op = Op.range 103 m) (hm : a.eval m = .map (some b)) (h : PM w b l)
    (hK : ∀ w', PIt w' b w.heap.size l (fun x => x ∈ l.map (·.1)) → Keeps [] w w' → w'.heap.size = w.heap.size + 1 → wpList Tryz.prog ops Q rest (a.put o.dst (.pointer (some ⟨w.heap.size, 0, none⟩))) w') :
    wpList Tryz.prog ops Q (o :: rest) a w := by
  have hlt := h.lt
  obtain ⟨es, clk, hb, hm2, hnd, hbo⟩ := h
  refine wpList_plain hg fun K' hK' => ?_
  have hrun := run_range_map w 103 61 61 b es clk Tryz.underlying103 hb
  unfold Oper.wp
  simp [execOp, hop, hm, hrun, Result.andThen]
  refine hK' _ _ (hK _ ⟨es, clk, clk, #[], clk, (Below.heap_alloc w _ b hlt).trans hb, hm2, hnd, hbo, heap_alloc_new w _, hbo, Nat.le_refl _, Nat.le_refl _, fun x => ?_⟩ ((Keeps.refl [] w).alloc _) (by simp))
  constructor
  · intro hx
    obtain ⟨q, hq, rfl⟩ := List.mem_map.1 hx
    have : (ptr q.1, ptr q.2) ∈ es.toList.map (fun e => (e.key, e.val)) := by rw [hm2]; exact List.mem_map.2 ⟨q, hq, rfl⟩
    obtain ⟨e, he, e1⟩ := List.mem_map.1 this
    injection e1 with e1 _
    exact ⟨e, he, e1, by simp⟩
  · rintro ⟨e, he, e1, _⟩
    have : (e.key, e.val) ∈ l.map (fun q => (ptr q.1, ptr q.2)) := by rw [← hm2]; exact List.mem_map.2 ⟨e, he, rfl⟩
    obtain ⟨q, hq, e2⟩ := List.mem_map.1 this
    injection e2 with e2 _
    rw [e1] at e2
    exact List.mem_map.2 ⟨q, hq, ptr_inj e2⟩
theorem wpList_nextP (hg : o.guard = none) (it : Operand) (hop : o.op = Op.next it false) (hit : a.eval it = .pointer (some ⟨r, 0, none⟩)) (h : PIt w b r l left) (hnd : (l.map (·.1)).Nodup)
    (hDone : (∀ q ∈ l, ¬ left q.1) → wpList Tryz.prog ops Q rest (a.put o.dst (.tuple #[.bool false])) w)
    (hMore : ∀ (x y : Nat) (w' : World), (x, y) ∈ l → left x → PIt w' b r l (fun z => left z ∧ z ≠ x) → w'.rangeLeft b r < w.rangeLeft b r → Keeps [r] w w' → w'.heap.size = w.heap.size →
      (Instr.entry (.pointer (some ⟨r, 0, none⟩))).run Tryz.prog w' = .ok (.tuple #[ptr x, ptr y]) w' → wpList Tryz.prog ops Q rest (a.put o.dst (.tuple #[.bool true, ptr x, ptr y])) w') :
    wpList Tryz.prog ops Q (o :: rest) a w := by
  have hrl := h.lt
  have hbl := h.pm.lt
  obtain ⟨es, clk, since, seen, c0, a1, a2, a3, a4, a5, a6, a7, a9, a8⟩ := h
  have hne : b ≠ r := by rintro rfl; rw [a1] at a5; cases a5
  refine wpList_plain hg fun K' hK' => ?_
  unfold Oper.wp
  rcases run_next_at (P := Tryz.prog) w o.type r b since c0 seen es clk a5 a1 a6 a7 with ⟨h0, hrun⟩ | ⟨e, he, w1, hw1, hrun⟩
  · simp [execOp, hop, hit, hrun, Result.andThen]
    refine hK' _ _ (hDone (fun q _ hl => ?_))
    obtain ⟨e, he, _, hs⟩ := (a8 q.1).1 hl
    have : e ∈ (leftOf es seen).toList := by unfold leftOf; simp; exact ⟨by simpa using he, by simpa using hs⟩
    have h1 : (leftOf es seen).toList.length = 0 := by rw [Array.length_toList]; exact h0
    rw [List.length_eq_zero_iff.1 h1] at this
    cases this
  · obtain ⟨he1, he2⟩ := mem_left he
    have : (e.key, e.val) ∈ l.map (fun q => (ptr q.1, ptr q.2)) := by rw [← a2]; exact List.mem_map.2 ⟨e, he1, rfl⟩
    obtain ⟨⟨x, y⟩, hq, e2⟩ := List.mem_map.1 this
    injection e2 with ek ev
    dsimp only at ek ev
    have hlx : left x := (a8 x).2 ⟨e, he1, ek.symm, he2⟩
    have hkey : ∀ e' ∈ es.toList, e'.key = ptr x → e' = e := by
      intro e' he' hk'
      have hn : (es.toList.map (·.key)).Nodup := by
        have e3 : es.toList.map (·.key) = l.map (fun q => ptr q.1) := by
          have := congrArg (List.map Prod.fst) a2
          simpa [List.map_map, Function.comp_def] using this
        rw [e3]
        have e4 : l.map (fun q => ptr q.1) = (l.map (·.1)).map ptr := by rw [List.map_map]; rfl
        rw [e4]
        exact List.pairwise_map.2 (hnd.imp (fun h e => h (ptr_inj e)))
      exact inj_of_nodup hn e' he' e he1 (hk'.trans ek)
    have hw1b : w1.heap = w.heap := by rcases hw1 with rfl | rfl <;> rfl
    have hr1 : (setBlock w1 r (.mapIter (some b) since (seen.push e.born) clk)).heap[r]? = some (.mapIter (some b) since (seen.push e.born) clk) := by simp [setBlock, hw1b, hrl]
    have hb1 : (setBlock w1 r (.mapIter (some b) since (seen.push e.born) clk)).heap[b]? = some (.map es clk) := by
      have : r ≠ b := Ne.symm hne
      simp [setBlock, hw1b, this, a1]
    have hkeep : Keeps [r] w (setBlock w1 r (.mapIter (some b) since (seen.push e.born) clk)) := by
      refine ⟨?_, ?_, ?_, ?_, fun k hk hn => ?_⟩
      · rcases hw1 with rfl | rfl <;> rfl
      · rcases hw1 with rfl | rfl <;> rfl
      · rcases hw1 with rfl | rfl <;> rfl
      · simp [setBlock, hw1b]
      · have : r ≠ k := fun e => hn (by simp [e])
        simp [setBlock, hw1b, this]
    have hen := run_entry_at (P := Tryz.prog) (setBlock w1 r (.mapIter (some b) since (seen.push e.born) clk)) r b since seen es clk e hr1 hb1 he1 a3
    rw [← ek, ← ev] at hen hrun
    simp [execOp, hop, hit, hrun, Result.andThen]
    refine hK' _ _ (hMore x y _ hq hlx ⟨es, clk, since, seen.push e.born, clk, hb1, a2, a3, a4, hr1, a6, a9, a9, fun z => ?_⟩ ?_ hkeep (by simp [setBlock, hw1b]) hen)
    · constructor
      · rintro ⟨h1, h2⟩
        obtain ⟨e', he', hk', hs'⟩ := (a8 z).1 h1
        refine ⟨e', he', hk', ?_⟩
        rw [contains_push, hs', Bool.false_or, beq_eq_false_iff_ne]
        intro hb'
        have : e' = e := by
          exact inj_of_nodup a3 e' he' e he1 hb'
        subst this
        exact h2 (ptr_inj (hk'.symm.trans ek.symm))
      · rintro ⟨e', he', hk', hs'⟩
        rw [contains_push, Bool.or_eq_false_iff, beq_eq_false_iff_ne] at hs'
        refine ⟨(a8 z).2 ⟨e', he', hk', hs'.1⟩, fun hz => ?_⟩
        subst hz
        have := hkey e' he' hk'
        exact hs'.2 (by rw [this])
    · unfold World.rangeLeft
      rw [hr1, hb1, a1, a5]
      exact left_shrinks es seen e he
end
end Go.Proofs.YtbllmpcpfmlemaaGreat
