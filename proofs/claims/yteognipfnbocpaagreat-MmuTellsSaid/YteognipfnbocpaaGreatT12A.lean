/- Texts of elder seats, turned to this one. -/
import Derived.Test.YteognipfnbocpaaGreatOwn
import Derived.Test.YteognipfnbocpaaGreatProg
import Derived.BigRegion
import Derived.Deep.QuietTactic
import Derived.BigQuiet
import Derived.WalkLawsBesides
import Derived.WalkSpells
import Derived.Handy
import Derived.Deep.RegionHeld3
import Derived.KernelRfl
import Derived.Deep.DeepCutAuto
import Derived.Laws.CopyRow
namespace Go.Proofs.YteognipfnbocpaaGreat.T12
open Go.RowKit

/-- An entry: frame, write, accessed, dirty. -/
structure E where
  fr : Int
  wr : Bool
  ac : Bool
  di : Bool
/-- Cell j of the place of page pg. -/
def cellv (o : Option E) (pg : Nat) (j : Nat) : Value :=
  match j with
  | 0 => .int .i64 (match o with | none => 0 | some _ => (pg : Int))
  | 1 => .int .i64 (match o with | none => 0 | some e => e.fr)
  | 2 => .bool (match o with | none => false | some e => e.wr)
  | 3 => .bool (match o with | none => false | some e => e.ac)
  | 4 => .bool (match o with | none => false | some e => e.di)
  | _ => .bool o.isSome
/-- How many of the first n places of group g are taken. -/
def used (m : Nat → Option E) (g : Nat) : Nat → Nat
  | 0 => 0
  | n + 1 => used m g n + if (m (16 * g + n)).isSome then 1 else 0
theorem used_le (m : Nat → Option E) (g n : Nat) : used m g n ≤ n := by
  induction n with
  | zero => exact Nat.le_refl _
  | succ n ih => unfold used; split <;> omega
theorem used_zero (m : Nat → Option E) (g n : Nat) : used m g n = 0 ↔ ∀ i, i < n → m (16 * g + i) = none := by
  induction n with
  | zero => simp [used]
  | succ n ih =>
    unfold used
    constructor
    · intro h i hi
      by_cases e : i = n
      · subst e
        cases hm : m (16 * g + i) with
        | none => rfl
        | some x => simp [hm] at h
      · exact ih.1 (by omega) i (by omega)
    · intro h
      have h1 := ih.2 (fun i hi => h i (by omega))
      simp [h1, h n (by omega)]
def upd (m : Nat → Option E) (pg : Nat) (o : Option E) : Nat → Option E := fun k => if k = pg then o else m k
theorem upd_same (m : Nat → Option E) (pg : Nat) (o : Option E) : upd m pg o pg = o := if_pos rfl
theorem upd_ne {m : Nat → Option E} {pg k : Nat} {o : Option E} (h : k ≠ pg) : upd m pg o k = m k := if_neg h
theorem used_upd_off {m : Nat → Option E} {pg : Nat} {o : Option E} {g n : Nat} (h : pg < 16 * g ∨ 16 * g + n ≤ pg) : used (upd m pg o) g n = used m g n := by
  induction n with
  | zero => rfl
  | succ n ih => unfold used; rw [ih (by omega), upd_ne (by omega)]
theorem used_upd {m : Nat → Option E} {o : Option E} {g i n : Nat} (hi : i < n) :
    used (upd m (16 * g + i) o) g n + (if (m (16 * g + i)).isSome then 1 else 0) = used m g n + (if o.isSome then 1 else 0) := by
  induction n with
  | zero => omega
  | succ n ih =>
    unfold used
    by_cases e : i = n
    · subst e
      rw [upd_same, used_upd_off (by omega)]
      omega
    · have := ih (by omega)
      rw [upd_ne (by omega)]
      omega

/-- The second-level table of group g lies at block s, and says that u of its places are taken. -/
structure SecAt (w : World) (s : Nat) (m : Nat → Option E) (g : Nat) (u : Nat) (cs : Array Value) : Prop where
  b : Blk w s 105 cs
  z : cs.size = 97
  c : ∀ i j, i < 16 → j < 6 → cs[i * 6 + j]? = some (cellv (m (16 * g + i)) (16 * g + i) j)
  u : cs[96]? = some (.int .i64 u)
/-- The page table with the entries m lies at block p; q g: where group g's table lies. Group x may have a table without entries. -/
structure TbAt (x : Nat) (w : World) (F : List Nat) (p : Nat) (m : Nat → Option E) (q : Nat → Option Nat) : Prop where
  f : ∀ g ∈ F, g < w.heap.size
  fp : p ∈ F
  fq : ∀ k s, k < 16 → q k = some s → s ∈ F
  b : ∃ cs, Blk w p 100 cs ∧ cs.size = 16 ∧ ∀ k, k < 16 → cs[k]? = some (.pointer ((q k).map fun s => ⟨s, 0, none⟩))
  s : ∀ k s, k < 16 → q k = some s → ∃ cs, SecAt w s m k (used m k 16) cs
  n : ∀ k, k < 16 → k ≠ x → (q k = none ↔ ∀ i, i < 16 → m (16 * k + i) = none)
  d : ∀ k l s, k < 16 → l < 16 → q k = some s → q l = some s → k = l
  o : ∀ pg, 256 ≤ pg → m pg = none
  r : ∀ pg e, m pg = some e → 0 ≤ e.fr ∧ e.fr ≤ 9223372036854775807
def TbRep (w : World) (F : List Nat) (p : Nat) (m : Nat → Option E) : Prop := ∃ q, TbAt 16 w F p m q
section
variable {x : Nat} {w w' : World} {F G : List Nat} {p : Nat} {m : Nat → Option E} {q : Nat → Option Nat}
theorem TbAt.lt (h : TbAt x w F p m q) : ∀ g ∈ F, g < w.heap.size := h.f
theorem TbAt.keep (h : TbAt x w F p m q) (hk : Keeps G w w') (hd : ∀ g ∈ F, g ∉ G) : TbAt x w' F p m q := by
  obtain ⟨cs, hb, h1, h2⟩ := h.b
  refine ⟨fun g hg => Nat.lt_of_lt_of_le (h.f g hg) hk.size, h.fp, h.fq, ⟨cs, hb.keep hk (hd p h.fp), h1, h2⟩, fun k s hk' e => ?_, h.n, h.d, h.o, h.r⟩
  obtain ⟨cs, hs⟩ := h.s k s hk' e
  exact ⟨cs, hs.b.keep hk (hd s (h.fq k s hk' e)), hs.z, hs.c, hs.u⟩
theorem TbRep.lt (h : TbRep w F p m) : ∀ g ∈ F, g < w.heap.size := by obtain ⟨q, h⟩ := h; exact h.lt
theorem TbRep.keep (h : TbRep w F p m) (hk : Keeps G w w') (hd : ∀ g ∈ F, g ∉ G) : TbRep w' F p m := by obtain ⟨q, h⟩ := h; exact ⟨q, h.keep hk hd⟩
end
end Go.Proofs.YteognipfnbocpaaGreat.T12
namespace Go.Proofs.YteognipfnbocpaaGreat.T12
open Go.RowKit

theorem new_any (w : World) : Calls Tryz.prog 72 #[] w fun e w' => ∃ F p, e = .returned (.pointer (some ⟨p, 0, none⟩)) ∧ TbRep w' F p (fun _ => none) ∧ Keeps [] w w' ∧ ∀ g ∈ F, w.heap.size ≤ g := by
  go_enter Tryz.func72, Tryz.ntmps72
  go_wp2
  go_ret
  refine ⟨[w.heap.size], w.heap.size, rfl, ⟨fun _ => none, fun g hg => (by obtain rfl := List.mem_singleton.1 hg; simp), by simp, fun _ _ _ h => (nomatch h), ⟨_, Blk.new _ _ _, rfl, fun k hk => ?_⟩, fun _ _ _ h => (nomatch h), fun _ _ _ => ⟨fun _ _ _ => rfl, fun _ => rfl⟩, fun _ _ _ _ _ h => (nomatch h), fun _ _ => rfl, fun _ _ h => (nomatch h)⟩, (Keeps.refl _ _).alloc _, by simp⟩
  simp only [List.getElem?_toArray, Option.map_none]
  have : ∀ k : Fin 16, [Value.pointer none, Value.pointer none, Value.pointer none, Value.pointer none, Value.pointer none, Value.pointer none, Value.pointer none, Value.pointer none, Value.pointer none, Value.pointer none, Value.pointer none, Value.pointer none, Value.pointer none, Value.pointer none, Value.pointer none, Value.pointer none][k.1]? = some (Value.pointer none) := fun k => List.getElem?_replicate_of_lt (n := 16) (a := Value.pointer none) k.2
  exact this ⟨k, hk⟩

theorem SecAt.place {w : World} {s : Nat} {m : Nat → Option E} {k j u : Nat} {cs : Array Value} (h : SecAt w s m (k / 16) u cs) (hj : j < 6) : w.cell? ⟨s, k % 16 * 6 + j, none⟩ = some (cellv (m k) k j) := by
  have e : 16 * (k / 16) + k % 16 = k := Nat.div_add_mod k 16
  have := h.c (k % 16) j (Nat.mod_lt _ (by omega)) hj
  rw [e] at this
  exact (h.b.cell _).trans this

set_option maxRecDepth 100000 in
/-- Which place holds page k: its address, if it is taken. -/
theorem at_any (w : World) (F : List Nat) (p : Nat) (m : Nat → Option E) (q : Nat → Option Nat) (pg : Int) (h : TbAt 16 w F p m q) (h1 : -9223372036854775808 ≤ pg) (h2 : pg ≤ 9223372036854775807) :
    Calls Tryz.prog 73 #[.pointer (some ⟨p, 0, none⟩), .int .i64 pg] w fun e w' => w = w' ∧
      ((e = .returned (.pointer none) ∧ (0 ≤ pg → m pg.toNat = none)) ∨
       (∃ (k s : Nat) (x : E), pg = k ∧ k < 256 ∧ q (k / 16) = some s ∧ m k = some x ∧ e = .returned (.pointer (some ⟨s, k % 16 * 6, none⟩)))) := by
  by_cases a0 : 0 ≤ pg
  rotate_left
  · go_enter Tryz.func73, Tryz.ntmps73
    go_wp2
    go_ret
    exact ⟨rfl, .inl ⟨rfl, fun h => absurd h (by omega)⟩⟩
  by_cases a1 : pg < 256
  rotate_left
  · have HO := Lib.hid (h.o pg.toNat (by omega))
    go_enter Tryz.func73, Tryz.ntmps73
    go_wp2
    go_ret
    refine ⟨rfl, .inl ⟨rfl, ?_⟩⟩
    intros
    exact HO.out
  obtain ⟨k, rfl⟩ := Int.eq_ofNat_of_zero_le a0
  have hg : k / 16 < 16 := by omega
  obtain ⟨cs, hb, hz, hc⟩ := h.b
  have c0 : w.cell? ⟨p, k / 16, none⟩ = some (.pointer ((q (k / 16)).map fun s => ⟨s, 0, none⟩)) := (hb.cell _).trans (hc _ hg)
  have hS := h.s (k / 16)
  have hN := (h.n (k / 16) hg (by omega))
  have hk16 : 16 * (k / 16) + k % 16 = k := Nat.div_add_mod k 16
  have b0 : (0 : Int) ≤ (k : Int) / 16 := by omega
  have b1 : (k : Int) / 16 < 16 := by omega
  have b2 : (0 : Int) ≤ (k : Int) % 16 := by omega
  have b3 : (k : Int) % 16 < 16 := by omega
  cases hq : q (k / 16) with
  | none =>
    rw [hq] at c0
    simp only [Option.map_none] at c0
    have HX : Hid (m k = none) := by have := hN.1 hq (k % 16) (Nat.mod_lt _ (by omega)); rw [hk16] at this; exact this
    clear hN hS hc hb h hk16
    go_enter Tryz.func73, Tryz.ntmps73
    go_wp2
    go_ret
    refine ⟨rfl, .inl ⟨rfl, ?_⟩⟩
    intros
    exact HX.out
  | some s =>
    rw [hq] at c0
    simp only [Option.map_some] at c0
    obtain ⟨cs2, hs⟩ := hS s hg hq
    have c5 := hs.place (k := k) (j := 5) (by omega)
    have HQ := Lib.hid hq
    clear hN hS hc hb h hs hk16
    cases hm : m k with
    | none =>
      rw [hm] at c5
      have c5' : w.cell? ⟨s, k % 16 * 6 + 5, none⟩ = some (.bool false) := c5
      have HM := Lib.hid hm
      clear c5
      go_enter Tryz.func73, Tryz.ntmps73
      go_wp2
      go_ret
      refine ⟨rfl, .inl ⟨rfl, ?_⟩⟩
      intros
      exact HM.out
    | some x =>
      rw [hm] at c5
      have c5' : w.cell? ⟨s, k % 16 * 6 + 5, none⟩ = some (.bool true) := c5
      have HM := Lib.hid hm
      clear c5
      go_enter Tryz.func73, Tryz.ntmps73
      go_wp2
      go_ret
      exact ⟨rfl, .inr ⟨k, s, x, rfl, by omega, HQ.out, HM.out, rfl⟩⟩
end Go.Proofs.YteognipfnbocpaaGreat.T12
namespace Go.Proofs.YteognipfnbocpaaGreat.T12
open Go.RowKit

theorem SecAt.put_ {w w' : World} {s : Nat} {m : Nat → Option E} {k u v : Nat} {cs cs' : Array Value} {o : Option E} (h : SecAt w s m (k / 16) u cs) (hb : Blk w' s 105 cs') (hz : cs'.size = 97)
    (hout : ∀ t, t < 96 → ¬(k % 16 * 6 ≤ t ∧ t < k % 16 * 6 + 6) → cs'[t]? = cs[t]?) (hin : ∀ j, j < 6 → cs'[k % 16 * 6 + j]? = some (cellv o k j))
    (hu : cs'[96]? = some (.int .i64 v)) : SecAt w' s (upd m k o) (k / 16) v cs' := by
  refine ⟨hb, hz, fun i j hi hj => ?_, hu⟩
  by_cases e : i = k % 16
  · subst e
    have e : 16 * (k / 16) + k % 16 = k := Nat.div_add_mod k 16
    rw [e, upd_same]
    exact hin j hj
  · rw [hout (i * 6 + j) (by omega) (by omega), upd_ne (by have := Nat.div_add_mod k 16; omega)]
    exact h.c i j hi hj
/-- The place of page k is stored anew. -/
theorem SecAt.six {w : World} {s : Nat} {m : Nat → Option E} {k u : Nat} {cs : Array Value} (o : Option E) (h : SecAt w s m (k / 16) u cs) : ∃ cs',
    SecAt ((((((w.setCell ⟨s, k % 16 * 6, none⟩ (cellv o k 0)).setCell ⟨s, k % 16 * 6 + 1, none⟩ (cellv o k 1)).setCell ⟨s, k % 16 * 6 + 2, none⟩ (cellv o k 2)).setCell ⟨s, k % 16 * 6 + 3, none⟩ (cellv o k 3)).setCell ⟨s, k % 16 * 6 + 4, none⟩ (cellv o k 4)).setCell ⟨s, k % 16 * 6 + 5, none⟩ (cellv o k 5)) s (upd m k o) (k / 16) u cs' := by
  have hz := h.z
  have hlt : k % 16 < 16 := Nat.mod_lt _ (by omega)
  refine ⟨_, h.put_ ((((((h.b.set_ _ _).set_ _ _).set_ _ _).set_ _ _).set_ _ _).set_ _ _) (by simp [hz]) (fun t ht hn => ?_) (fun j hj => ?_) ?_⟩
  · simp only [Array.getElem?_setIfInBounds]
    repeat rw [if_neg (by omega)]
  · have : j = 0 ∨ j = 1 ∨ j = 2 ∨ j = 3 ∨ j = 4 ∨ j = 5 := by omega
    rcases this with rfl | rfl | rfl | rfl | rfl | rfl
    all_goals (simp [Array.getElem?_setIfInBounds, hz]; try omega)
  · simp only [Array.getElem?_setIfInBounds]
    repeat rw [if_neg (by omega)]
    exact h.u
/-- One flag of page k's place is stored anew. -/
theorem SecAt.one {w : World} {s : Nat} {m : Nat → Option E} {k u j : Nat} {cs : Array Value} (o : Option E) (h : SecAt w s m (k / 16) u cs) (hj : j < 6) (ho : ∀ i, i < 6 → i ≠ j → cellv o k i = cellv (m k) k i) :
    ∃ cs', SecAt (w.setCell ⟨s, k % 16 * 6 + j, none⟩ (cellv o k j)) s (upd m k o) (k / 16) u cs' := by
  have hz := h.z
  have hlt : k % 16 < 16 := Nat.mod_lt _ (by omega)
  refine ⟨_, h.put_ (h.b.set_ _ _) (by simp [hz]) (fun t ht hn => ?_) (fun i hi => ?_) ?_⟩
  · simp only [Array.getElem?_setIfInBounds]
    rw [if_neg (by omega)]
  · simp only [Array.getElem?_setIfInBounds]
    by_cases e : i = j
    · subst e
      rw [if_pos rfl, if_pos (by rw [hz]; omega)]
    · rw [if_neg (by omega), ho i hi e]
      have e : 16 * (k / 16) + k % 16 = k := Nat.div_add_mod k 16
      have := h.c (k % 16) i (by omega) hi
      rw [e] at this
      exact this
  · simp only [Array.getElem?_setIfInBounds]
    rw [if_neg (by omega)]
    exact h.u
theorem SecAt.cnt {w : World} {s : Nat} {m : Nat → Option E} {g u : Nat} (v : Nat) {cs : Array Value} (h : SecAt w s m g u cs) : ∃ cs', SecAt (w.setCell ⟨s, 96, none⟩ (.int .i64 v)) s m g v cs' := by
  have hz := h.z
  refine ⟨_, h.b.set_ _ _, by simp [hz], fun i j hi hj => ?_, by simp [hz]⟩
  rw [Array.getElem?_setIfInBounds, if_neg (by omega)]
  exact h.c i j hi hj

theorem TbAt.put_ {x y : Nat} {w w' : World} {F : List Nat} {p : Nat} {m : Nat → Option E} {q : Nat → Option Nat} {k s : Nat} {cs' : Array Value} {o : Option E} (h : TbAt x w F p m q) (hk : k < 256) (hq : q (k / 16) = some s)
    (hx : x = 16 ∨ x = k / 16) (hy : y = k / 16 ∨ 0 < used (upd m k o) (k / 16) 16)
    (hK : Keeps [s] w w') (hs : SecAt w' s (upd m k o) (k / 16) (used (upd m k o) (k / 16) 16) cs') (hr : ∀ e, o = some e → 0 ≤ e.fr ∧ e.fr ≤ 9223372036854775807) : TbAt y w' F p (upd m k o) q := by
  have hg : k / 16 < 16 := by omega
  obtain ⟨cs, hb, h1, h2⟩ := h.b
  obtain ⟨cs0, hs0⟩ := h.s _ _ hg hq
  have hps : p ≠ s := Blk.ne_ hb hs0.b (by decide)
  have hoff : ∀ l i, l ≠ k / 16 → i < 16 → upd m k o (16 * l + i) = m (16 * l + i) := fun l i hl hi => upd_ne (by omega)
  refine ⟨fun g hg => Nat.lt_of_lt_of_le (h.f g hg) hK.size, h.fp, h.fq, ⟨cs, hb.keep hK (by simpa using hps), h1, h2⟩, fun l t hl e => ?_, fun l hl hly => ?_, h.d, fun pg hpg => ?_, fun pg e he => ?_⟩
  · by_cases el : l = k / 16
    · subst el
      obtain rfl : s = t := by rw [hq] at e; exact Option.some.inj e
      exact ⟨cs', hs⟩
    · obtain ⟨cs1, hs1⟩ := h.s l t hl e
      have hts : t ≠ s := fun hx => el (h.d l (k / 16) s hl hg (hx ▸ e) hq)
      refine ⟨cs1, hs1.b.keep hK (by simpa using hts), hs1.z, fun i j hi hj => ?_, ?_⟩
      · rw [hoff l i el hi]; exact hs1.c i j hi hj
      · rw [used_upd_off (by omega)]; exact hs1.u
  · by_cases el : l = k / 16
    · subst el
      refine ⟨fun hx => (by rw [hq] at hx; cases hx), fun hx => ?_⟩
      have := (used_zero _ _ _).2 hx
      rcases hy with hy | hy
      · exact absurd hy.symm hly
      · omega
    · rw [h.n l hl (by omega)]
      exact ⟨fun hx i hi => by rw [hoff l i el hi]; exact hx i hi, fun hx i hi => by rw [← hoff l i el hi]; exact hx i hi⟩
  · rw [upd_ne (by omega)]; exact h.o pg hpg
  · by_cases e2 : pg = k
    · subst e2; rw [upd_same] at he; exact hr e he
    · rw [upd_ne e2] at he; exact h.r pg e he
/-- The pointer of group g is stored anew. -/
theorem TbAt.lay {x y : Nat} {w w1 : World} {F F' : List Nat} {p : Nat} {m : Nat → Option E} {q : Nat → Option Nat} {g : Nat} {o : Option Nat} (h : TbAt x w F p m q) (hg : g < 16) (hx : x = 16 ∨ x = g)
    (hK : Keeps [] w w1) (hF : ∀ t ∈ F, t ∈ F') (hF' : ∀ t ∈ F', t < w1.heap.size) (hy : y = g ∨ (o = none ↔ ∀ i, i < 16 → m (16 * g + i) = none))
    (ho : ∀ s, o = some s → w.heap.size ≤ s ∧ s ∈ F' ∧ ∃ cs, SecAt w1 s m g (used m g 16) cs) :
    TbAt y (w1.setCell ⟨p, g, none⟩ (.pointer (o.map fun s => ⟨s, 0, none⟩))) F' p m (fun l => if l = g then o else q l) := by
  obtain ⟨cs, hb, h1, h2⟩ := h.b
  have hfar : ∀ s ∈ F, s < w.heap.size := h.f
  have hpl := h.f p h.fp
  have K2 : Keeps [p] w1 (w1.setCell ⟨p, g, none⟩ (.pointer (o.map fun s => ⟨s, 0, none⟩))) := (Keeps.refl _ _).setCell (.inl (by simp)) _
  have H : ∀ l t, l < 16 → (if l = g then o else q l) = some t → (l = g ∧ o = some t) ∨ (l ≠ g ∧ q l = some t) := by
    intro l t _ e
    by_cases el : l = g
    · rw [if_pos el] at e; exact .inl ⟨el, e⟩
    · rw [if_neg el] at e; exact .inr ⟨el, e⟩
  refine ⟨fun t ht => Nat.lt_of_lt_of_le (hF' t ht) K2.size, hF _ h.fp, fun l t hl e => ?_, ⟨_, (hb.keep hK (by simp)).set_ _ _, by simp [h1], fun l hl => ?_⟩, fun l t hl e => ?_, fun l hl hly => ?_, fun l l' t hl hl' e e' => ?_, h.o, h.r⟩
  · rcases H l t hl e with ⟨-, e2⟩ | ⟨-, e2⟩
    · exact (ho t e2).2.1
    · exact hF _ (h.fq l t hl e2)
  · rw [Array.getElem?_setIfInBounds]
    by_cases el : g = l
    · subst el
      rw [if_pos rfl, if_pos (by omega), if_pos rfl]
    · rw [if_neg el, if_neg (fun e => el e.symm)]
      exact h2 l hl
  · rcases H l t hl e with ⟨rfl, e2⟩ | ⟨ne, e2⟩
    · obtain ⟨hge, -, cs, hs⟩ := ho t e2
      exact ⟨cs, hs.b.keep K2 (by simp; omega), hs.z, hs.c, hs.u⟩
    · obtain ⟨cs1, hs⟩ := h.s l t hl e2
      have hpt : t ≠ p := (Blk.ne_ hb hs.b (by decide)).symm
      exact ⟨cs1, (hs.b.keep hK (by simp)).keep K2 (by simpa using hpt), hs.z, hs.c, hs.u⟩
  · by_cases el : l = g
    · subst el
      rw [if_pos rfl]
      rcases hy with hy | hy
      · exact absurd hy.symm hly
      · exact hy
    · rw [if_neg el]
      exact h.n l hl (by omega)
  · rcases H l t hl e with ⟨a1, e2⟩ | ⟨ne, e2⟩ <;> rcases H l' t hl' e' with ⟨a2, e3⟩ | ⟨ne', e3⟩
    · rw [a1, a2]
    · have := (ho t e2).1
      have := hfar t (h.fq l' t hl' e3)
      omega
    · have := (ho t e3).1
      have := hfar t (h.fq l t hl e2)
      omega
    · exact h.d l l' t hl hl' e2 e3

/-- What Look answers of an entry. -/
def lookV (o : Option E) (k : Nat) : Value := match o with
  | none => .agg #[.int .i64 0, .int .i64 0, .bool false, .bool false, .bool false]
  | some e => .agg #[.int .i64 k, .int .i64 e.fr, .bool e.wr, .bool e.ac, .bool e.di]
/-- What is told of page pg. -/
def ent (m : Nat → Option E) (pg : Int) : Option E := if 0 ≤ pg then m pg.toNat else none
theorem ent_nat (m : Nat → Option E) (k : Nat) : ent m (k : Int) = m k := by unfold ent; rw [if_pos (by omega)]; rfl
theorem ent_no {m : Nat → Option E} {pg : Int} (h : 0 ≤ pg → m pg.toNat = none) : ent m pg = none := by unfold ent; split <;> simp_all
def unmM (m : Nat → Option E) (pg : Int) : Nat → Option E := match ent m pg with
  | none => m
  | some _ => upd m pg.toNat none
def wlkE (e : E) (wr : Bool) : E := if wr && !e.wr then e else ⟨e.fr, e.wr, true, e.di || wr⟩
def wlkM (m : Nat → Option E) (pg : Int) (wr : Bool) : Nat → Option E := match ent m pg with
  | none => m
  | some e => if wr && !e.wr then m else upd m pg.toNat (some ⟨e.fr, e.wr, true, e.di || wr⟩)
def wlkN (m : Nat → Option E) (pg : Int) (wr : Bool) : Int := match ent m pg with
  | none => 0
  | some e => if wr && !e.wr then 0 else e.fr
def wlkB (m : Nat → Option E) (pg : Int) (wr : Bool) : Bool := match ent m pg with
  | none => false
  | some e => !(wr && !e.wr)
def clrM (m : Nat → Option E) (pg : Int) : Nat → Option E := match ent m pg with
  | none => m
  | some e => upd m pg.toNat (some ⟨e.fr, e.wr, false, e.di⟩)
def clrB (m : Nat → Option E) (pg : Int) : Bool := match ent m pg with
  | none => false
  | some e => e.ac
def mapM (m : Nat → Option E) (pg fr : Int) (wr : Bool) : Nat → Option E := if 0 ≤ pg ∧ pg < 256 ∧ 0 ≤ fr then upd m pg.toNat (some ⟨fr, wr, false, false⟩) else m
def mapN (pg fr : Int) : Int := if 0 ≤ pg ∧ pg < 256 ∧ 0 ≤ fr then 0 else 3
end Go.Proofs.YteognipfnbocpaaGreat.T12
namespace Go.Proofs.YteognipfnbocpaaGreat.T12
open Go.RowKit

set_option maxRecDepth 100000 in
set_option maxHeartbeats 400000 in
theorem look_any (w : World) (F : List Nat) (p : Nat) (m : Nat → Option E) (pg : Int) (h : TbRep w F p m) (h1 : -9223372036854775808 ≤ pg) (h2 : pg ≤ 9223372036854775807) :
    Calls Tryz.prog 41 #[.pointer (some ⟨p, 0, none⟩), .int .i64 pg] w fun e w' => e = .returned (.tuple #[lookV (ent m pg) pg.toNat, .bool (ent m pg).isSome]) ∧ TbRep w' F p m ∧ Keeps [] w w' := by
  obtain ⟨q, h⟩ := h
  have k1 : Keeps [] w (w.alloc (.cells #[.int .i64 0, .int .i64 0, .bool false, .bool false, .bool false] 42)) := (Keeps.refl _ _).alloc _
  have hA := h.keep k1 (by simp)
  have hat := at_any _ F p m q pg hA h1 h2
  have bz : Blk (w.alloc (.cells #[.int .i64 0, .int .i64 0, .bool false, .bool false, .bool false] 42)) w.heap.size 42 #[.int .i64 0, .int .i64 0, .bool false, .bool false, .bool false] := Blk.new _ _ _
  have R0 := Lib.hid (bz.cell 0)
  have R1 := Lib.hid (bz.cell 1)
  have R2 := Lib.hid (bz.cell 2)
  have R3 := Lib.hid (bz.cell 3)
  have R4 := Lib.hid (bz.cell 4)
  have HH := Lib.hid hA
  have HB := Lib.hid bz
  have HK := Lib.hid k1
  clear bz k1 hA
  go_enter Tryz.func41, Tryz.ntmps41
  go_wp2_with fail
  refine hat.mono ?_
  clear hat
  rintro e w1 ⟨rfl, ⟨rfl, hm⟩ | ⟨k, s, x, rfl, hk, hq, hm, rfl⟩⟩
  · have HE := Lib.hid (ent_no hm)
    clear hm
    go_wp2
    refine bodyPost_ret (v := .tuple #[.agg #[.int .i64 0, .int .i64 0, .bool false, .bool false, .bool false], .bool false]) (by simp [results, Tryz.results41, go_sem, R0.out, R1.out, R2.out, R3.out, R4.out]) rfl ?_
    rw [HE.out]
    exact ⟨rfl, ⟨q, HH.out⟩, HK.out⟩
  · have HE := Lib.hid ((ent_nat m k).trans hm)
    obtain ⟨cs, hs⟩ := HH.out.s _ _ (by omega) hq
    have p0 := hs.place (k := k) (j := 0) (by omega)
    have p1 := hs.place (k := k) (j := 1) (by omega)
    have p2 := hs.place (k := k) (j := 2) (by omega)
    have p3 := hs.place (k := k) (j := 3) (by omega)
    have p4 := hs.place (k := k) (j := 4) (by omega)
    rw [hm] at p0 p1 p2 p3 p4
    simp only [cellv, Nat.add_zero] at p0 p1 p2 p3 p4
    have z0 := HB.out.cell 0
    have z1 := HB.out.cell 1
    have z2 := HB.out.cell 2
    have z3 := HB.out.cell 3
    have z4 := HB.out.cell 4
    have f0 := HB.out.frozen 0
    have f1 := HB.out.frozen 1
    have f2 := HB.out.frozen 2
    have f3 := HB.out.frozen 3
    have f4 := HB.out.frozen 4
    have br : Blk (w.alloc (.cells #[.int .i64 k, .int .i64 x.fr, .bool x.wr, .bool x.ac, .bool x.di] 42)) w.heap.size 42 #[.int .i64 k, .int .i64 x.fr, .bool x.wr, .bool x.ac, .bool x.di] := Blk.new _ _ _
    have B0 := Lib.hid (br.cell 0)
    have B1 := Lib.hid (br.cell 1)
    have B2 := Lib.hid (br.cell 2)
    have B3 := Lib.hid (br.cell 3)
    have B4 := Lib.hid (br.cell 4)
    have kk : Keeps [] w (w.alloc (.cells #[.int .i64 k, .int .i64 x.fr, .bool x.wr, .bool x.ac, .bool x.di] 42)) := (Keeps.refl _ _).alloc _
    have HT := Lib.hid (h.keep kk (by simp))
    have HKK := Lib.hid kk
    clear kk br hs hm hq R0 R1 R2 R3 R4
    go_wp2
    refine bodyPost_ret (v := .tuple #[.agg #[.int .i64 k, .int .i64 x.fr, .bool x.wr, .bool x.ac, .bool x.di], .bool true]) (by simp [results, Tryz.results41, go_sem, B0.out, B1.out, B2.out, B3.out, B4.out]) rfl ?_
    rw [HE.out]
    exact ⟨rfl, ⟨q, HT.out⟩, HKK.out⟩

set_option maxRecDepth 100000 in
set_option maxHeartbeats 400000 in
theorem clear_any (w : World) (F : List Nat) (p : Nat) (m : Nat → Option E) (pg : Int) (h : TbRep w F p m) (h1 : -9223372036854775808 ≤ pg) (h2 : pg ≤ 9223372036854775807) :
    Calls Tryz.prog 58 #[.pointer (some ⟨p, 0, none⟩), .int .i64 pg] w fun e w' => e = .returned (.bool (clrB m pg)) ∧ TbRep w' F p (clrM m pg) ∧ Keeps F w w' := by
  obtain ⟨q, h⟩ := h
  have hat := at_any _ F p m q pg h h1 h2
  go_enter Tryz.func58, Tryz.ntmps58
  go_wp2_with fail
  refine hat.mono ?_
  clear hat
  rintro e w1 ⟨rfl, ⟨rfl, hm⟩ | ⟨k, s, x, rfl, hk, hq, hm, rfl⟩⟩
  · have HE := Lib.hid (ent_no hm)
    clear hm
    go_wp2
    go_ret
    unfold clrB clrM
    rw [HE.out]
    exact ⟨rfl, ⟨q, h⟩, Keeps.refl _ _⟩
  · have HE := Lib.hid ((ent_nat m k).trans hm)
    obtain ⟨cs, hs⟩ := h.s _ _ (by omega) hq
    have p3 := hs.place (k := k) (j := 3) (by omega)
    rw [hm] at p3
    simp only [cellv] at p3
    have f3 := hs.b.frozen (k % 16 * 6 + 3)
    have hso := hs.one (j := 3) (some ⟨x.fr, x.wr, false, x.di⟩) (by omega) (fun i hi hne => by rw [hm]; unfold cellv; split <;> first | rfl | omega)
    obtain ⟨cs', hs'⟩ := hso
    have hne : used (upd m k (some ⟨x.fr, x.wr, false, x.di⟩)) (k / 16) 16 = used m (k / 16) 16 := by
      have := used_upd (m := m) (o := some ⟨x.fr, x.wr, false, x.di⟩) (g := k / 16) (i := k % 16) (n := 16) (Nat.mod_lt _ (by omega))
      rw [Nat.div_add_mod k 16, hm] at this
      simpa using this
    have hpos : 0 < used m (k / 16) 16 := by
      rcases Nat.eq_zero_or_pos (used m (k / 16) 16) with h0 | h0
      · have := (used_zero _ _ _).1 h0 (k % 16) (Nat.mod_lt _ (by omega))
        rw [Nat.div_add_mod k 16, hm] at this
        cases this
      · exact h0
    have K : Keeps [s] w (w.setCell ⟨s, k % 16 * 6 + 3, none⟩ (.bool false)) := (Keeps.refl _ _).setCell (.inl (by simp)) _
    rw [← hne] at hs'
    have HT := Lib.hid (h.put_ (y := 16) hk hq (.inl rfl) (.inr (by omega)) K hs' (fun e he => by cases he; exact h.r k x hm))
    have HK := Lib.hid (K.mono (G := F) (by have := h.fq _ _ (by omega) hq; simpa using this))
    clear hm hq hs hs' hne hpos K h
    go_wp2
    go_ret
    unfold clrB clrM
    rw [HE.out]
    exact ⟨rfl, ⟨q, HT.out⟩, HK.out⟩
end Go.Proofs.YteognipfnbocpaaGreat.T12
namespace Go.Proofs.YteognipfnbocpaaGreat.T12
open Go.RowKit

/-- An entry that takes the place of an entry: as many places are taken. -/
theorem used_same {m : Nat → Option E} {k : Nat} {x y : E} (hm : m k = some x) : used (upd m k (some y)) (k / 16) 16 = used m (k / 16) 16 := by
  have := used_upd (m := m) (o := some y) (g := k / 16) (i := k % 16) (n := 16) (Nat.mod_lt _ (by omega))
  rw [Nat.div_add_mod k 16, hm] at this
  simpa using this
theorem used_new {m : Nat → Option E} {k : Nat} {y : E} (hm : m k = none) : used (upd m k (some y)) (k / 16) 16 = used m (k / 16) 16 + 1 := by
  have := used_upd (m := m) (o := some y) (g := k / 16) (i := k % 16) (n := 16) (Nat.mod_lt _ (by omega))
  rw [Nat.div_add_mod k 16, hm] at this
  simpa using this
theorem used_gone {m : Nat → Option E} {k : Nat} {x : E} (hm : m k = some x) : used (upd m k none) (k / 16) 16 + 1 = used m (k / 16) 16 := by
  have := used_upd (m := m) (o := none) (g := k / 16) (i := k % 16) (n := 16) (Nat.mod_lt _ (by omega))
  rw [Nat.div_add_mod k 16, hm] at this
  simpa using this
theorem used_pos {m : Nat → Option E} {k : Nat} {x : E} (hm : m k = some x) : 0 < used m (k / 16) 16 := by
  have := used_gone hm
  omega

set_option maxRecDepth 100000 in
set_option maxHeartbeats 800000 in
theorem walk_any (w : World) (F : List Nat) (p : Nat) (m : Nat → Option E) (pg : Int) (wr : Bool) (h : TbRep w F p m) (h1 : -9223372036854775808 ≤ pg) (h2 : pg ≤ 9223372036854775807) :
    Calls Tryz.prog 50 #[.pointer (some ⟨p, 0, none⟩), .int .i64 pg, .bool wr] w fun e w' => e = .returned (.tuple #[.int .i64 (wlkN m pg wr), .bool (wlkB m pg wr)]) ∧ TbRep w' F p (wlkM m pg wr) ∧ Keeps F w w' := by
  obtain ⟨q, h⟩ := h
  have hat := at_any _ F p m q pg h h1 h2
  go_enter Tryz.func50, Tryz.ntmps50
  go_wp2_with fail
  refine hat.mono ?_
  clear hat
  rintro e w1 ⟨rfl, ⟨rfl, hm⟩ | ⟨k, s, x, rfl, hk, hq, hm, rfl⟩⟩
  · have HE := Lib.hid (ent_no hm)
    clear hm
    go_wp2
    go_ret2
    unfold wlkN wlkB wlkM
    rw [HE.out]
    exact ⟨rfl, ⟨q, h⟩, Keeps.refl _ _⟩
  · have HE := Lib.hid ((ent_nat m k).trans hm)
    obtain ⟨cs, hs⟩ := h.s _ _ (by omega) hq
    obtain ⟨x1, x2, x3, x4⟩ := x
    have p1 := hs.place (k := k) (j := 1) (by omega)
    have p2 := hs.place (k := k) (j := 2) (by omega)
    have p3 := hs.place (k := k) (j := 3) (by omega)
    have p4 := hs.place (k := k) (j := 4) (by omega)
    rw [hm] at p1 p2 p3 p4
    simp only [cellv] at p1 p2 p3 p4
    by_cases hb : wr = true ∧ x2 = false
    · obtain ⟨rfl, rfl⟩ := hb
      clear hs hq hm
      go_wp2
      go_ret2
      unfold wlkN wlkB wlkM
      rw [HE.out]
      exact ⟨rfl, ⟨q, h⟩, Keeps.refl _ _⟩
    · have f3 := hs.b.frozen (k % 16 * 6 + 3)
      have f4 := hs.b.frozen (k % 16 * 6 + 4)
      obtain ⟨cs', hs'⟩ := hs.one (j := 3) (some ⟨x1, x2, true, x4⟩) (by omega) (fun i hi hne => by rw [hm]; unfold cellv; split <;> first | rfl | omega)
      obtain ⟨cs2, hs2⟩ := hs'.one (j := 4) (some ⟨x1, x2, true, x4 || wr⟩) (by omega) (fun i hi hne => by rw [upd_same]; unfold cellv; split <;> first | rfl | omega)
      have huu : upd (upd m k (some ⟨x1, x2, true, x4⟩)) k (some ⟨x1, x2, true, x4 || wr⟩) = upd m k (some ⟨x1, x2, true, x4 || wr⟩) := by funext z; unfold upd; split <;> rfl
      rw [huu] at hs2
      have K : Keeps [s] w ((w.setCell ⟨s, k % 16 * 6 + 3, none⟩ (.bool true)).setCell ⟨s, k % 16 * 6 + 4, none⟩ (.bool (x4 || wr))) := ((Keeps.refl _ _).setCell (.inl (by simp)) _).setCell (.inl (by simp)) _
      rw [← used_same (y := ⟨x1, x2, true, x4 || wr⟩) hm] at hs2
      have HT := Lib.hid (h.put_ (y := 16) hk hq (.inl rfl) (.inr (by rw [used_same hm]; exact used_pos hm)) K hs2 (fun e he => by cases he; exact h.r k ⟨x1, x2, x3, x4⟩ hm))
      have HK := Lib.hid (K.mono (G := F) (by have := h.fq _ _ (by omega) hq; simpa using this))
      clear hm hq hs hs' K h huu hs2
      cases x4
      all_goals cases wr
      all_goals cases x2
      all_goals first
        | exact absurd ⟨rfl, rfl⟩ hb
        | (clear hb
           go_wp2
           go_ret2
           unfold wlkN wlkB wlkM
           rw [HE.out]
           exact ⟨rfl, ⟨q, HT.out⟩, HK.out⟩)

set_option maxRecDepth 100000 in
set_option maxHeartbeats 800000 in
theorem unmap_any (w : World) (F : List Nat) (p : Nat) (m : Nat → Option E) (pg : Int) (h : TbRep w F p m) (h1 : -9223372036854775808 ≤ pg) (h2 : pg ≤ 9223372036854775807) :
    Calls Tryz.prog 52 #[.pointer (some ⟨p, 0, none⟩), .int .i64 pg] w fun e w' => e = .returned (.bool (ent m pg).isSome) ∧ TbRep w' F p (unmM m pg) ∧ Keeps F w w' := by
  obtain ⟨q, h⟩ := h
  have hat := at_any _ F p m q pg h h1 h2
  go_enter Tryz.func52, Tryz.ntmps52
  go_wp2_with fail
  refine hat.mono ?_
  clear hat
  rintro e w1 ⟨rfl, ⟨rfl, hm⟩ | ⟨k, s, x, rfl, hk, hq, hm, rfl⟩⟩
  · have HE := Lib.hid (ent_no hm)
    clear hm
    go_wp2
    go_ret
    unfold unmM
    rw [HE.out]
    exact ⟨rfl, ⟨q, h⟩, Keeps.refl _ _⟩
  · have HE := Lib.hid ((ent_nat m k).trans hm)
    have hg : k / 16 < 16 := by omega
    obtain ⟨cs, hs⟩ := h.s _ _ hg hq
    obtain ⟨cp, hb, hz, hc⟩ := h.b
    have hps : p ≠ s := Blk.ne_ hb hs.b (by decide)
    have hpF := h.fp
    have hsF := h.fq _ _ hg hq
    have c0 : w.cell? ⟨p, k / 16, none⟩ = some (.pointer (some ⟨s, 0, none⟩)) := by rw [hb.cell, hc _ hg, hq]; rfl
    have d0 := hb.frozen (k / 16)
    have b0 : (0 : Int) ≤ (k : Int) / 16 := by omega
    have b1 : (k : Int) / 16 < 16 := by omega
    have hp := fun j (hj : j < 6) => hs.place (k := k) (j := j) hj
    rw [hm] at hp
    have p0 := hp 0 (by omega)
    have p1 := hp 1 (by omega)
    have p2 := hp 2 (by omega)
    have p3 := hp 3 (by omega)
    have p4 := hp 4 (by omega)
    have p5 := hp 5 (by omega)
    simp only [cellv, Nat.add_zero] at p0 p1 p2 p3 p4 p5
    have p6 : w.cell? ⟨s, 96, none⟩ = some (.int .i64 (used m (k / 16) 16)) := (hs.b.cell 96).trans hs.u
    have f0 := hs.b.frozen (k % 16 * 6)
    have f1 := hs.b.frozen (k % 16 * 6 + 1)
    have f2 := hs.b.frozen (k % 16 * 6 + 2)
    have f3 := hs.b.frozen (k % 16 * 6 + 3)
    have f4 := hs.b.frozen (k % 16 * 6 + 4)
    have f5 := hs.b.frozen (k % 16 * 6 + 5)
    have f6 := hs.b.frozen 96
    have hu := used_gone hm
    have hle := used_le m (k / 16) 16
    obtain ⟨cs2, hs2⟩ := hs.six none
    obtain ⟨cs3, hs3⟩ := hs2.cnt (used (upd m k none) (k / 16) 16)
    have K : Keeps [s] w (((((((w.setCell ⟨s, k % 16 * 6, none⟩ (cellv none k 0)).setCell ⟨s, k % 16 * 6 + 1, none⟩ (cellv none k 1)).setCell ⟨s, k % 16 * 6 + 2, none⟩ (cellv none k 2)).setCell ⟨s, k % 16 * 6 + 3, none⟩ (cellv none k 3)).setCell ⟨s, k % 16 * 6 + 4, none⟩ (cellv none k 4)).setCell ⟨s, k % 16 * 6 + 5, none⟩ (cellv none k 5)).setCell ⟨s, 96, none⟩ (.int .i64 (used (upd m k none) (k / 16) 16))) :=
      (((((((Keeps.refl _ _).setCell (.inl (by simp)) _).setCell (.inl (by simp)) _).setCell (.inl (by simp)) _).setCell (.inl (by simp)) _).setCell (.inl (by simp)) _).setCell (.inl (by simp)) _).setCell (.inl (by simp)) _
    have HX := h.put_ (y := k / 16) hk hq (.inl rfl) (.inl rfl) K hs3 (fun e he => (nomatch he))
    have HY := fun (hy : 0 < used (upd m k none) (k / 16) 16) => h.put_ (y := 16) hk hq (.inl rfl) (.inr hy) K hs3 (fun e he => (nomatch he))
    have HZ := fun (hall : ∀ i, i < 16 → upd m k none (16 * (k / 16) + i) = none) => HX.lay (y := 16) (o := none) hg (.inr rfl) (Keeps.refl _ _) (fun _ h => h) HX.f (.inr ⟨fun _ => hall, fun _ => rfl⟩) (fun _ h => (nomatch h))
    have hu0 := used_zero (upd m k none) (k / 16) 16
    have HU := Lib.hid hu0
    have HKY := Lib.hid (K.mono (G := F) (by simpa using hsF))
    have HKZ := Lib.hid ((K.mono (G := F) (by simpa using hsF)).setCell (p := ⟨p, k / 16, none⟩) (.inl hpF) (.pointer none))
    simp only [cellv, Option.map_none] at HX HY HZ HKY HKZ
    have HZ := Lib.hid HZ
    have HY := Lib.hid HY
    generalize hw : used m (k / 16) 16 = u at *
    generalize hv : used (upd m k none) (k / 16) 16 = v at *
    obtain rfl : u = v + 1 := hu.symm
    clear hu hw hv hu0 hm hq hs hs2 hs3 K h HX hc hb hp hz
    by_cases hv0 : v = 0
    · subst hv0
      have HZ2 := Lib.hid (HZ.out (HU.out.1 rfl))
      clear HZ HY HU
      go_wp2
      go_ret
      unfold unmM
      rw [HE.out]
      exact ⟨rfl, ⟨_, HZ2.out⟩, HKZ.out⟩
    · have t1 : ((v : Int) == 0) = false := by simp; omega
      go_wp2
      go_ret
      unfold unmM
      rw [HE.out]
      exact ⟨rfl, ⟨_, HY.out (by omega)⟩, HKY.out⟩

/-- The cells of a second-level table without entries. -/
def zc (t : Nat) : Value := if t = 96 then .int .i64 0 else cellv none 0 (t % 6)
def Z97 : Array Value := ((List.range 97).map zc).toArray
theorem z61 (w : World) : (zeroValue 105).run Tryz.prog w = .ok (.agg Z97) w := by kernel_rfl
theorem sec_new (w : World) (s g : Nat) (m : Nat → Option E) (hm : ∀ i, i < 16 → m (16 * g + i) = none) (hb : Blk w s 105 Z97) :
    SecAt w s m g (used m g 16) Z97 := by
  refine ⟨hb, by simp [Z97], fun i j hi hj => ?_, ?_⟩
  · rw [hm i hi]
    rw [Z97, List.getElem?_toArray, List.getElem?_map, List.getElem?_range (by omega)]
    have h1 : (i * 6 + j) % 6 = j := by omega
    have h2 : i * 6 + j ≠ 96 := by omega
    simp only [Option.map_some, zc, if_neg h2, h1]
    have : j = 0 ∨ j = 1 ∨ j = 2 ∨ j = 3 ∨ j = 4 ∨ j = 5 := by omega
    rcases this with rfl | rfl | rfl | rfl | rfl | rfl <;> rfl
  · rw [(used_zero m g 16).2 hm]
    rw [Z97, List.getElem?_toArray, List.getElem?_map, List.getElem?_range (by omega)]
    rfl

/-- What a Map leaves: its answer, the table, at blocks of F or new ones. -/
def Mapped (w : World) (F : List Nat) (p : Nat) (m : Nat → Option E) (v : Value) (e : Ending) (w' : World) : Prop := ∃ F', e = .returned v ∧ TbRep w' F' p m ∧ Keeps F w w' ∧ ∀ g ∈ F', g ∈ F ∨ w.heap.size ≤ g
theorem TbAt.less {w : World} {F : List Nat} {p : Nat} {m : Nat → Option E} {q : Nat → Option Nat} (h : TbAt 16 w F p m q) (x : Nat) : TbAt x w F p m q :=
  ⟨h.f, h.fp, h.fq, h.b, h.s, fun k hk _ => h.n k hk (by omega), h.d, h.o, h.r⟩
set_option maxRecDepth 100000 in
set_option maxHeartbeats 1600000 in
theorem map_any (w : World) (F : List Nat) (p : Nat) (m : Nat → Option E) (pg fr : Int) (wr : Bool) (h : TbRep w F p m) (h1 : -9223372036854775808 ≤ pg) (h2 : pg ≤ 9223372036854775807) (h3 : -9223372036854775808 ≤ fr) (h4 : fr ≤ 9223372036854775807) :
    Calls Tryz.prog 45 #[.pointer (some ⟨p, 0, none⟩), .int .i64 pg, .int .i64 fr, .bool wr] w (Mapped w F p (mapM m pg fr wr) (.int .i64 (mapN pg fr))) := by
  by_cases hr : 0 ≤ pg ∧ pg < 256 ∧ 0 ≤ fr
  rotate_left
  · have e1 : mapN pg fr = 3 := by unfold mapN; rw [if_neg hr]
    have e2 : mapM m pg fr wr = m := by unfold mapM; rw [if_neg hr]
    have E1 := Lib.hid e1
    have E2 := Lib.hid e2
    clear e1 e2
    by_cases a0 : 0 ≤ pg
    · by_cases a1 : pg < 256
      · have a2 : fr < 0 := by omega
        clear hr
        go_enter Tryz.func45, Tryz.ntmps45
        go_wp2
        go_ret
        rw [E1.out, E2.out]
        exact ⟨F, rfl, h, Keeps.refl _ _, fun g hg => .inl hg⟩
      · clear hr
        go_enter Tryz.func45, Tryz.ntmps45
        go_wp2
        go_ret
        rw [E1.out, E2.out]
        exact ⟨F, rfl, h, Keeps.refl _ _, fun g hg => .inl hg⟩
    · clear hr
      go_enter Tryz.func45, Tryz.ntmps45
      go_wp2
      go_ret
      rw [E1.out, E2.out]
      exact ⟨F, rfl, h, Keeps.refl _ _, fun g hg => .inl hg⟩
  · have e1 : mapN pg fr = 0 := by unfold mapN; rw [if_pos hr]
    have e2 : mapM m pg fr wr = upd m pg.toNat (some ⟨fr, wr, false, false⟩) := by unfold mapM; rw [if_pos hr]
    obtain ⟨a0, a1, a2⟩ := hr
    obtain ⟨k, rfl⟩ := Int.eq_ofNat_of_zero_le a0
    rw [Int.toNat_natCast] at e2
    have E1 := Lib.hid e1
    have E2 := Lib.hid e2
    clear e1 e2
    obtain ⟨q, h⟩ := h
    have hk : k < 256 := by omega
    have hg : k / 16 < 16 := by omega
    obtain ⟨cp, hb, hz, hc⟩ := h.b
    have hpF := h.fp
    have c0 : w.cell? ⟨p, k / 16, none⟩ = some (.pointer ((q (k / 16)).map fun s => ⟨s, 0, none⟩)) := by rw [hb.cell, hc _ hg]
    have d0 := hb.frozen (k / 16)
    have b0 : (0 : Int) ≤ (k : Int) / 16 := by omega
    have b1 : (k : Int) / 16 < 16 := by omega
    have b2 : (0 : Int) ≤ (k : Int) % 16 := by omega
    have b3 : (k : Int) % 16 < 16 := by omega
    have hz61 := z61
    have HC := Lib.hid hc
    clear hz hc
    go_enter Tryz.func45, Tryz.ntmps45
    go_upto_if 29 with fail
    go_cut [9] (fun s9 w1 => ∃ (s : Nat) (q1 : Nat → Option Nat) (F1 : List Nat), s9 = .pointer (some ⟨s, 0, none⟩) ∧ q1 (k / 16) = some s ∧ TbAt (k / 16) w1 F1 p m q1 ∧ Keeps F w w1 ∧ ∀ g ∈ F1, g ∈ F ∨ w.heap.size ≤ g)
    case first =>
      cases hq : q (k / 16) with
      | none =>
        have hnone : ∀ i, i < 16 → m (16 * (k / 16) + i) = none := (h.n _ hg (by omega)).1 hq
        have hn := Blk.new w 105 Z97
        have hs := sec_new (w.alloc (.cells Z97 105)) w.heap.size (k / 16) m hnone hn
        have HL := h.lay (y := k / 16) (o := some w.heap.size) (F' := w.heap.size :: F) hg (.inl rfl) ((Keeps.refl [] w).alloc (.cells Z97 105)) (fun t ht => by simp [ht]) (fun t ht => by
          rcases List.mem_cons.1 ht with rfl | ht
          · exact hn.lt
          · have := h.f t ht; simp; omega) (.inl rfl) (fun s e => by cases e; exact ⟨Nat.le_refl _, by simp, _, hs⟩)
        have HK : Keeps F w ((w.alloc (.cells Z97 105)).setCell ⟨p, k / 16, none⟩ (.pointer ((some w.heap.size).map fun s => ⟨s, 0, none⟩))) := ((Keeps.refl F w).alloc _).setCell (.inl hpF) _
        have HL := Lib.hid HL
        have HK := Lib.hid HK
        have c1 : (w.alloc (.cells Z97 105)).cell? ⟨p, k / 16, none⟩ = some (.pointer none) := by rw [(hb.alloc _).cell, HC.out _ hg, hq]; rfl
        have d1 := (hb.alloc (.cells Z97 105)).frozen (k / 16)
        rw [hq] at c0
        clear hs hn hb hnone hq
        simp only [Option.map_none] at c0
        go_wp2_with fail
        go_meet
        case rel => exact ⟨w.heap.size, _, _, rfl, if_pos rfl, HL.out, HK.out, by simp; intro g hg; exact .inl hg⟩
      | some s =>
        rw [hq] at c0
        have hq := Lib.hid hq
        go_wp2_with fail
        go_meet
        case rel => exact ⟨s, q, F, rfl, hq.out, h.less _, Keeps.refl _ _, fun g hg => .inl hg⟩
    case rest =>
      obtain ⟨s, q1, F1, rfl, hq1, g1, K1, hF1⟩ := hcut
      clear hb HC c0 d0 h q b0 b1
      obtain ⟨cs, hs⟩ := g1.s _ _ hg hq1
      have hsF := g1.fq _ _ hg hq1
      have hsw := hF1 s hsF
      have hp := fun j (hj : j < 6) => hs.place (k := k) (j := j) hj
      have p0 := hp 0 (by omega)
      have p1 := hp 1 (by omega)
      have p2 := hp 2 (by omega)
      have p3 := hp 3 (by omega)
      have p4 := hp 4 (by omega)
      have p5 := hp 5 (by omega)
      have p6 : wc.cell? ⟨s, 96, none⟩ = some (.int .i64 (used m (k / 16) 16)) := (hs.b.cell 96).trans hs.u
      have f0 := hs.b.frozen (k % 16 * 6)
      have f1 := hs.b.frozen (k % 16 * 6 + 1)
      have f2 := hs.b.frozen (k % 16 * 6 + 2)
      have f3 := hs.b.frozen (k % 16 * 6 + 3)
      have f4 := hs.b.frozen (k % 16 * 6 + 4)
      have f5 := hs.b.frozen (k % 16 * 6 + 5)
      have f6 := hs.b.frozen 96
      have hle := used_le m (k / 16) 16
      cases hm : m k with
      | none =>
        have hu := used_new (y := ⟨fr, wr, false, false⟩) hm
        obtain ⟨cs2, hs2⟩ := hs.cnt (used m (k / 16) 16 + 1)
        obtain ⟨cs3, hs3⟩ := hs2.six (some ⟨fr, wr, false, false⟩)
        rw [← hu] at hs3
        have K : Keeps [s] wc (((((((wc.setCell ⟨s, 96, none⟩ (.int .i64 (used (upd m k (some ⟨fr, wr, false, false⟩)) (k / 16) 16 : Nat))).setCell ⟨s, k % 16 * 6, none⟩ (cellv (some ⟨fr, wr, false, false⟩) k 0)).setCell ⟨s, k % 16 * 6 + 1, none⟩ (cellv (some ⟨fr, wr, false, false⟩) k 1)).setCell ⟨s, k % 16 * 6 + 2, none⟩ (cellv (some ⟨fr, wr, false, false⟩) k 2)).setCell ⟨s, k % 16 * 6 + 3, none⟩ (cellv (some ⟨fr, wr, false, false⟩) k 3)).setCell ⟨s, k % 16 * 6 + 4, none⟩ (cellv (some ⟨fr, wr, false, false⟩) k 4)).setCell ⟨s, k % 16 * 6 + 5, none⟩ (cellv (some ⟨fr, wr, false, false⟩) k 5)) :=
          (((((((Keeps.refl _ _).setCell (.inl (by simp)) _).setCell (.inl (by simp)) _).setCell (.inl (by simp)) _).setCell (.inl (by simp)) _).setCell (.inl (by simp)) _).setCell (.inl (by simp)) _).setCell (.inl (by simp)) _
        have HX := g1.put_ (y := 16) hk hq1 (.inr rfl) (.inr (by omega)) K hs3 (fun e he => by cases he; exact ⟨a2, h4⟩)
        have HK := K1.trans K (by simpa using hsw)
        rw [hu] at HX HK
        rw [hm] at p0 p1 p2 p3 p4 p5
        simp only [cellv, Nat.add_zero, Option.isSome_some, Int.natCast_add, Int.natCast_one] at p0 p1 p2 p3 p4 p5 HX HK
        have HX := Lib.hid HX
        have HK := Lib.hid HK
        have HF := Lib.hid hF1
        generalize used m (k / 16) 16 = u at *
        clear hu hs hs2 hs3 K g1 K1 hq1 hp hm hF1
        go_wp2
        go_ret
        rw [E1.out, E2.out]
        exact ⟨F1, rfl, ⟨_, HX.out⟩, HK.out, HF.out⟩
      | some x =>
        have hu := used_same (y := ⟨fr, wr, false, false⟩) hm
        have hup := used_pos hm
        obtain ⟨cs3, hs3⟩ := hs.six (some ⟨fr, wr, false, false⟩)
        rw [← hu] at hs3
        have K : Keeps [s] wc ((((((wc.setCell ⟨s, k % 16 * 6, none⟩ (cellv (some ⟨fr, wr, false, false⟩) k 0)).setCell ⟨s, k % 16 * 6 + 1, none⟩ (cellv (some ⟨fr, wr, false, false⟩) k 1)).setCell ⟨s, k % 16 * 6 + 2, none⟩ (cellv (some ⟨fr, wr, false, false⟩) k 2)).setCell ⟨s, k % 16 * 6 + 3, none⟩ (cellv (some ⟨fr, wr, false, false⟩) k 3)).setCell ⟨s, k % 16 * 6 + 4, none⟩ (cellv (some ⟨fr, wr, false, false⟩) k 4)).setCell ⟨s, k % 16 * 6 + 5, none⟩ (cellv (some ⟨fr, wr, false, false⟩) k 5)) :=
          ((((((Keeps.refl _ _).setCell (.inl (by simp)) _).setCell (.inl (by simp)) _).setCell (.inl (by simp)) _).setCell (.inl (by simp)) _).setCell (.inl (by simp)) _).setCell (.inl (by simp)) _
        have HX := g1.put_ (y := 16) hk hq1 (.inr rfl) (.inr (by omega)) K hs3 (fun e he => by cases he; exact ⟨a2, h4⟩)
        have HK := K1.trans K (by simpa using hsw)
        rw [hm] at p0 p1 p2 p3 p4 p5
        simp only [cellv, Nat.add_zero, Option.isSome_some] at p0 p1 p2 p3 p4 p5 HX HK
        have HX := Lib.hid HX
        have HK := Lib.hid HK
        have HF := Lib.hid hF1
        clear hu hs hs3 K g1 K1 hq1 hp hm hF1 p6 hle
        go_wp2
        go_ret
        rw [E1.out, E2.out]
        exact ⟨F1, rfl, ⟨_, HX.out⟩, HK.out, HF.out⟩
end Go.Proofs.YteognipfnbocpaaGreat.T12
namespace Go.Proofs.YteognipfnbocpaaGreat.T12
open Go.RowKit

/-- How many of the first n groups have entries. -/
def levs (m : Nat → Option E) : Nat → Nat
  | 0 => 0
  | n + 1 => levs m n + if used m n 16 = 0 then 0 else 1
theorem levs_le (m : Nat → Option E) (n : Nat) : levs m n ≤ n := by
  induction n with
  | zero => exact Nat.le_refl _
  | succ n ih => unfold levs; split <;> omega
theorem levs_zero {m : Nat → Option E} {n : Nat} (h : used m n 16 = 0) : levs m (n + 1) = levs m n := by simp [levs, h]
theorem levs_succ {m : Nat → Option E} {n : Nat} (h : used m n 16 ≠ 0) : levs m (n + 1) = levs m n + 1 := by simp [levs, h]
theorem TbAt.none_ {w : World} {F : List Nat} {p : Nat} {m : Nat → Option E} {q : Nat → Option Nat} (h : TbAt 16 w F p m q) {k : Nat} (hk : k < 16) (hq : q k = none) : used m k 16 = 0 :=
  (used_zero _ _ _).2 ((h.n k hk (by omega)).1 hq)
theorem TbAt.some_ {w : World} {F : List Nat} {p : Nat} {m : Nat → Option E} {q : Nat → Option Nat} (h : TbAt 16 w F p m q) {k s : Nat} (hk : k < 16) (hq : q k = some s) : used m k 16 ≠ 0 := by
  intro h0
  have := (h.n k hk (by omega)).2 ((used_zero _ _ _).1 h0)
  rw [hq] at this
  cases this

theorem run_idx (cs : Array Value) (k : Nat) (v : Value) (hk : k < 16) (hv : cs[k]? = some v) (w : World) : (Instr.index 98 (.agg cs) (.int .i64 k)).run Tryz.prog w = .ok v w := by
  have hs : ∀ w, (sizeOf 97).run Tryz.prog w = .ok 1 w := fun w => by kernel_rfl
  have ha : ∀ w, (isAgg 97).run Tryz.prog w = .ok false w := fun w => by kernel_rfl
  simp [Instr.index, run_underlying Tryz.underlying98, asIntOf, part, hs, ha, hv, go_sem]
  intro h
  omega

/-- The entries of the first n pages. -/
def ents (m : Nat → Option E) : Nat → List (Nat × E)
  | 0 => []
  | n + 1 => ents m n ++ (match m n with | none => [] | some e => [(n, e)])
theorem ents_none {m : Nat → Option E} {n : Nat} (h : m n = none) : ents m (n + 1) = ents m n := by simp [ents, h]
theorem ents_some {m : Nat → Option E} {n : Nat} {e : E} (h : m n = some e) : ents m (n + 1) = ents m n ++ [(n, e)] := by simp [ents, h]
theorem ents_len (m : Nat → Option E) (n : Nat) : (ents m n).length ≤ n := by
  induction n with
  | zero => exact Nat.le_refl _
  | succ n ih =>
    cases h : m n with
    | none => rw [ents_none h]; omega
    | some e => rw [ents_some h]; simp; omega
theorem ents_skip {m : Nat → Option E} {a : Nat} (n : Nat) (h : ∀ i, i < n → m (a + i) = none) : ents m (a + n) = ents m a := by
  induction n with
  | zero => rfl
  | succ n ih => rw [← Nat.add_assoc, ents_none (h n (by omega)), ih (fun i hi => h i (by omega))]
def c5 (x : Nat × E) : List Value := [.int .i64 x.1, .int .i64 x.2.fr, .bool x.2.wr, .bool x.2.ac, .bool x.2.di]
/-- A list of entries as cells. -/
def cells5 (l : List (Nat × E)) : List Value := l.flatMap c5
theorem cells5_snoc (l : List (Nat × E)) (x : Nat × E) : cells5 (l ++ [x]) = cells5 l ++ c5 x := by simp [cells5]

set_option maxRecDepth 100000 in
set_option maxHeartbeats 1600000 in
theorem entries_any (w : World) (F : List Nat) (p : Nat) (m : Nat → Option E) (h : TbRep w F p m) :
    Calls Tryz.prog 39 #[.pointer (some ⟨p, 0, none⟩)] w fun e w' => ∃ v, e = .returned v ∧ w'.ownsRow 0 42 5 v (ents m 256).length (cells5 (ents m 256)) ∧ Keeps [] w w' ∧ ∀ g ∈ fp v, w.heap.size ≤ g := by
  obtain ⟨q, h⟩ := h
  obtain ⟨cs, hb, hz, hc⟩ := h.b
  have HB := Lib.hid hb
  have HC := Lib.hid hc
  have HZ := Lib.hid hz
  clear hc hz
  go_enter Tryz.func39, Tryz.ntmps39
  go_wp2_with (refine wpList_load_row rfl 98 _ rfl p rfl 100 cs (0, 0) _ HB.out Tryz.underlying98 rfl (by rw [HZ.out]; kernel_rfl) ?_)
  go_loopw [3, 11] (fun o i wr => ∃ k : Nat, k ≤ 16 ∧ i = .int .i64 k ∧ wr.ownsRow 0 42 5 o (ents m (16 * k)).length (cells5 (ents m (16 * k))) ∧ Keeps [] w wr ∧ ∀ g ∈ fp o, w.heap.size ≤ g) (fun _ i _ => 16 - (intOf i).toNat)
  case atStart => exact ⟨0, by omega, rfl, World.ownsRow_nil _ _ _ _, Keeps.refl _ _, by simp⟩
  case round =>
    obtain ⟨k, hk, rfl, hown, hkp, hfr⟩ := hrel
    by_cases hlt : k < 16
    · have hi := HC.out k hlt
      cases hq : q k with
      | none =>
        rw [hq] at hi
        have hx := run_idx cs k _ hlt hi
        have HL := Lib.hid (ents_skip 16 ((h.n k hlt (by omega)).1 hq))
        clear hi hq
        go_wp2
        go_roundw
        case rel => exact ⟨k + 1, by omega, by go_num, by rw [show 16 * (k + 1) = 16 * k + 16 by omega, HL.out]; exact hown, hkp, hfr⟩
        case measure => simp [intOf]; omega
      | some s =>
        rw [hq] at hi
        have hx := run_idx cs k _ hlt hi
        obtain ⟨c2, hs⟩ := h.s k s hlt hq
        have tk : decide ((k : Int) < 16) = true := by simp; omega
        clear hi hq
        go_wp2
        obtain ⟨w0, rfl⟩ : ∃ w0 : World, w0 = wr := ⟨_, rfl⟩
        go_loopw [3, 16] (fun o i wr => ∃ j : Nat, j ≤ 16 ∧ i = .int .i64 j ∧ wr.ownsRow 0 42 5 o (ents m (16 * k + j)).length (cells5 (ents m (16 * k + j))) ∧ Keeps [] w wr ∧ ∀ g ∈ fp o, w.heap.size ≤ g) (fun _ i _ => 16 - (intOf i).toNat)
        case atStart => exact ⟨0, by omega, rfl, hown, hkp, hfr⟩
        case round =>
          clear hown hkp hfr hx
          obtain ⟨j, hj, rfl, hown, hkp, hfr⟩ := hrel
          by_cases hjt : j < 16
          · have hs2 := hs.b.keep hkp (by simp)
            have hlen := ents_len m (16 * k + j)
            have a0 : (0 : Int) ≤ (j : Int) := by omega
            have p5 : wr.cell? ⟨s, j * 6 + 5, none⟩ = some (cellv (m (16 * k + j)) (16 * k + j) 5) := (hs2.cell _).trans (hs.c j 5 hjt (by omega))
            cases hm : m (16 * k + j) with
            | none =>
              rw [hm] at p5
              simp only [cellv, Option.isSome_none] at p5
              have HL := Lib.hid (ents_none hm)
              clear hm
              go_wp2
              go_roundw
              case rel => exact ⟨j + 1, by omega, by go_num, by rw [← Nat.add_assoc, HL.out]; exact hown, hkp, hfr⟩
              case measure => simp [intOf]; omega
            | some x =>
              have p0 : wr.cell? ⟨s, j * 6, none⟩ = some (cellv (m (16 * k + j)) (16 * k + j) 0) := (hs2.cell _).trans (hs.c j 0 hjt (by omega))
              have p1 : wr.cell? ⟨s, j * 6 + 1, none⟩ = some (cellv (m (16 * k + j)) (16 * k + j) 1) := (hs2.cell _).trans (hs.c j 1 hjt (by omega))
              have p2 : wr.cell? ⟨s, j * 6 + 2, none⟩ = some (cellv (m (16 * k + j)) (16 * k + j) 2) := (hs2.cell _).trans (hs.c j 2 hjt (by omega))
              have p3 : wr.cell? ⟨s, j * 6 + 3, none⟩ = some (cellv (m (16 * k + j)) (16 * k + j) 3) := (hs2.cell _).trans (hs.c j 3 hjt (by omega))
              have p4 : wr.cell? ⟨s, j * 6 + 4, none⟩ = some (cellv (m (16 * k + j)) (16 * k + j) 4) := (hs2.cell _).trans (hs.c j 4 hjt (by omega))
              rw [hm] at p0 p1 p2 p3 p4 p5
              simp only [cellv, Option.isSome_some] at p0 p1 p2 p3 p4 p5
              have HL := Lib.hid (ents_some hm)
              clear hm hs2
              obtain ⟨A2, cap2, rfl, _, _, _⟩ := own_shape hown
              go_wp2_with (at_builtin; refine wpList_app _ rfl (.tmp 26) (.tmp 34) _ rfl 42 (.agg #[.int .i64 0, .int .i64 0, .bool false, .bool false, .bool false]) 5 24 Tryz.underlying46 (by kernel_rfl) rfl (by omega) (.slice A2 (ents m (16 * k + j)).length cap2) _ _ rfl (own_keep hown ((Keeps.refl [] _).alloc _) (by simp)) _ _ _ _ (c5 (16 * k + j, x)) rfl (reads_cells wr #[.int .i64 (16 * k + j : Nat), .int .i64 x.fr, .bool x.wr, .bool x.ac, .bool x.di] 1 5 42 rfl) (by simp [c5, Value.oneCell']) (by unfold maxLen; omega) (by omega) ?_)
              intro v' w' ho' hk' hf'
              have hs := hkp.size
              have hk2 : Keeps [] w w' := (hkp.alloc _).trans hk' (fun g hg => .inr (hfr g hg))
              have ho2 : w'.ownsRow 0 42 5 v' (ents m (16 * k + (j + 1))).length (cells5 (ents m (16 * k + (j + 1)))) := by
                rw [← Nat.add_assoc, HL.out, cells5_snoc]; simpa using ho'
              have hf2 : ∀ g ∈ fp v', w.heap.size ≤ g := by
                intro g hg
                rcases hf' g hg with h1 | h1
                · exact hfr g h1
                · omega
              clear ho' hk' hf' hown hkp hfr
              go_wp2
              go_roundw
              case rel => exact ⟨j + 1, by omega, by go_num, ho2, hk2, hf2⟩
              case measure => simp [intOf]; omega
          · obtain rfl : j = 16 := by omega
            go_wp2
            go_roundw
            case rel => exact ⟨k + 1, by omega, by go_num, by rw [show 16 * (k + 1) = 16 * k + 16 by omega]; exact hown, hkp, hfr⟩
            case measure => simp [intOf]; omega
    · obtain rfl : k = 16 := by omega
      go_wp2
      go_ret
      exact ⟨_, rfl, hown, hkp, hfr⟩
end Go.Proofs.YteognipfnbocpaaGreat.T12
namespace Go.Proofs.YteognipfnbocpaaGreat.T12
open Go.RowKit

theorem setRow_alloc (w : World) (old cs : Array Value) (t : TypeId) : (w.alloc (.cells old t)).setRow w.heap.size cs = w.alloc (.cells cs t) := by
  have h : ((w.heap.push (.cells old t)).modify w.heap.size fun
      | .cells _ elem frozen => .cells cs elem frozen
      | o => o) = w.heap.push (.cells cs t) := by
    apply Array.ext_getElem?
    intro i
    rw [Array.getElem?_modify, Array.getElem?_push, Array.getElem?_push]
    by_cases hi : i = w.heap.size
    · simp [hi]
    · rw [if_neg (fun e => hi e.symm), if_neg hi, if_neg hi]
  exact congrArg (fun x => ({ w with heap := x } : World)) h
/-- A whole row stored into a block just made. -/
theorem wpList_store_new {P : Program} {ops : Array Oper} {rest : List Oper} {o : Oper} {a : Act} {w : World} {Q : Exit → Act → World → Prop} (hgd : o.guard = none) (ty : TypeId) (x y : Operand) (ho : o.op = .store ty x y) (hdst : o.dst = none)
    (hx : a.eval x = .pointer (some ⟨w.heap.size, 0, none⟩)) (t : TypeId) (old cs : Array Value) (hy : a.eval y = .agg cs) (hs : cs.size = old.size) (h1 : ∀ v ∈ cs.toList, v.oneCell' = true)
    (hi : (P.info? ty).map (·.size) = some cs.size)
    (h : wpList P ops Q rest a (w.alloc (.cells cs t))) : wpList P ops Q (o :: rest) a (w.alloc (.cells old t)) := by
  refine wpList_plain hgd fun _ hK => ?_
  cases hq : P.info? ty with
  | none => simp [hq] at hi
  | some i =>
    have hsz : i.size = cs.size := by simpa [hq] using hi
    have hst := run_storeCells_at P w.heap.size 0 t cs.toList 0 old (w.alloc (.cells old t)) (heap_alloc_new w _) (by simp [hs]) h1
    have e : (old.toList.take (0 + 0) ++ cs.toList ++ old.toList.drop (0 + 0 + cs.toList.length)).toArray = cs := by
      rw [List.drop_of_length_le (by simp [hs])]; simp
    rw [e, setRow_alloc] at hst
    have hsv : (storeVar ty ⟨w.heap.size, 0, none⟩ (.agg cs)).run P (w.alloc (.cells old t)) = .ok () (w.alloc (.cells cs t)) := by
      simp [storeVar, sizeOf, typeInfo, hq, hsz, Value.cells, hst]
    unfold Oper.wp execOp
    simp only [ho, hx, hy, Instr.storeAt, Instr.sureAddr, Sem.run_bind, Sem.run_pure, Result.andThen_ok, hsv]
    refine hK _ _ ?_
    rw [hdst]
    exact h

/-- The entries of the first k groups alone. -/
def cut (m : Nat → Option E) (k : Nat) : Nat → Option E := fun pg => if pg < 16 * k then m pg else none
theorem cut_zero (m : Nat → Option E) : cut m 0 = fun _ => none := by funext pg; unfold cut; rw [if_neg (by omega)]
theorem cut_all {m : Nat → Option E} (h : ∀ pg, 256 ≤ pg → m pg = none) : cut m 16 = m := by
  funext pg
  unfold cut
  split
  · rfl
  · exact (h pg (by omega)).symm
theorem cut_none {m : Nat → Option E} {k : Nat} (h : ∀ i, i < 16 → m (16 * k + i) = none) : cut m (k + 1) = cut m k := by
  funext pg
  unfold cut
  by_cases h1 : pg < 16 * k
  · rw [if_pos h1, if_pos (by omega)]
  · rw [if_neg h1]
    split
    · have := h (pg - 16 * k) (by omega)
      rwa [show 16 * k + (pg - 16 * k) = pg by omega] at this
    · rfl
theorem used_congr {m m' : Nat → Option E} {g n : Nat} (h : ∀ i, i < n → m' (16 * g + i) = m (16 * g + i)) : used m' g n = used m g n := by
  induction n with
  | zero => rfl
  | succ n ih => unfold used; rw [ih (fun i hi => h i (by omega)), h n (by omega)]
theorem SecAt.congr {w : World} {s : Nat} {m m' : Nat → Option E} {g u u' : Nat} {cs : Array Value} (h : SecAt w s m g u cs) (hm : ∀ i, i < 16 → m' (16 * g + i) = m (16 * g + i)) (hu : u' = u) : SecAt w s m' g u' cs :=
  ⟨h.b, h.z, fun i j hi hj => by rw [hm i hi]; exact h.c i j hi hj, by rw [hu]; exact h.u⟩
theorem TbAt.grow {w w1 : World} {F F' : List Nat} {c : Nat} {m : Nat → Option E} {q : Nat → Option Nat} {k s : Nat} (h : TbAt 16 w F c (cut m k) q) (hk : k < 16) (hK : Keeps [] w w1) (hF : ∀ t ∈ F, t ∈ F') (hF' : ∀ t ∈ F', t < w1.heap.size)
    (hs0 : w.heap.size ≤ s) (hs1 : s ∈ F') {cs : Array Value} (hs : SecAt w1 s m k (used m k 16) cs) (hu : used m k 16 ≠ 0) (hr : ∀ pg e, m pg = some e → 0 ≤ e.fr ∧ e.fr ≤ 9223372036854775807) :
    TbAt 16 (w1.setCell ⟨c, k, none⟩ (.pointer (some ⟨s, 0, none⟩))) F' c (cut m (k + 1)) (fun l => if l = k then some s else q l) := by
  have hq : q k = none := (h.n k hk (by omega)).2 (fun i hi => by unfold cut; rw [if_neg (by omega)])
  have hoff : ∀ l i, l ≠ k → i < 16 → cut m (k + 1) (16 * l + i) = cut m k (16 * l + i) := by
    intro l i hl hi
    unfold cut
    by_cases h1 : l < k
    · rw [if_pos (by omega), if_pos (by omega)]
    · rw [if_neg (by omega), if_neg (by omega)]
  have hon : ∀ i, i < 16 → cut m (k + 1) (16 * k + i) = m (16 * k + i) := by
    intro i hi
    unfold cut
    rw [if_pos (by omega)]
  have h2 : TbAt k w F c (cut m (k + 1)) q := by
    refine ⟨h.f, h.fp, h.fq, h.b, fun l t hl e => ?_, fun l hl hne => ?_, h.d, fun pg hpg => ?_, fun pg e he => ?_⟩
    · have hne : l ≠ k := fun e2 => by rw [e2, hq] at e; cases e
      obtain ⟨cs0, h0⟩ := h.s l t hl e
      exact ⟨cs0, h0.congr (fun i hi => hoff l i hne hi) (used_congr (fun i hi => hoff l i hne hi))⟩
    · rw [h.n l hl (by omega)]
      exact ⟨fun hx i hi => by rw [hoff l i hne hi]; exact hx i hi, fun hx i hi => by rw [← hoff l i hne hi]; exact hx i hi⟩
    · unfold cut; rw [if_neg (by omega)]
    · unfold cut at he
      split at he
      · exact hr pg e he
      · cases he
  have hu2 : used (cut m (k + 1)) k 16 = used m k 16 := used_congr hon
  exact h2.lay (o := some s) hk (.inr rfl) hK hF hF' (.inr ⟨fun e => (nomatch e), fun hx => absurd ((used_zero _ _ _).2 hx) (by rw [hu2]; exact hu)⟩) (fun t e => by
    cases e
    exact ⟨hs0, hs1, cs, hs.congr hon hu2⟩)

theorem SecAt.ones {w : World} {s : Nat} {m : Nat → Option E} {g u : Nat} {cs : Array Value} (h : SecAt w s m g u cs) : ∀ v ∈ cs.toList, v.oneCell' = true := by
  intro v hv
  obtain ⟨t, ht, rfl⟩ := List.mem_iff_getElem.1 hv
  have hz := h.z
  have ht2 : t < 97 := by simpa [hz] using ht
  have e : cs[t]? = some cs.toList[t] := by simp [Array.getElem?_eq_getElem (show t < cs.size by omega)]
  by_cases h96 : t = 96
  · subst h96
    rw [h.u] at e
    rw [← Option.some.inj e]
    rfl
  · have := h.c (t / 6) (t % 6) (by omega) (by omega)
    rw [show t / 6 * 6 + t % 6 = t by omega, e] at this
    rw [Option.some.inj this]
    unfold cellv
    split <;> rfl

end Go.Proofs.YteognipfnbocpaaGreat.T12
namespace Go.Proofs.YteognipfnbocpaaGreat.T12
open Go.RowKit

/-- A whole row stored into a block. -/
theorem wpList_store_blk {P : Program} {ops : Array Oper} {rest : List Oper} {o : Oper} {a : Act} {w : World} {Q : Exit → Act → World → Prop} (hgd : o.guard = none) (ty : TypeId) (x y : Operand) (ho : o.op = .store ty x y) (hdst : o.dst = none)
    (g : Nat) (hx : a.eval x = .pointer (some ⟨g, 0, none⟩)) (t : TypeId) (old cs : Array Value) (hb : Blk w g t old) (hy : a.eval y = .agg cs) (hs : cs.size = old.size) (h1 : ∀ v ∈ cs.toList, v.oneCell' = true)
    (hi : (P.info? ty).map (·.size) = some cs.size)
    (h : ∀ w', Blk w' g t cs → Keeps [g] w w' → wpList P ops Q rest a w') : wpList P ops Q (o :: rest) a w := by
  refine wpList_plain hgd fun _ hK => ?_
  cases hq : P.info? ty with
  | none => simp [hq] at hi
  | some i =>
    have hsz : i.size = cs.size := by simpa [hq] using hi
    have hst := run_storeCells_at P g 0 t cs.toList 0 old w hb (by simp [hs]) h1
    have e : (old.toList.take (0 + 0) ++ cs.toList ++ old.toList.drop (0 + 0 + cs.toList.length)).toArray = cs := by
      rw [List.drop_of_length_le (by simp [hs])]; simp
    rw [e] at hst
    have hsv : (storeVar ty ⟨g, 0, none⟩ (.agg cs)).run P w = .ok () (w.setRow g cs) := by
      simp [storeVar, sizeOf, typeInfo, hq, hsz, Value.cells, hst]
    unfold Oper.wp execOp
    simp only [ho, hx, hy, Instr.storeAt, Instr.sureAddr, Sem.run_bind, Sem.run_pure, Result.andThen_ok, hsv]
    refine hK _ _ ?_
    rw [hdst]
    refine h _ (setRow_heap w g old cs t _ hb) ⟨rfl, rfl, rfl, by simp [World.setRow], fun k _ hk => setRow_other w g k cs (by simpa using hk)⟩

/-- Which call an Act is. -/
def opk (d : Int) : Int := bits .and .i64 d 7
/-- What Look tells of page pg. -/
def lookX (m : Nat → Option E) (pg : Int) : Int × E := match ent m pg with
  | none => (0, ⟨0, false, false, false⟩)
  | some e => (pg, e)
theorem ent_nonneg {m : Nat → Option E} {pg : Int} {e : E} (h : ent m pg = some e) : 0 ≤ pg := by unfold ent at h; split at h; assumption; cases h
theorem lookV_eq (m : Nat → Option E) (pg : Int) : lookV (ent m pg) pg.toNat = .agg #[.int .i64 (lookX m pg).1, .int .i64 (lookX m pg).2.fr, .bool (lookX m pg).2.wr, .bool (lookX m pg).2.ac, .bool (lookX m pg).2.di] := by
  unfold lookV lookX
  cases h : ent m pg with
  | none => rfl
  | some e =>
    have := ent_nonneg h
    simp only []
    rw [Int.toNat_of_nonneg this]
theorem look_any2 (w : World) (F : List Nat) (p : Nat) (m : Nat → Option E) (pg : Int) (h : TbRep w F p m) (h1 : -9223372036854775808 ≤ pg) (h2 : pg ≤ 9223372036854775807) :
    Calls Tryz.prog 41 #[.pointer (some ⟨p, 0, none⟩), .int .i64 pg] w fun e w' => e = .returned (.tuple #[.agg #[.int .i64 (lookX m pg).1, .int .i64 (lookX m pg).2.fr, .bool (lookX m pg).2.wr, .bool (lookX m pg).2.ac, .bool (lookX m pg).2.di], .bool (ent m pg).isSome]) ∧ TbRep w' F p m ∧ Keeps [] w w' := by
  rw [← lookV_eq]
  exact look_any w F p m pg h h1 h2
/-- The table after a call. -/
def doM (m : Nat → Option E) (d pg fr : Int) (wr : Bool) : Nat → Option E :=
  if opk d = 0 ∨ opk d = 1 then mapM m pg fr wr else if opk d = 2 then unmM m pg else if opk d = 3 ∨ opk d = 4 then wlkM m pg wr else if opk d = 6 then clrM m pg else m
def doN (m : Nat → Option E) (d pg fr : Int) (wr : Bool) : Int :=
  if opk d = 0 ∨ opk d = 1 then mapN pg fr else if opk d = 2 then 0 else if opk d = 3 ∨ opk d = 4 then wlkN m pg wr else if opk d = 5 then 0 else if opk d = 6 then 0 else levs m 16
def doB (m : Nat → Option E) (d pg : Int) (wr : Bool) : Bool :=
  if opk d = 2 then (ent m pg).isSome else if opk d = 3 ∨ opk d = 4 then wlkB m pg wr else if opk d = 5 then (ent m pg).isSome else if opk d = 6 then clrB m pg else false
def doX (m : Nat → Option E) (d pg : Int) : Int × E := if opk d = 5 then lookX m pg else (0, ⟨0, false, false, false⟩)
/-- What a call returns, as cells. -/
def gotC (n : Int) (b : Bool) (x : Int × E) : Array Value := #[.int .i64 n, .bool b, .int .i64 x.1, .int .i64 x.2.fr, .bool x.2.wr, .bool x.2.ac, .bool x.2.di]
def doV (m : Nat → Option E) (d pg fr : Int) (wr : Bool) : Value := .agg (gotC (doN m d pg fr wr) (doB m d pg wr) (doX m d pg))
theorem gotC_ones (n : Int) (b : Bool) (x : Int × E) : ∀ v ∈ (gotC n b x).toList, v.oneCell' = true := by
  intro v hv
  simp [gotC] at hv
  rcases hv with rfl | rfl | rfl | rfl | rfl | rfl | rfl <;> rfl
end Go.Proofs.YteognipfnbocpaaGreat.T12
namespace Go.Proofs.YteognipfnbocpaaGreat.T12
open Go.RowKit

def cX (x : Int × E) : Array Value := #[.int .i64 x.1, .int .i64 x.2.fr, .bool x.2.wr, .bool x.2.ac, .bool x.2.di]
theorem ent_upd_ne {m : Nat → Option E} {pg page : Int} {o : Option E} (h : pg ≠ page) (hp : 0 ≤ pg) : ent (upd m pg.toNat o) page = ent m page := by
  unfold ent
  split
  · rw [upd_ne (by omega)]
  · rfl
theorem ent_upd {m : Nat → Option E} {pg : Int} {o : Option E} (hp : 0 ≤ pg) : ent (upd m pg.toNat o) pg = o := by
  unfold ent
  rw [if_pos hp, upd_same]
theorem ent_map {m : Nat → Option E} {pg f : Int} {b : Bool} (h : 0 ≤ pg ∧ pg < 256 ∧ 0 ≤ f) : ent (mapM m pg f b) pg = some ⟨f, b, false, false⟩ := by
  unfold mapM; rw [if_pos h]; exact ent_upd h.1
theorem ent_map_no {m : Nat → Option E} {pg f : Int} {b : Bool} (h : ¬(0 ≤ pg ∧ pg < 256 ∧ 0 ≤ f)) : ent (mapM m pg f b) pg = ent m pg := by
  unfold mapM; rw [if_neg h]
theorem ent_unm (m : Nat → Option E) (pg : Int) : ent (unmM m pg) pg = none := by
  unfold unmM
  cases he : ent m pg with
  | none => exact he
  | some e => exact ent_upd (ent_nonneg he)
theorem ent_wlk {m : Nat → Option E} {pg : Int} {b : Bool} {e : E} (he : ent m pg = some e) : ent (wlkM m pg b) pg = some (if b && !e.wr then e else ⟨e.fr, e.wr, true, e.di || b⟩) := by
  unfold wlkM
  rw [he]
  simp only []
  split
  · rw [he]
  · rw [ent_upd (ent_nonneg he)]
theorem ent_wlk_no {m : Nat → Option E} {pg : Int} {b : Bool} (he : ent m pg = none) : ent (wlkM m pg b) pg = none := by
  unfold wlkM; rw [he]; exact he
theorem ent_clr {m : Nat → Option E} {pg : Int} {e : E} (he : ent m pg = some e) : ent (clrM m pg) pg = some ⟨e.fr, e.wr, false, e.di⟩ := by
  unfold clrM; rw [he]; exact ent_upd (ent_nonneg he)
theorem ent_clr_no {m : Nat → Option E} {pg : Int} (he : ent m pg = none) : ent (clrM m pg) pg = none := by
  unfold clrM; rw [he]; exact he
theorem lookX_some {m : Nat → Option E} {pg : Int} {e : E} (h : ent m pg = some e) : lookX m pg = (pg, e) := by unfold lookX; rw [h]
theorem lookX_none {m : Nat → Option E} {pg : Int} (h : ent m pg = none) : lookX m pg = (0, ⟨0, false, false, false⟩) := by unfold lookX; rw [h]
theorem lookX_congr {m m' : Nat → Option E} {pg : Int} (h : ent m' pg = ent m pg) : lookX m' pg = lookX m pg := by unfold lookX; rw [h]

/-- What holds at the head of each round. -/
structure MapInv (w wr : World) (F : List Nat) (p g : Nat) (m : Nat → Option E) (page : Int) (th : Bool) : Prop where
  r : TbRep wr F p m
  b : Blk wr g 42 (cX (lookX m page))
  t : th = (ent m page).isSome
  ng : g ∉ F
  gw : w.heap.size ≤ g
  kp : Keeps [] w wr
  f : ∀ x ∈ F, w.heap.size ≤ x
end Go.Proofs.YteognipfnbocpaaGreat.T12
namespace Go.Proofs.YteognipfnbocpaaGreat.T12
open Go.RowKit

theorem cells5_at (l : List (Nat × E)) (k j : Nat) (hk : k < l.length) (hj : j < 5) : (cells5 l)[k * 5 + j]? = (c5 l[k])[j]? := by
  induction l generalizing k with
  | nil => simp at hk
  | cons x r ih =>
    have hc : (c5 x).length = 5 := rfl
    show (c5 x ++ cells5 r)[k * 5 + j]? = _
    cases k with
    | zero => rw [List.getElem?_append_left (by rw [hc]; omega)]; simp
    | succ k =>
      rw [List.getElem?_append_right (by rw [hc]; omega), hc, show (k + 1) * 5 + j - 5 = k * 5 + j by omega, ih k (by simpa using hk)]
      rfl

set_option maxHeartbeats 800000 in
theorem same_any (w : World) (v u : Value) (L : List (Nat × E)) (h1 : w.ownsRow 0 42 5 v L.length (cells5 L)) (h2 : w.ownsRow 0 42 5 u L.length (cells5 L)) :
    Calls Tryz.prog 15 #[v, u] w fun e w' => e = .returned (.bool true) ∧ Keeps [] w w' := by
  have hm := own_max h1
  unfold maxLen at hm
  obtain ⟨A, c, rfl, _, _, hA⟩ := own_shape h1
  obtain ⟨B, c2, rfl, _, _, hB⟩ := own_shape h2
  go_enter Tryz.func15, Tryz.ntmps15
  go_wp2
  go_loopw [5] (fun i wr => ∃ k : Nat, k ≤ L.length ∧ i = .int .i64 k ∧ Keeps [] w wr) (fun i _ => L.length - (intOf i).toNat)
  case atStart => exact ⟨0, by omega, rfl, Keeps.refl _ _⟩
  case round =>
    obtain ⟨k, hk, rfl, hkp⟩ := hrel
    by_cases hlt : k < L.length
    · obtain ⟨g, rfl⟩ := hA (by omega)
      obtain ⟨g2, rfl⟩ := hB (by omega)
      have hc := fun j hj => cells5_at L k j hlt hj
      obtain ⟨⟨x0, x1, x2, x3, x4⟩, hx⟩ : ∃ x, x = L[k] := ⟨_, rfl⟩
      rw [← hx] at hc
      have o1 := own_keep h1 hkp (by simp)
      have o2 := own_keep h2 hkp (by simp)
      have a0 : wr.cell? ⟨g, k * 5, none⟩ = some (.int .i64 x0) := own_cell o1 (hc 0 (by omega))
      have a1 : wr.cell? ⟨g, k * 5 + 1, none⟩ = some (.int .i64 x1) := own_cell o1 (hc 1 (by omega))
      have a2 : wr.cell? ⟨g, k * 5 + 2, none⟩ = some (.bool x2) := own_cell o1 (hc 2 (by omega))
      have a3 : wr.cell? ⟨g, k * 5 + 3, none⟩ = some (.bool x3) := own_cell o1 (hc 3 (by omega))
      have a4 : wr.cell? ⟨g, k * 5 + 4, none⟩ = some (.bool x4) := own_cell o1 (hc 4 (by omega))
      have b0 : wr.cell? ⟨g2, k * 5, none⟩ = some (.int .i64 x0) := own_cell o2 (hc 0 (by omega))
      have b1 : wr.cell? ⟨g2, k * 5 + 1, none⟩ = some (.int .i64 x1) := own_cell o2 (hc 1 (by omega))
      have b2 : wr.cell? ⟨g2, k * 5 + 2, none⟩ = some (.bool x2) := own_cell o2 (hc 2 (by omega))
      have b3 : wr.cell? ⟨g2, k * 5 + 3, none⟩ = some (.bool x3) := own_cell o2 (hc 3 (by omega))
      have b4 : wr.cell? ⟨g2, k * 5 + 4, none⟩ = some (.bool x4) := own_cell o2 (hc 4 (by omega))
      have hi0 : (0 : Int) ≤ (k : Int) := by omega
      have hi1 : (k : Int) < (L.length : Int) := by omega
      clear hA hB h1 h2 hc o1 o2 hx
      go_wp2_with fail
      go_quiet (fail)
      go_wp2
      go_roundw
      case rel => exact ⟨k + 1, by omega, by go_num, hkp.drewN _⟩
      case measure => simp [intOf]; omega
    · go_wp2
      go_ret
      exact ⟨rfl, hkp⟩

/-- How many groups have entries among the first n pages, and the last of these groups (-1: none). -/
def lv (m : Nat → Option E) : Nat → Nat × Int
  | 0 => (0, -1)
  | n + 1 => match m n with
    | none => lv m n
    | some _ => if ((n / 16 : Nat) : Int) = (lv m n).2 then lv m n else ((lv m n).1 + 1, ((n / 16 : Nat) : Int))
theorem lv_none {m : Nat → Option E} {n : Nat} (h : m n = none) : lv m (n + 1) = lv m n := by simp [lv, h]
theorem lv_same {m : Nat → Option E} {n : Nat} {e : E} (h : m n = some e) (h2 : ((n / 16 : Nat) : Int) = (lv m n).2) : lv m (n + 1) = lv m n := by
  show (match m n with | none => lv m n | some _ => _) = _
  rw [h]
  exact if_pos h2
theorem lv_new {m : Nat → Option E} {n : Nat} {e : E} (h : m n = some e) (h2 : ¬((n / 16 : Nat) : Int) = (lv m n).2) : lv m (n + 1) = ((lv m n).1 + 1, ((n / 16 : Nat) : Int)) := by
  show (match m n with | none => lv m n | some _ => _) = _
  rw [h]
  exact if_neg h2
theorem lv_in (m : Nat → Option E) (g i : Nat) (hi : i ≤ 16) (h0 : (lv m (16 * g)).2 < g) : lv m (16 * g + i) = if used m g i = 0 then lv m (16 * g) else ((lv m (16 * g)).1 + 1, (g : Int)) := by
  induction i with
  | zero => simp [used]
  | succ i ih =>
    have ih := ih (by omega)
    have hd : (16 * g + i) / 16 = g := by omega
    rw [← Nat.add_assoc]
    cases hm : m (16 * g + i) with
    | none =>
      rw [lv_none hm, ih]
      simp [used, hm]
    | some e =>
      have hu : used m g (i + 1) ≠ 0 := by simp [used, hm]
      rw [if_neg hu]
      by_cases hz : used m g i = 0
      · rw [if_pos hz] at ih
        rw [lv_new hm (by rw [hd, ih]; omega), ih, hd]
      · rw [if_neg hz] at ih
        rw [lv_same hm (by rw [hd, ih]), ih]
theorem lv_levs (m : Nat → Option E) (g : Nat) : (lv m (16 * g)).1 = levs m g ∧ (lv m (16 * g)).2 < g := by
  induction g with
  | zero => simp [lv, levs]
  | succ g ih =>
    have h := lv_in m g 16 (by omega) ih.2
    rw [show 16 * (g + 1) = 16 * g + 16 by omega, h]
    by_cases hz : used m g 16 = 0
    · rw [if_pos hz, levs_zero hz]; exact ⟨ih.1, by have := ih.2; omega⟩
    · rw [if_neg hz, levs_succ hz]; exact ⟨by rw [ih.1], by omega⟩
theorem lv_le (m : Nat → Option E) (n : Nat) : (lv m n).1 ≤ n := by
  induction n with
  | zero => simp [lv]
  | succ n ih =>
    cases h : m n with
    | none => rw [lv_none h]; omega
    | some e =>
      by_cases h2 : ((n / 16 : Nat) : Int) = (lv m n).2
      · rw [lv_same h h2]; omega
      · rw [lv_new h h2]; simp only []; omega
theorem TbRep.o {w : World} {F : List Nat} {p : Nat} {m : Nat → Option E} (h : TbRep w F p m) : ∀ pg, 256 ≤ pg → m pg = none := by obtain ⟨q, h⟩ := h; exact h.o
end Go.Proofs.YteognipfnbocpaaGreat.T12
