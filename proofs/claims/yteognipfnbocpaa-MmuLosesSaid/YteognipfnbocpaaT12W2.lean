/- What a store does to the page table. -/
import Derived.Test.YteognipfnbocpaaT12W1
namespace Go.Proofs.Yteognipfnbocpaa.T12
open Go.RowKit

theorem SecAt.put_ {w w' : World} {s : Nat} {m : Nat → Option E} {k u v : Nat} {cs cs' : Array Value} {o : Option E} (h : SecAt w s m (k / 16) u cs) (hb : Blk w' s 96 cs') (hz : cs'.size = 97)
    (hout : ∀ t, t < 96 → ¬(k % 16 * 6 ≤ t ∧ t < k % 16 * 6 + 6) → cs'[t]? = cs[t]?) (hin : ∀ j, j < 6 → cs'[k % 16 * 6 + j]? = some (cellv o k j))
    (hu : cs'[96]? = some (.int .i64 v)) : SecAt w' s (upd m k o) (k / 16) v cs' := by
  refine ⟨hb, hz, fun i j hi hj => ?_, hu⟩
  by_cases e : i = k % 16
  · subst e
    have e : 16 * (k / 16) + k % 16 = k := Nat.div_add_mod k 16
    rw [e, upd_same]
    exact hin j hj
  · rw [hout (i * 6 + j) (by omega) (by omega), upd_ne (by have := Nat.div_add_mod k 16; omega)]
    exact h.c i j hi hj
/-- The place of page k is stored anew. -/
theorem SecAt.six {w : World} {s : Nat} {m : Nat → Option E} {k u : Nat} {cs : Array Value} (o : Option E) (h : SecAt w s m (k / 16) u cs) : ∃ cs',
    SecAt ((((((w.setCell ⟨s, k % 16 * 6, none⟩ (cellv o k 0)).setCell ⟨s, k % 16 * 6 + 1, none⟩ (cellv o k 1)).setCell ⟨s, k % 16 * 6 + 2, none⟩ (cellv o k 2)).setCell ⟨s, k % 16 * 6 + 3, none⟩ (cellv o k 3)).setCell ⟨s, k % 16 * 6 + 4, none⟩ (cellv o k 4)).setCell ⟨s, k % 16 * 6 + 5, none⟩ (cellv o k 5)) s (upd m k o) (k / 16) u cs' := by
  have hz := h.z
  have hlt : k % 16 < 16 := Nat.mod_lt _ (by omega)
  refine ⟨_, h.put_ ((((((h.b.set_ _ _).set_ _ _).set_ _ _).set_ _ _).set_ _ _).set_ _ _) (by simp [hz]) (fun t ht hn => ?_) (fun j hj => ?_) ?_⟩
  · simp only [Array.getElem?_setIfInBounds]
    repeat rw [if_neg (by omega)]
  · have : j = 0 ∨ j = 1 ∨ j = 2 ∨ j = 3 ∨ j = 4 ∨ j = 5 := by omega
    rcases this with rfl | rfl | rfl | rfl | rfl | rfl
    all_goals (simp [Array.getElem?_setIfInBounds, hz]; try omega)
  · simp only [Array.getElem?_setIfInBounds]
    repeat rw [if_neg (by omega)]
    exact h.u
/-- One flag of page k's place is stored anew. -/
theorem SecAt.one {w : World} {s : Nat} {m : Nat → Option E} {k u j : Nat} {cs : Array Value} (o : Option E) (h : SecAt w s m (k / 16) u cs) (hj : j < 6) (ho : ∀ i, i < 6 → i ≠ j → cellv o k i = cellv (m k) k i) :
    ∃ cs', SecAt (w.setCell ⟨s, k % 16 * 6 + j, none⟩ (cellv o k j)) s (upd m k o) (k / 16) u cs' := by
  have hz := h.z
  have hlt : k % 16 < 16 := Nat.mod_lt _ (by omega)
  refine ⟨_, h.put_ (h.b.set_ _ _) (by simp [hz]) (fun t ht hn => ?_) (fun i hi => ?_) ?_⟩
  · simp only [Array.getElem?_setIfInBounds]
    rw [if_neg (by omega)]
  · simp only [Array.getElem?_setIfInBounds]
    by_cases e : i = j
    · subst e
      rw [if_pos rfl, if_pos (by rw [hz]; omega)]
    · rw [if_neg (by omega), ho i hi e]
      have e : 16 * (k / 16) + k % 16 = k := Nat.div_add_mod k 16
      have := h.c (k % 16) i (by omega) hi
      rw [e] at this
      exact this
  · simp only [Array.getElem?_setIfInBounds]
    rw [if_neg (by omega)]
    exact h.u
theorem SecAt.cnt {w : World} {s : Nat} {m : Nat → Option E} {g u : Nat} (v : Nat) {cs : Array Value} (h : SecAt w s m g u cs) : ∃ cs', SecAt (w.setCell ⟨s, 96, none⟩ (.int .i64 v)) s m g v cs' := by
  have hz := h.z
  refine ⟨_, h.b.set_ _ _, by simp [hz], fun i j hi hj => ?_, by simp [hz]⟩
  rw [Array.getElem?_setIfInBounds, if_neg (by omega)]
  exact h.c i j hi hj

theorem TbAt.put_ {x y : Nat} {w w' : World} {F : List Nat} {p : Nat} {m : Nat → Option E} {q : Nat → Option Nat} {k s : Nat} {cs' : Array Value} {o : Option E} (h : TbAt x w F p m q) (hk : k < 256) (hq : q (k / 16) = some s)
    (hx : x = 16 ∨ x = k / 16) (hy : y = k / 16 ∨ 0 < used (upd m k o) (k / 16) 16)
    (hK : Keeps [s] w w') (hs : SecAt w' s (upd m k o) (k / 16) (used (upd m k o) (k / 16) 16) cs') (hr : ∀ e, o = some e → 0 ≤ e.fr ∧ e.fr ≤ 9223372036854775807) : TbAt y w' F p (upd m k o) q := by
  have hg : k / 16 < 16 := by omega
  obtain ⟨cs, hb, h1, h2⟩ := h.b
  obtain ⟨cs0, hs0⟩ := h.s _ _ hg hq
  have hps : p ≠ s := Blk.ne_ hb hs0.b (by decide)
  have hoff : ∀ l i, l ≠ k / 16 → i < 16 → upd m k o (16 * l + i) = m (16 * l + i) := fun l i hl hi => upd_ne (by omega)
  refine ⟨fun g hg => Nat.lt_of_lt_of_le (h.f g hg) hK.size, h.fp, h.fq, ⟨cs, hb.keep hK (by simpa using hps), h1, h2⟩, fun l t hl e => ?_, fun l hl hly => ?_, h.d, fun pg hpg => ?_, fun pg e he => ?_⟩
  · by_cases el : l = k / 16
    · subst el
      obtain rfl : s = t := by rw [hq] at e; exact Option.some.inj e
      exact ⟨cs', hs⟩
    · obtain ⟨cs1, hs1⟩ := h.s l t hl e
      have hts : t ≠ s := fun hx => el (h.d l (k / 16) s hl hg (hx ▸ e) hq)
      refine ⟨cs1, hs1.b.keep hK (by simpa using hts), hs1.z, fun i j hi hj => ?_, ?_⟩
      · rw [hoff l i el hi]; exact hs1.c i j hi hj
      · rw [used_upd_off (by omega)]; exact hs1.u
  · by_cases el : l = k / 16
    · subst el
      refine ⟨fun hx => (by rw [hq] at hx; cases hx), fun hx => ?_⟩
      have := (used_zero _ _ _).2 hx
      rcases hy with hy | hy
      · exact absurd hy.symm hly
      · omega
    · rw [h.n l hl (by omega)]
      exact ⟨fun hx i hi => by rw [hoff l i el hi]; exact hx i hi, fun hx i hi => by rw [← hoff l i el hi]; exact hx i hi⟩
  · rw [upd_ne (by omega)]; exact h.o pg hpg
  · by_cases e2 : pg = k
    · subst e2; rw [upd_same] at he; exact hr e he
    · rw [upd_ne e2] at he; exact h.r pg e he
/-- The pointer of group g is stored anew. -/
theorem TbAt.lay {x y : Nat} {w w1 : World} {F F' : List Nat} {p : Nat} {m : Nat → Option E} {q : Nat → Option Nat} {g : Nat} {o : Option Nat} (h : TbAt x w F p m q) (hg : g < 16) (hx : x = 16 ∨ x = g)
    (hK : Keeps [] w w1) (hF : ∀ t ∈ F, t ∈ F') (hF' : ∀ t ∈ F', t < w1.heap.size) (hy : y = g ∨ (o = none ↔ ∀ i, i < 16 → m (16 * g + i) = none))
    (ho : ∀ s, o = some s → w.heap.size ≤ s ∧ s ∈ F' ∧ ∃ cs, SecAt w1 s m g (used m g 16) cs) :
    TbAt y (w1.setCell ⟨p, g, none⟩ (.pointer (o.map fun s => ⟨s, 0, none⟩))) F' p m (fun l => if l = g then o else q l) := by
  obtain ⟨cs, hb, h1, h2⟩ := h.b
  have hfar : ∀ s ∈ F, s < w.heap.size := h.f
  have hpl := h.f p h.fp
  have K2 : Keeps [p] w1 (w1.setCell ⟨p, g, none⟩ (.pointer (o.map fun s => ⟨s, 0, none⟩))) := (Keeps.refl _ _).setCell (.inl (by simp)) _
  have H : ∀ l t, l < 16 → (if l = g then o else q l) = some t → (l = g ∧ o = some t) ∨ (l ≠ g ∧ q l = some t) := by
    intro l t _ e
    by_cases el : l = g
    · rw [if_pos el] at e; exact .inl ⟨el, e⟩
    · rw [if_neg el] at e; exact .inr ⟨el, e⟩
  refine ⟨fun t ht => Nat.lt_of_lt_of_le (hF' t ht) K2.size, hF _ h.fp, fun l t hl e => ?_, ⟨_, (hb.keep hK (by simp)).set_ _ _, by simp [h1], fun l hl => ?_⟩, fun l t hl e => ?_, fun l hl hly => ?_, fun l l' t hl hl' e e' => ?_, h.o, h.r⟩
  · rcases H l t hl e with ⟨-, e2⟩ | ⟨-, e2⟩
    · exact (ho t e2).2.1
    · exact hF _ (h.fq l t hl e2)
  · rw [Array.getElem?_setIfInBounds]
    by_cases el : g = l
    · subst el
      rw [if_pos rfl, if_pos (by omega), if_pos rfl]
    · rw [if_neg el, if_neg (fun e => el e.symm)]
      exact h2 l hl
  · rcases H l t hl e with ⟨rfl, e2⟩ | ⟨ne, e2⟩
    · obtain ⟨hge, -, cs, hs⟩ := ho t e2
      exact ⟨cs, hs.b.keep K2 (by simp; omega), hs.z, hs.c, hs.u⟩
    · obtain ⟨cs1, hs⟩ := h.s l t hl e2
      have hpt : t ≠ p := (Blk.ne_ hb hs.b (by decide)).symm
      exact ⟨cs1, (hs.b.keep hK (by simp)).keep K2 (by simpa using hpt), hs.z, hs.c, hs.u⟩
  · by_cases el : l = g
    · subst el
      rw [if_pos rfl]
      rcases hy with hy | hy
      · exact absurd hy.symm hly
      · exact hy
    · rw [if_neg el]
      exact h.n l hl (by omega)
  · rcases H l t hl e with ⟨a1, e2⟩ | ⟨ne, e2⟩ <;> rcases H l' t hl' e' with ⟨a2, e3⟩ | ⟨ne', e3⟩
    · rw [a1, a2]
    · have := (ho t e2).1
      have := hfar t (h.fq l' t hl' e3)
      omega
    · have := (ho t e3).1
      have := hfar t (h.fq l t hl e2)
      omega
    · exact h.d l l' t hl hl' e2 e3

/-- What Look answers of an entry. -/
def lookV (o : Option E) (k : Nat) : Value := match o with
  | none => .agg #[.int .i64 0, .int .i64 0, .bool false, .bool false, .bool false]
  | some e => .agg #[.int .i64 k, .int .i64 e.fr, .bool e.wr, .bool e.ac, .bool e.di]
/-- What is told of page pg. -/
def ent (m : Nat → Option E) (pg : Int) : Option E := if 0 ≤ pg then m pg.toNat else none
theorem ent_nat (m : Nat → Option E) (k : Nat) : ent m (k : Int) = m k := by unfold ent; rw [if_pos (by omega)]; rfl
theorem ent_no {m : Nat → Option E} {pg : Int} (h : 0 ≤ pg → m pg.toNat = none) : ent m pg = none := by unfold ent; split <;> simp_all
def unmM (m : Nat → Option E) (pg : Int) : Nat → Option E := match ent m pg with
  | none => m
  | some _ => upd m pg.toNat none
def wlkE (e : E) (wr : Bool) : E := if wr && !e.wr then e else ⟨e.fr, e.wr, true, e.di || wr⟩
def wlkM (m : Nat → Option E) (pg : Int) (wr : Bool) : Nat → Option E := match ent m pg with
  | none => m
  | some e => if wr && !e.wr then m else upd m pg.toNat (some ⟨e.fr, e.wr, true, e.di || wr⟩)
def wlkN (m : Nat → Option E) (pg : Int) (wr : Bool) : Int := match ent m pg with
  | none => 0
  | some e => if wr && !e.wr then 0 else e.fr
def wlkB (m : Nat → Option E) (pg : Int) (wr : Bool) : Bool := match ent m pg with
  | none => false
  | some e => !(wr && !e.wr)
def clrM (m : Nat → Option E) (pg : Int) : Nat → Option E := match ent m pg with
  | none => m
  | some e => upd m pg.toNat (some ⟨e.fr, e.wr, false, e.di⟩)
def clrB (m : Nat → Option E) (pg : Int) : Bool := match ent m pg with
  | none => false
  | some e => e.ac
def mapM (m : Nat → Option E) (pg fr : Int) (wr : Bool) : Nat → Option E := if 0 ≤ pg ∧ pg < 256 ∧ 0 ≤ fr then upd m pg.toNat (some ⟨fr, wr, false, false⟩) else m
def mapN (pg fr : Int) : Int := if 0 ≤ pg ∧ pg < 256 ∧ 0 ≤ fr then 0 else 3
end Go.Proofs.Yteognipfnbocpaa.T12
