/- The walk of Copy: laws. -/
import Derived.Test.YteognipfnbocpaaW15
namespace Go.Proofs.Yteognipfnbocpaa
open Go.RowKit
open T12 (E TbRep ent)
open T13 (Tl En TlRep es)

section
variable {w w' : World} {F : List Nat} {p : Nat} {s : Mm} {L : Nat → Option Lb} {b nb : Nat} {q : Int → Option Nat} {A A' : Option Addr} {cap cap' : Nat} {c G : List Nat} {r : Nat} {k : Tl}
/-- A cache is laid behind the others. -/
theorem MmAt.more2 (h : MmAt w F p s L b nb q A cap c)
    (hp : Blk w' p 58 #[.map (some b), .slice A' (s.C.length + 1) cap', .int .i64 s.n]) (hk : Keeps (p :: fp (.slice A s.C.length cap)) w w') (hG : ∀ g ∈ G, L g = none) (hGA : ∀ g ∈ G, g ∉ fp (.slice A' (s.C.length + 1) cap')) (ht : TlRep 83 w' G r k) (ho : w'.ownsRow 0 59 1 (.slice A' (s.C.length + 1) cap') (s.C.length + 1) ((c ++ [r]).map pv)) (hA' : ∀ g ∈ fp (.slice A' (s.C.length + 1) cap'), g ∈ fp (.slice A s.C.length cap) ∨ L g = none) :
    MmAt w' (G ++ (fp (.slice A' (s.C.length + 1) cap') ++ F)) p { s with C := s.C ++ [k] } (relab (relab L (fp (.slice A' (s.C.length + 1) cap')) .me) G (.cl s.C.length)) b nb q A' cap' (c ++ [r]) := by
  have hlen1 : ({ s with C := s.C ++ [k] } : Mm).C.length = s.C.length + 1 := by simp
  have hcl := h.clen
  have hlA := h.lA
  have h1 : ∀ g ∈ fp (.slice A' (s.C.length + 1) cap'), L g = some .me ∨ L g = none := fun g hg => (hA' g hg).elim (fun h => .inl (hlA g h)) .inr
  have h2 : ∀ g ∈ G, relab L (fp (.slice A' (s.C.length + 1) cap')) .me g = some (.cl s.C.length) ∨ relab L (fp (.slice A' (s.C.length + 1) cap')) .me g = none := fun g hg => by
    right
    unfold relab
    rw [if_neg (hGA g hg)]
    exact hG g hg
  have off : ∀ g l, L g = some l → l ≠ .me → g ∉ p :: fp (.slice A s.C.length cap) := fun g l h3 h4 h5 => by
    have : L g = some .me := by
      rcases List.mem_cons.1 h5 with rfl | h5
      · exact h.lp
      · exact hlA g h5
    rw [this] at h3
    injection h3 with h3
    exact h4 h3.symm
  have old : ∀ g l, L g = some l → relab (relab L (fp (.slice A' (s.C.length + 1) cap')) .me) G (.cl s.C.length) g = some l := fun g l h3 => relab_old h2 (relab_old h1 h3)
  have hbA := h.b_A
  have hbk : b ∉ p :: fp (.slice A s.C.length cap) := fun h5 => by
    rcases List.mem_cons.1 h5 with e | h5
    · exact h.p_b e
    · exact hbA h5
  have hpA' : ∀ g ∈ fp (.slice A' (s.C.length + 1) cap'), g < w'.heap.size := fun g hg => own_lt ho hg
  refine ⟨fun g l hg => ?_, fun g l hg => ?_, by rw [hlen1]; exact hp, h.bm.keep hk hbk, by rw [hlen1]; exact ho, old _ _ h.lp, old _ _ h.lb, ?_, h.qn, (fun x m hx => ?_), fun i k1 hi => ?_, h.ix, fun g hg => ?_⟩
  · unfold relab at hg
    split at hg
    · rename_i h3; exact ht.lt g h3
    · split at hg
      · rename_i h3; exact hpA' g h3
      · exact Nat.lt_of_lt_of_le (h.lt g l hg) hk.size
  · unfold relab at hg
    split at hg
    · rename_i h3; exact List.mem_append_left _ h3
    · split at hg
      · rename_i h3; exact List.mem_append_right _ (List.mem_append_left _ h3)
      · exact List.mem_append_right _ (List.mem_append_right _ (h.inF g l hg))
  · rw [hlen1]
    exact fun g hg => relab_old h2 (relab_in hg)
  · obtain ⟨G1, r1, g1, g2, g3⟩ := h.qs x m hx
    exact ⟨G1, r1, g1, g2.keep hk (fun g hg => off g _ (g3 g hg) (by simp)), fun g hg => old _ _ (g3 g hg)⟩
  · rcases getElem?_snoc _ _ _ _ hi with h3 | ⟨h3, rfl⟩
    · obtain ⟨G1, r1, g1, g2, g3⟩ := h.cs i k1 h3
      refine ⟨G1, r1, ?_, g2.keep hk (fun g hg => off g _ (g3 g hg) (by simp)), fun g hg => old _ _ (g3 g hg)⟩
      rw [List.getElem?_append_left (List.getElem?_eq_some_iff.1 g1).1]
      exact g1
    · subst h3
      refine ⟨G, r, ?_, ht, fun g hg => relab_in hg⟩
      rw [List.getElem?_append_right (by omega), hcl]
      simp
  · rcases List.mem_append.1 hg with h3 | h3
    · exact ht.lt g h3
    · rcases List.mem_append.1 h3 with h3 | h3
      · exact hpA' g h3
      · exact Nat.lt_of_lt_of_le (h.fl g h3) hk.size
end
theorem more2_step {w wr w1 w8 : World} {F : List Nat} {p N : Nat} {s : Mm} {k : Tl} {L : Nat → Option Lb} {b nb : Nat} {q : Int → Option Nat} {A A8 : Option Addr} {cap c8 : Nat} {c G : List Nat} {r : Nat} (I : MmAt wr F p s L b nb q A cap c) (kp : Keeps [] w wr) (hF : ∀ x ∈ F, w.heap.size ≤ x)
    (k1 : Keeps [] wr.drew w1) (f1 : ∀ g ∈ G, wr.drew.heap.size ≤ g) (t1 : TlRep 83 w1 G r k) (k8 : Keeps (fp (.slice A s.C.length cap)) (w1.alloc (.cells #[.pointer (some ⟨r, 0, none⟩)] 59)) w8)
    (o8 : w8.ownsRow 0 59 1 (.slice A8 (s.C.length + 1) c8) (s.C.length + 1) (c.map pv ++ [.pointer (some ⟨r, 0, none⟩)])) (f8 : ∀ g ∈ fp (.slice A8 (s.C.length + 1) c8), g ∈ fp (.slice A s.C.length cap) ∨ N ≤ g) (hN : N = w1.heap.size + 1)
    (b8 : Blk w8 p 58 #[.map (some b), .slice A s.C.length cap, .int .i64 s.n]) :
    ∃ F' L', MmAt (w8.setCell ⟨p, 1, none⟩ (.slice A8 (s.C.length + 1) c8)) F' p { s with C := s.C ++ [k] } L' b nb q A8 c8 (c ++ [r]) ∧ Keeps [] w (w8.setCell ⟨p, 1, none⟩ (.slice A8 (s.C.length + 1) c8)) ∧ ∀ x ∈ F', w.heap.size ≤ x := by
  have hlA := I.lA
  have k0 : Keeps [] wr w1 := ((Keeps.refl [] wr).drew).trans k1 (by simp)
  have zr : wr.drew.heap.size = wr.heap.size := rfl
  have z1 := k0.size
  have hGn : ∀ g ∈ G, L g = none := fun g hg => by
    cases hl : L g with
    | none => rfl
    | some l => have := I.lt g l hl; have := f1 g hg; omega
  have hpF := I.inF _ _ I.lp
  have hpl := I.lt _ _ I.lp
  have hpG : p ∉ G := fun h => by have := I.lp; rw [hGn p h] at this; cases this
  have hnA : ∀ g, N ≤ g → L g = none := fun g hg => by
    cases hl : L g with
    | none => rfl
    | some l => have := I.lt g l hl; omega
  have ka : Keeps [] wr (w1.alloc (.cells #[.pointer (some ⟨r, 0, none⟩)] 59)) := k0.alloc _
  have kk : Keeps (p :: fp (.slice A s.C.length cap)) wr (w8.setCell ⟨p, 1, none⟩ (.slice A8 (s.C.length + 1) c8)) := ((ka.mono (G := p :: fp (.slice A s.C.length cap)) (by simp)).trans k8 (fun g hg => .inl (List.mem_cons_of_mem _ hg))).setCell (.inl (by simp)) _
  have hGA : ∀ g ∈ G, g ∉ fp (.slice A s.C.length cap) := fun g hg h => by have := hlA g h; rw [hGn g hg] at this; cases this
  have hp8 : p ∉ fp (.slice A8 (s.C.length + 1) c8) := own_blk_off o8 b8 (by omega)
  have tt : TlRep 83 (w8.setCell ⟨p, 1, none⟩ (.slice A8 (s.C.length + 1) c8)) G r k := ((t1.keep ((Keeps.refl [] w1).alloc (.cells #[.pointer (some ⟨r, 0, none⟩)] 59)) (by simp)).keep k8 hGA).keep ((Keeps.refl [p] w8).setCell (.inl (by simp)) _) (fun g hg h => hpG (by rw [List.mem_singleton.1 h] at hg; exact hg))
  refine ⟨_, _, I.more2 (b8.set_ 1 _) kk hGn (fun g hg h => ?_) tt ?_ (fun g hg => (f8 g hg).imp id (hnA g)), kp.trans kk (fun g hg => .inr ?_), fun x hx => ?_⟩
  · rcases f8 g h with h | h
    · exact hGA g hg h
    · have := t1.lt g hg; omega
  · have e : (c ++ [r]).map pv = c.map pv ++ [.pointer (some ⟨r, 0, none⟩)] := by simp [pv]
    rw [e]
    exact own_far o8 hp8 _
  · rcases List.mem_cons.1 hg with rfl | hg
    · exact hF _ hpF
    · exact hF _ (I.inF _ _ (hlA g hg))
  · have := kp.size
    rcases List.mem_append.1 hx with h | h
    · have := f1 x h; omega
    · rcases List.mem_append.1 h with h | h
      · rcases f8 x h with h | h
        · exact hF _ (I.inF _ _ (hlA x h))
        · omega
      · exact hF x h
/-- What is copied of s, as long as the spaces of 'left' are to come. -/
def part (s : Mm) (left : Int → Bool) (k : Nat) : Mm := ⟨fun x => if left x then none else s.t x, [], s.n, k⟩
theorem MmAt.begin_ (w : World) (n : Int) (s : Mm) (left : Int → Bool) (hl : ∀ x, (s.t x).isSome → left x = true) (hn : s.n = n) : MmAt ((w.alloc (.map #[] 0)).alloc (.cells #[.map (some w.heap.size), .slice none 0 0, .int .i64 n] 58)) [w.heap.size, w.heap.size + 1] (w.heap.size + 1) (part s left 0) (lab0 w.heap.size (w.heap.size + 1)) w.heap.size 0 (fun _ => none) none 0 [] := by
  subst hn
  have hb : PMap ((w.alloc (.map #[] 0)).alloc (.cells #[.map (some w.heap.size), .slice none 0 0, .int .i64 s.n] 58)) w.heap.size 0 (fun _ => none) := (PMap.made w).keep ((Keeps.refl [] _).alloc _) (by simp)
  have hp : Blk ((w.alloc (.map #[] 0)).alloc (.cells #[.map (some w.heap.size), .slice none 0 0, .int .i64 s.n] 58)) (w.heap.size + 1) 58 #[.map (some w.heap.size), .slice none 0 0, .int .i64 s.n] := by
    have := Blk.new (w.alloc (.map #[] 0)) 58 #[.map (some w.heap.size), .slice none 0 0, .int .i64 s.n]
    rwa [show (w.alloc (.map #[] 0)).heap.size = w.heap.size + 1 by simp] at this
  have ht : ∀ x, (part s left 0).t x = none := fun x => by
    show (if left x then none else s.t x) = none
    cases h : left x with
    | true => rfl
    | false =>
      cases hs : s.t x with
      | none => rfl
      | some m => have := hl x (by rw [hs]; rfl); rw [h] at this; cases this
  refine ⟨fun g l hg => ?_, fun g l hg => ?_, hp, hb, World.ownsRow_nil _ _ _ _, ?_, ?_, by simp [part], fun _ _ => rfl, (fun x m h => by rw [ht x] at h; cases h), (fun i k h => by simp [part] at h), (fun x h => by cases h), fun g hg => ?_⟩
  · unfold lab0 at hg
    split at hg
    · rename_i h; simp; omega
    · cases hg
  · unfold lab0 at hg
    split at hg
    · rename_i h; simpa using h
    · cases hg
  · simp [lab0]
  · simp [lab0]
  · simp at hg ⊢; omega
/-- How many of ks are to come. -/
def cntL (ks : List Int) (left : Int → Bool) : Nat := (ks.filter left).length
theorem cntL_step {ks : List Int} {left : Int → Bool} {x : Int} (hx : x ∈ ks) (hl : left x = true) : cntL ks (fun y => left y && !decide (y = x)) + 1 ≤ cntL ks left := by
  unfold cntL
  induction ks with
  | nil => cases hx
  | cons y r ih =>
    have hmono : ∀ r : List Int, (r.filter (fun y => left y && !decide (y = x))).length ≤ (r.filter left).length := fun r => by
      induction r with
      | nil => exact Nat.le_refl _
      | cons z t ih =>
        simp only [List.filter_cons]
        cases h1 : left z with
        | true =>
          by_cases h2 : z = x
          · simp [h2]; omega
          · simp [h2]; omega
        | false => simp; omega
    by_cases h : y = x
    · subst h
      have := hmono r
      simp only [List.filter_cons, hl]
      simp
      omega
    · have hr : x ∈ r := by
        rcases List.mem_cons.1 hx with h1 | h1
        · exact absurd h1.symm h
        · exact h1
      have := ih hr
      simp only [List.filter_cons]
      cases h1 : left y with
      | true => simp [h]; omega
      | false => simp; omega
theorem cntL_le (ks : List Int) (left : Int → Bool) : cntL ks left ≤ ks.length := List.length_filter_le _ _
/-- The range over the tables under way, with the copy that is being made. -/
structure CU (w : World) (s : Mm) (ks : List Int) (b p' b' ri n : Nat) (q : Int → Option Nat) (left : Int → Bool) (cnt : Nat) (L' : Nat → Option Lb) (F' : List Nat) (nb' : Nat) (q' : Int → Option Nat) (wr : World) : Prop where
  hk : Keeps [] w wr
  hr : PRange wr b ri n q left cnt
  hc : MmAt wr F' p' (part s left 0) L' b' nb' q' none 0 []
  hn : nb' + cntL ks left ≤ ks.length
  hf : ∀ g ∈ F', w.heap.size ≤ g ∧ g ≠ ri
  hl : ∀ x, left x = true → (s.t x).isSome
theorem CU.put {w wr w2 w5 w6 : World} {s : Mm} {ks : List Int} {b p' b' ri n : Nat} {q : Int → Option Nat} {left : Int → Bool} {cnt cnt' : Nat} {L' : Nat → Option Lb} {F' : List Nat} {nb' : Nat} {q' : Int → Option Nat} (I : CU w s ks b p' b' ri n q left cnt L' F' nb' q' wr) {x : Int} {m : Pg} (hx : x ∈ ks) (hl : left x = true) (hm : s.t x = some m) (hb : b < w.heap.size) (hri : w.heap.size ≤ ri) (hr2 : PRange w2 b ri n q (fun y => left y && !decide (y = x)) cnt') (k2 : Keeps [ri] wr w2)
    (k5 : Keeps [] w2 w5) {G : List Nat} {r : Nat} (t5 : TbRep w5 G r m) (f5 : ∀ g ∈ G, w2.heap.size ≤ g) (k6 : Keeps [b'] w5 w6) (m6 : PMap w6 b' (nb' + 1) (updP q' x (some r))) (x1 : -9223372036854775808 ≤ x) (x2 : x ≤ 9223372036854775807) :
    CU w s ks b p' b' ri n q (fun y => left y && !decide (y = x)) cnt' (relab L' G (.tb x)) (G ++ F') (nb' + 1) (updP q' x (some r)) w6 := by
  have hbF := I.hf b' (I.hc.inF _ _ I.hc.lb)
  have hz := k2.size
  have hz1 := I.hk.size
  have hz5 := k5.size
  have hc5 : MmAt w5 F' p' (part s left 0) L' b' nb' q' none 0 [] := (I.hc.keep k2 (fun g l hg h => by
    rw [List.mem_singleton.1 h] at hg
    exact (I.hf ri (I.hc.inF _ _ hg)).2 rfl)).keep k5 (by simp)
  have hGn : ∀ g ∈ G, L' g = none := fun g hg => by
    cases h : L' g with
    | none => rfl
    | some l => have := I.hc.lt g l h; have := f5 g hg; omega
  have hbl := I.hc.lt _ _ I.hc.lb
  have hGb : ∀ g ∈ G, g ∉ [b'] := fun g hg h => by
    rw [List.mem_singleton.1 h] at hg
    have := f5 _ hg
    omega
  have t6 := t5.keep k6 hGb
  have ht : (part s left 0).t x = none := by show (if left x then none else s.t x) = none; rw [if_pos hl]
  have hlay := hc5.lay ht hGn k6 m6 t6 x1 x2
  have e : ({ part s left 0 with t := updT (part s left 0).t x (some m) } : Mm) = part s (fun y => left y && !decide (y = x)) 0 := by
    have e2 : updT (fun x => if left x then none else s.t x) x (some m) = fun y => if (left y && !decide (y = x)) then none else s.t y := by
      funext y
      unfold updT
      by_cases h : y = x
      · subst h; simp [hm]
      · simp [h]
    show Mm.mk (updT (fun x => if left x then none else s.t x) x (some m)) [] s.n 0 = Mm.mk _ [] s.n 0
    rw [e2]
  rw [e] at hlay
  have hrlt := I.hr.lt
  have hst := cntL_step hx hl
  refine ⟨((I.hk.trans k2 (fun g hg => .inr (by rw [List.mem_singleton.1 hg]; exact hri))).trans k5 (by simp)).trans k6 (fun g hg => .inr (by rw [List.mem_singleton.1 hg]; exact hbF.1)), (hr2.keep k5 (by simp) (by simp)).keep k6 (by simp; omega) (by simpa using hbF.2.symm), hlay, by have := I.hn; omega, fun g hg => ?_, fun y hy => ?_⟩
  · rcases List.mem_append.1 hg with h | h
    · have := f5 g h; exact ⟨by omega, by omega⟩
    · exact I.hf g h
  · apply I.hl y
    cases h : left y with
    | true => rfl
    | false => rw [h] at hy; cases hy
end Go.Proofs.Yteognipfnbocpaa
