/- What the walk of ReclaimPicks leans on: the marks. -/
import Derived.Test.YtcikdffahnnbhaaK1
namespace Go.Proofs.Ytcikdffahnnbhaa
open Go.RowKit

theorem g_set {s : Ck} {L : List Fr} {h : Nat} {us nw bf : Int → Int} {N : Nat} {f x : Nat} {v : Fr} (hf : f < L.length) (hL : s = ⟨L.set f v, h, us, nw, bf, N⟩) : s.g x = if x = f then v else L.getD x fr0 := by
  subst hL; exact set_g hf
/-- The marks of the frames that are used. -/
def Mk (s : Ck) (mk : Nat → Bool) (n : Nat) : Prop := s.L.length = n ∧ ∀ f, f < n → ((s.g f).u = true → (s.g f).m = mk f) 
theorem used_out {s : Ck} {f : Int} (h : ¬ (0 ≤ f ∧ f < s.L.length)) : s.has f = false := by unfold Ck.has; simp; omega
theorem gone_out {s : Ck} {f : Int} (h : s.has f = false) : s.gone f = s := by unfold Ck.gone; rw [Ck.used_no h]; rfl
theorem touch_out {s : Ck} {f : Int} (h : s.has f = false) : s.touch f = s := by unfold Ck.touch; rw [Ck.used_no h]; rfl
theorem use_out {s : Ck} {f : Int} (h : s.has f = false) (o : Int) : s.use f o = s := by unfold Ck.use; rw [h]; rfl
theorem gone_g2 {s : Ck} {f : Nat} (hf : f < s.L.length) (x : Nat) : (s.gone (f : Int)).g x = if x = f then (if (s.g f).u then fr0 else s.g f) else s.g x := by
  unfold Ck.gone
  rw [used_g hf]
  cases hu : (s.g f).u with
  | true =>
    simp only [if_true]
    exact set_g hf
  | false =>
    simp only [Bool.false_eq_true, if_false]
    split
    · rename_i e; rw [e]
    · rfl
theorem touch_g {s : Ck} {f : Nat} (hf : f < s.L.length) (x : Nat) : (s.touch (f : Int)).g x = if x = f ∧ (s.g f).u = true then { s.g f with m := true, t := true } else s.g x := by
  unfold Ck.touch
  rw [used_g hf, g_get]
  cases hu : (s.g f).u with
  | true =>
    simp only [if_true, and_true]
    cases ht : (s.g f).t with
    | true =>
      simp only [if_true]
      refine (set_g hf).trans ?_
      split
      · simp
      · rfl
    | false =>
      simp only [Bool.false_eq_true, if_false]
      exact set_g hf
  | false => simp
theorem give_g {s : Ck} {f : Nat} (hf : f < s.L.length) (o : Int) (x : Nat) : (s.give (f : Int) o).g x = if x = f then ⟨true, false, false, o⟩ else s.g x := by
  have hl : f < (s.gone (f : Int)).L.length := by rw [gone_len]; exact hf
  show ((s.gone (f : Int)).L.set f _).getD x fr0 = _
  rw [set_g hl]
  split
  · rfl
  · rename_i e
    have := gone_g2 hf x
    rw [if_neg e] at this
    exact this
theorem use_g {s : Ck} {f : Nat} (hf : f < s.L.length) (o : Int) (x : Nat) : (x ≠ f → (s.use (f : Int) o).g x = s.g x) ∧ ((s.use (f : Int) o).g f).u = true ∧ ((s.use (f : Int) o).g f).m = true := by
  unfold Ck.use
  rw [Ck.has_nat hf, g_get]
  simp only [if_true]
  split
  · have hl : f < (s.give (f : Int) o).L.length := by rw [give_len]; exact hf
    refine ⟨fun hx => ?_, ?_, ?_⟩
    · rw [touch_g hl, if_neg (fun h => hx h.1), give_g hf, if_neg hx]
    · rw [touch_g hl, give_g hf, if_pos rfl]; simp
    · rw [touch_g hl, give_g hf, if_pos rfl]; simp
  · rename_i h
    have hu : (s.g f).u = true := by
      cases hu : (s.g f).u with
      | true => rfl
      | false => rw [hu] at h; simp at h
    refine ⟨fun hx => ?_, ?_, ?_⟩
    · rw [touch_g hf, if_neg (fun h => hx h.1)]
    · rw [touch_g hf, if_pos ⟨rfl, hu⟩]; exact hu
    · rw [touch_g hf, if_pos ⟨rfl, hu⟩]
/-- The first three operations. -/
theorem Mk.op {s : Ck} {mk : Nat → Bool} {n f : Nat} (h : Mk s mk n) (hf : f < n) (d o : Int) (hd : d % 5 < 3) :
    Mk (s.op d f o) (upB mk f (decide (d % 5 = 0) || (decide (d % 5 = 2) && (s.g f).u))) n := by
  obtain ⟨hl, hm⟩ := h
  refine ⟨by rw [op_len]; exact hl, fun x hx => ?_⟩
  have hf' : f < s.L.length := by omega
  have : d % 5 = 0 ∨ d % 5 = 1 ∨ d % 5 = 2 := by omega
  unfold upB
  rcases this with e | e | e
  · have ho : s.op d f o = s.use f o := by unfold Ck.op; rw [if_pos e]
    rw [ho, e]
    obtain ⟨a, b, c⟩ := use_g hf' o x
    by_cases hx' : x = f
    · subst hx'; rw [if_pos rfl]; intro _; rw [c]; rfl
    · rw [a hx', if_neg hx']; exact hm x hx
  · have ho : s.op d f o = s.gone f := by unfold Ck.op; rw [if_neg (by omega), if_pos e]
    rw [ho, e, gone_g2 hf']
    by_cases hx' : x = f
    · subst hx'; rw [if_pos rfl, if_pos rfl]
      cases hu : (s.g x).u <;> simp [fr0, hu]
    · rw [if_neg hx', if_neg hx']; exact hm x hx
  · have ho : s.op d f o = s.touch f := by unfold Ck.op; rw [if_neg (by omega), if_neg (by omega), if_pos e]
    rw [ho, e, touch_g hf']
    by_cases hx' : x = f
    · subst hx'; rw [if_pos rfl]
      cases hu : (s.g x).u <;> simp [hu]
    · rw [if_neg (fun h => hx' h.1), if_neg hx']; exact hm x hx
theorem op_out {s : Ck} {f : Int} (h : s.has f = false) (d o : Int) (hd : d % 5 < 3) : s.op d f o = s := by
  unfold Ck.op
  have : d % 5 = 0 ∨ d % 5 = 1 ∨ d % 5 = 2 := by omega
  rcases this with e | e | e <;> rw [e] <;> simp [use_out h, gone_out h, touch_out h]
theorem own_g {s : Ck} {f : Nat} (hf : f < s.L.length) : s.own (f : Int) = if (s.g f).u then (s.g f).o else 0 := by
  unfold Ck.own; rw [used_g hf, g_get]
/-- Whether one of the first k holds. -/
def exB (f : Nat → Bool) : Nat → Bool
  | 0 => false
  | k + 1 => exB f k || f k
theorem exB_true {f : Nat → Bool} {n : Nat} : exB f n = true ↔ ∃ x, x < n ∧ f x = true := by
  induction n with
  | zero => simp [exB]
  | succ n ih =>
    unfold exB
    rw [Bool.or_eq_true, ih]
    constructor
    · rintro (⟨x, h1, h2⟩ | h)
      · exact ⟨x, by omega, h2⟩
      · exact ⟨n, by omega, h⟩
    · rintro ⟨x, h1, h2⟩
      by_cases e : x = n
      · subst e; exact .inr h2
      · exact .inl ⟨x, by omega, h2⟩
theorem L1_g {s : Ck} (h : s.h < s.L.length) (x : Nat) : s.L1.getD x fr0 = if x = s.h then { s.g s.h with m := false } else s.g x := set_g h
theorem map_getD (L : List Fr) (x : Nat) (h : x < L.length) : (L.map untouch).getD x fr0 = untouch (L.getD x fr0) := by simp [List.getD, h]
theorem pass_m {s : Ck} (h : s.h < s.L.length) {x : Nat} (hx : x < s.L.length) : (s.pass.g x).m = (!decide (x = s.h) && (s.g x).m) := by
  unfold Ck.pass
  split
  · show (s.L1.getD x fr0).m = _
    rw [L1_g h]
    split
    · rename_i e; simp [e]
    · rename_i e; simp [e]
  · show ((s.L1.map untouch).getD x fr0).m = _
    rw [map_getD _ _ (by rw [L1_len]; exact hx), L1_g h]
    split
    · rename_i e; simp [e, untouch]
    · rename_i e; simp [e, untouch]
theorem dist_uniq {s : Ck} {k x : Nat} (h : s.h < s.L.length) (hk : k < s.L.length) (hx : x < s.L.length) : x = (s.h + k) % s.L.length ↔ s.dist x = k := by
  have key : ∀ y, y < 2 * s.L.length → y % s.L.length = if y < s.L.length then y else y - s.L.length := by
    intro y hy
    split
    · exact Nat.mod_eq_of_lt (by assumption)
    · rw [Nat.mod_eq_sub_mod (by omega), Nat.mod_eq_of_lt (by omega)]
  unfold Ck.dist
  rw [key _ (by omega), key _ (by omega)]
  split <;> split <;> omega
theorem passN_m {s : Ck} (h : s.h < s.L.length) {x : Nat} (hx : x < s.L.length) (k : Nat) (hk : k ≤ s.L.length) : ((s.passN k).g x).m = (!decide (s.dist x < k) && (s.g x).m) := by
  induction k with
  | zero => simp [Ck.passN]
  | succ k ih =>
    have hh := passN_h h k
    have hl := passN_len s k
    show ((s.passN k).pass.g x).m = _
    rw [pass_m (by rw [hh, hl]; exact Nat.mod_lt _ (by omega)) (by rw [hl]; exact hx), ih (by omega), hh]
    have := dist_uniq h (k := k) (by omega) hx
    by_cases e : s.dist x = k
    · rw [decide_eq_true (this.2 e)]; simp [e]
    · rw [decide_eq_false (fun h => e (this.1 h))]
      rw [decide_eq_decide.2 (show s.dist x < k + 1 ↔ s.dist x < k by omega)]; rfl
/-- What a Pick leaves of the marks, and where the hand stands. -/
theorem picked_m {s : Ck} (h : s.h < s.L.length) {f : Nat} (hv : s.victim.2 = true) (hv1 : s.victim.1 = f) {x : Nat} (hx : x < s.L.length) :
    (s.picked.g x).m = ((s.g x).m && !((s.g f).m || decide (s.dist x ≤ s.dist f))) := by
  have e : s.picked = (s.round f).passN ((s.round f).dist f + 1) := by
    unfold Ck.picked Ck.take
    rw [if_pos hv, hv1]; rfl
  rw [e]
  cases hm : (s.g f).m with
  | true =>
    have er : s.round f = s.passN s.L.length := by unfold Ck.round; exact if_pos hm
    have hh : (s.round f).h = s.h := by rw [er, passN_h h, Nat.add_mod_right, Nat.mod_eq_of_lt h]
    have hl : (s.round f).L.length = s.L.length := by rw [er, passN_len]
    have hd := dist_lt (s := s.round f) (by rw [hh, hl]; exact h) f
    rw [passN_m (by rw [hh, hl]; exact h) (by rw [hl]; exact hx) _ (by omega), er, passN_m h hx _ (Nat.le_refl _), decide_eq_true (dist_lt h x)]
    simp
  | false =>
    have er : s.round f = s := by unfold Ck.round; exact if_neg (by rw [show (s.L.getD f fr0).m = false from hm]; simp)
    have hd := dist_lt h f
    rw [er, passN_m h hx _ (by omega), Bool.and_comm, Bool.false_or, decide_eq_decide.2 (show s.dist x < s.dist f + 1 ↔ s.dist x ≤ s.dist f by omega)]
theorem picked_h {s : Ck} (h : s.h < s.L.length) {f : Nat} (hf : f < s.L.length) (hv : s.victim.2 = true) (hv1 : s.victim.1 = f) : s.picked.h = (f + 1) % s.L.length := by
  have e : s.picked = (s.round f).passN ((s.round f).dist f + 1) := by
    unfold Ck.picked Ck.take
    rw [if_pos hv, hv1]; rfl
  have hl : (s.round f).L.length = s.L.length := by unfold Ck.round; split; · rw [passN_len]
                                                    · rfl
  have hh : (s.round f).h < (s.round f).L.length := by
    unfold Ck.round; split
    · rw [passN_len, passN_h h]; exact Nat.mod_lt _ (by omega)
    · exact h
  rw [e]
  show ((s.round f).passN ((s.round f).dist f)).pass.h = _
  have h1 := passN_h hh ((s.round f).dist f)
  rw [dist_at hh (by omega)] at h1
  rw [pass_h (by rw [h1, passN_len]; omega), h1, passN_len, hl]
theorem dist_int {s : Ck} (h : s.h < s.L.length) {f : Nat} : ((f : Int) - s.h) % s.L.length = s.dist f := by
  unfold Ck.dist
  rw [Int.natCast_emod, Int.ofNat_sub (by omega), Int.natCast_add, show ((f : Int) + s.L.length - s.h) = (f - s.h) + s.L.length by omega, Int.add_emod_right]
/-- The marks after a Pick, as the law turns them. -/
def mkP (s : Ck) (mk : Nat → Bool) (f k : Nat) : Nat → Bool := fun x => mk x && !(decide (s.dist x < k) && (mk f || decide (s.dist x ≤ s.dist f)))
theorem mkP_zero (s : Ck) (mk : Nat → Bool) (f : Nat) : mkP s mk f 0 = mk := by funext x; simp [mkP]
theorem mkP_on {s : Ck} {mk : Nat → Bool} {f k : Nat} (h : s.h < s.L.length) (hk : k < s.L.length) (ha : mk f = true ∨ k ≤ s.dist f) {x : Nat} (hx : x < s.L.length) :
    upB (mkP s mk f k) ((s.h + k) % s.L.length) false x = mkP s mk f (k + 1) x := by
  have := dist_uniq h hk hx
  unfold upB
  by_cases e : x = (s.h + k) % s.L.length
  · rw [if_pos e]
    have e2 := this.1 e
    unfold mkP
    rw [e2]
    rcases ha with ha | ha
    · simp [ha]
    · simp [ha]
  · rw [if_neg e]
    have e2 : s.dist x ≠ k := fun h => e (this.2 h)
    unfold mkP
    rw [decide_eq_decide.2 (show s.dist x < k + 1 ↔ s.dist x < k by omega)]
theorem mkP_off {s : Ck} {mk : Nat → Bool} {f k : Nat} (ha : mk f = false) (hk : ¬ k ≤ s.dist f) (x : Nat) : mkP s mk f k x = mkP s mk f (k + 1) x := by
  unfold mkP
  rw [ha]
  by_cases e : s.dist x ≤ s.dist f
  · rw [decide_eq_decide.2 (show s.dist x < k + 1 ↔ s.dist x < k by omega)]
  · simp [e]
theorem Mk.picked {s : Ck} {mk : Nat → Bool} {n f : Nat} (h : Mk s mk n) (hh : s.h < n) (hf : f < n) (hu : (s.g f).u = true) (hv : s.victim.2 = true) (hv1 : s.victim.1 = f) : Mk s.picked (mkP s mk f n) n := by
  obtain ⟨hl, hm⟩ := h
  subst hl
  refine ⟨picked_len s, fun x hx hxu => ?_⟩
  rw [picked_u] at hxu
  rw [picked_m hh hv hv1 hx, hm x hx hxu, hm f hf hu]
  unfold mkP
  rw [decide_eq_true (dist_lt hh x)]; simp
theorem Mk.gone {s : Ck} {mk : Nat → Bool} {n f : Nat} (h : Mk s mk n) (hf : f < n) : Mk (s.gone (f : Int)) (upB mk f false) n := by
  obtain ⟨hl, hm⟩ := h
  subst hl
  refine ⟨gone_len s f, fun x hx hxu => ?_⟩
  rw [gone_g2 hf] at hxu ⊢
  unfold upB
  by_cases e : x = f
  · subst e
    rw [if_pos rfl] at hxu
    exfalso
    revert hxu
    cases hu : (s.g x).u <;> simp [fr0, hu]
  · rw [if_neg e] at hxu ⊢; rw [if_neg e]; exact hm x hx hxu
theorem ck_or {w : World} {F : List Nat} {p : Nat} {s : Ck} (h : CkRep w F p s) (i : Nat) (hi : i < s.L.length) : -9223372036854775808 ≤ (s.g i).o ∧ (s.g i).o ≤ 9223372036854775807 := by
  obtain ⟨_, _, _, _, _, h⟩ := h
  have := h.ro i hi
  unfold Ck.g
  simpa [List.getD, hi] using this
/-- What the law asks of a Pick. -/
theorem pick_facts {s : Ck} {mk : Nat → Bool} {n : Nat} {FR OV AN : Nat → Bool} (h : Mk s mk n) (hh : s.h < n) (hF : FR = fun x => (s.g x).u && !mk x) (hO : OV = fun x => (s.g x).u && !mk x && s.over (s.g x).o) (hA : AN = fun x => (s.g x).u) :
    (s.victim.2 = exB AN n) ∧ (s.victim.2 = true → ∃ f, f < n ∧ s.victim.1 = (f : Int) ∧ s.pickF = (f : Int) ∧ (s.g f).u = true ∧ (mk f = true → exB FR n = false) ∧ (exB OV n = true → s.over (s.g f).o = true) ∧ s.picked.h = (f + 1) % n ∧ Mk s.picked (mkP s mk f n) n) := by
  have hk := h
  obtain ⟨hl, hm⟩ := h
  subst hl hF hO hA
  constructor
  · cases hv : s.victim.2 with
    | false =>
      cases he : exB (fun x => (s.g x).u) s.L.length with
      | false => rfl
      | true =>
        obtain ⟨x, h1, h2⟩ := exB_true.1 he
        rw [Ck.victim_no hh hv h1] at h2
        exact h2
    | true =>
      obtain ⟨f, h1, h2, h3, -⟩ := Ck.victim_ok hh hv
      exact (exB_true.2 ⟨f, h1, h3⟩).symm
  · intro hv
    obtain ⟨f, h1, h2, h3, h4, h5⟩ := Ck.victim_ok hh hv
    refine ⟨f, h1, h2, by unfold Ck.pickF; rw [hv, h2]; rfl, h3, fun hmf => ?_, fun ho => ?_, picked_h hh h1 hv h2, hk.picked hh h1 h3 hv h2⟩
    · cases he : exB (fun x => (s.g x).u && !mk x) s.L.length with
      | false => rfl
      | true =>
        obtain ⟨x, a, b⟩ := exB_true.1 he
        simp only [Bool.and_eq_true, Bool.not_eq_true'] at b
        have := h4 (by rw [hm f h1 h3]; exact hmf) x a b.1
        rw [hm x a b.1, b.2] at this
        exact this.symm
    · obtain ⟨x, a, b⟩ := exB_true.1 ho
      simp only [Bool.and_eq_true, Bool.not_eq_true'] at b
      exact (h5 x a b.1.1 (by rw [hm x a b.1.1]; exact b.1.2) b.2).1
end Go.Proofs.Ytcikdffahnnbhaa
