/- Texts of the elder seat, turned to this one: W22 W23 W24 W25. -/
import Derived.Test.YtcopjjokhjealaaGreatP1
import Derived.Test.YtcopjjokhjealaaGreatSrt
namespace Go.Proofs.YtcopjjokhjealaaGreat
open Go.RowKit

theorem LsAt.some_iff {w : World} {f : Int → Option LnV} {s : Int → Option Ln} (h : LsAt w f s) (x : Int) : (f x).isSome = true ↔ (s x).isSome = true := by
  rcases h x with ⟨h1, h2⟩ | ⟨v, n, h1, h2, _⟩
  · rw [h1, h2]; simp
  · rw [h1, h2]; simp
theorem LsAt.get {w : World} {f : Int → Option LnV} {s : Int → Option Ln} (h : LsAt w f s) {x : Int} {v : LnV} (hx : f x = some v) : ∃ n, s x = some n ∧ LnAt w x v n := by
  rcases h x with ⟨h1, h2⟩ | ⟨v', n, h1, h2, h3⟩
  · rw [h1] at hx; cases hx
  · rw [h1] at hx
    injection hx with hx
    subst hx
    exact ⟨n, h2, h3⟩
theorem kI_in {x : Int} (h : kI.ok x) : -9223372036854775808 ≤ x ∧ x ≤ 9223372036854775807 := by
  have h1 := KeyS.of h
  have e : kI.val x = .int .i64 x := rfl
  rw [e] at h1
  generalize kI.lit x = l at h1
  obtain ⟨y, hy, hl, hw⟩ := Maps.keyOf_int_inv Tryz.underlying3 h1
  simp only [Value.int.injEq, true_and] at hy
  subst hy
  simp [Lit.wf, IntKind.min, IntKind.max, IntKind.signed, IntKind.bits] at hw
  omega
/-- The ids told so far. -/
structure WiAt (s : Pl) (t : Int) (L : List Int) (left : Int → Prop) : Prop where
  nd : L.Nodup
  mem : ∀ x, kI.ok x → (x ∈ L ↔ ¬ left x ∧ 0 < x ∧ ∃ n, s.ln x = some n ∧ n.par = t)
  ok : ∀ x ∈ L, kI.ok x
theorem WiAt.skip {s : Pl} {t : Int} {L : List Int} {left : Int → Prop} (h : WiAt s t L left) {x : Int} {n : Ln} (hx : s.ln x = some n) (hn : ¬ (n.par = t ∧ 0 < x)) : WiAt s t L (fun y => left y ∧ y ≠ x) := by
  refine ⟨h.nd, fun y hy => ?_, h.ok⟩
  rw [h.mem y hy]
  constructor
  · rintro ⟨h1, h2⟩
    exact ⟨fun hh => h1 hh.1, h2⟩
  · rintro ⟨h1, h2, n', h3, h4⟩
    refine ⟨fun hl => h1 ⟨hl, fun e => ?_⟩, h2, n', h3, h4⟩
    subst e
    rw [hx] at h3
    injection h3 with h3
    subst h3
    exact hn ⟨h4, h2⟩
theorem WiAt.put {s : Pl} {t : Int} {L : List Int} {left : Int → Prop} (h : WiAt s t L left) {x : Int} {n : Ln} (hx : s.ln x = some n) (hn : n.par = t) (h0 : 0 < x) (hl : left x) (hok : kI.ok x) : WiAt s t (L ++ [x]) (fun y => left y ∧ y ≠ x) := by
  have hxL : x ∉ L := fun hh => ((h.mem x hok).1 hh).1 hl
  refine ⟨?_, fun y hy => ?_, fun y hy => ?_⟩
  · rw [List.nodup_append]
    exact ⟨h.nd, by simp, fun a ha b hb e => hxL (by simp at hb; rw [← hb, ← e]; exact ha)⟩
  · rw [List.mem_append, h.mem y hy, List.mem_singleton]
    constructor
    · rintro (⟨h1, h2⟩ | rfl)
      · exact ⟨fun hh => h1 hh.1, h2⟩
      · exact ⟨fun hh => hh.2 rfl, h0, n, hx, hn⟩
    · rintro ⟨h1, h2⟩
      by_cases e : y = x
      · exact .inr e
      · exact .inl ⟨fun hh => h1 ⟨hh, e⟩, h2⟩
  · rcases List.mem_append.1 hy with hy | hy
    · exact h.ok y hy
    · rw [List.mem_singleton.1 hy]; exact hok
theorem WiAt.end_ {s : Pl} {t : Int} {L : List Int} {left : Int → Prop} (h : WiAt s t L left) (hl : ∀ x, kI.ok x → ¬ left x) (hs : ∀ x n, s.ln x = some n → kI.ok x) : IsW s t (srt L) := by
  obtain ⟨h1, h2⟩ := asc_sorted h.nd
  refine ⟨h1, fun x => ?_⟩
  rw [h2]
  constructor
  · intro hx
    exact ((h.mem x (h.ok x hx)).1 hx).2
  · rintro ⟨h3, n, h4, h5⟩
    exact (h.mem x (hs x n h4)).2 ⟨hl x (hs x n h4), h3, n, h4, h5⟩
set_option maxRecDepth 100000 in
set_option maxHeartbeats 3200000 in
theorem within_any (w : World) (F : List Nat) (p : Nat) (s : Pl) (lm cm nl nc : Nat) (A : Option Addr) (c : Nat) (f : Int → Option LnV) (h : PlAt w F p s lm cm nl nc A c f) (hnl : nl ≤ 1000) (hs : ∀ x n, s.ln x = some n → kI.ok x) (t : Int) :
    Calls Tryz.prog 50 #[.pointer (some ⟨p, 0, none⟩), .int .i64 t] w fun e w' => ∃ v ids, e = .returned v ∧ IsW s t ids ∧ w'.ownsRow 0 3 1 v ids.length (zs ids) ∧ Keeps [] w w' ∧ (∀ g ∈ fp v, w.heap.size ≤ g) ∧ ids.length ≤ 1000 := by
  have f0 : w.cell? ⟨p, 0, none⟩ = some (.map (some lm)) := h.b.cell 0
  have HM := Lib.hid h.ml
  have HLS := Lib.hid h.ls
  have HS := Lib.hid hs
  have hlml := h.ml.lt
  have HI := Lib.hid info3
  clear h hs
  go_enter Tryz.func50, Tryz.ntmps50
  go_wp2_with (at_range; refine wpList_rangeG rfl _ _ rfl Tryz.underlying57 rfl HM.out ?_; intro w1 cnt0 hc0 hr0 k0 hz0)
  go_frame
  have HR0 := Lib.hid hr0
  have K0 := Lib.hid k0
  have hnr : w.heap.size ≠ lm := by omega
  clear hr0 k0 HM
  go_loopw [5] (fun v wr => ∃ (L : List Int) (left : Int → Prop) (cnt : Nat), wr.ownsRow 0 3 1 v L.length (zs L) ∧ WiAt s t L left ∧ GRng kI eL wr lm w.heap.size nl f left cnt ∧ Keeps [] w wr ∧ (∀ g ∈ fp v, w.heap.size < g) ∧ L.length + cnt ≤ nl) (fun _ wr => wr.rangeLeft lm w.heap.size)
  case atStart => exact ⟨[], _, cnt0, World.ownsRow_nil _ _ _ _, ⟨List.nodup_nil, fun x hx => ⟨fun h => (by cases h), fun ⟨h1, h2, n, h3, h4⟩ => absurd ((HLS.out.some_iff x).2 (by rw [h3]; rfl)) h1⟩, fun x hx => by cases hx⟩, HR0.out, K0.out, by simp, by simpa using hc0⟩
  case round =>
    obtain ⟨L, left, cnt, ho, hw, hr, kp, hf, hlen⟩ := hrel
    have HO := Lib.hid ho
    have HW := Lib.hid hw
    have HR := Lib.hid hr
    have KP := Lib.hid kp
    have HF := Lib.hid hf
    have hle := hr.left_eq
    obtain ⟨A1, c1, rfl, -, -, -⟩ := own_shape ho
    clear ho hw hr kp hf HR0 K0
    go_wp2_with (at_next; refine wpList_nextG rfl _ rfl rfl HR.out ?_ ?_)
    · intro hdone
      have HE := Lib.hid (HW.out.end_ hdone HS.out)
      clear hdone
      go_wp2_with fail
      refine (sortI_any _ _ L HO.out (by omega)).mono ?_
      rintro e w3 ⟨rfl, o3, k3⟩
      have O3 := Lib.hid o3
      have K3 : Hid (Keeps [] w w3) := Lib.hid (KP.out.trans k3 (fun g hg => .inr (Nat.le_of_lt (HF.out g hg))))
      clear o3 k3
      go_wp2_with fail
      go_ret
      refine ⟨_, srt L, rfl, HE.out, ?_, K3.out, fun g hg => Nat.le_of_lt (HF.out g hg), by rw [srt_len]; omega⟩
      have := O3.out
      rw [srt_len] at this ⊢
      exact this
    · intro x v w2 cnt' hok hfx hlx hr2 hlt k2 hz2 hen
      obtain ⟨n, hn, e1, e2, e3, e4, e5⟩ := HLS.out.get hfx
      have hen' : (Instr.entry (.pointer (some ⟨w.heap.size, 0, none⟩))).run Tryz.prog w2 = .ok (.tuple #[.int .i64 x, .agg #[.int .i64 v.id, .int .i64 v.par, .int .i64 v.pid, .slice (v.b.map fun g => ⟨g, 0, none⟩) v.n v.c]]) w2 := hen
      obtain ⟨Ai, hAi⟩ : ∃ Ai, (v.b.map fun g => (⟨g, 0, none⟩ : Addr)) = Ai := ⟨_, rfl⟩
      rw [hAi, e1, e2] at hen'
      have hkl := hr2.left_eq
      have KW : Hid (Keeps [] w w2) := Lib.hid (KP.out.trans k2 (fun g hg => .inr (by simp at hg; omega)))
      have HO2 : Hid (w2.ownsRow 0 3 1 (.slice A1 L.length c1) L.length (zs L)) := Lib.hid (own_keep HO.out k2 (fun g hg hg2 => by have := HF.out g hg; simp at hg2; omega))
      have HR2 := Lib.hid hr2
      have HN := Lib.hid hn
      have HOK := Lib.hid hok
      have HLX := Lib.hid hlx
      obtain ⟨np, hnp⟩ : ∃ np, n.par = np := ⟨_, rfl⟩
      rw [hnp] at hen'
      have HNP := Lib.hid hnp
      clear hen hr2 hn hok hlx hAi e1 e2 e3 e4 e5 k2 HO KP HR hfx hnp hz2
      have sk : Hid (¬ (np = t ∧ 0 < x) → WiAt s t L (fun y => left y ∧ y ≠ x)) := Lib.hid (fun h => HW.out.skip HN.out (by rw [HNP.out]; exact h))
      have KA : Hid (Keeps [] w2 (w2.alloc (.cells #[.int .i64 x, .int .i64 np, .int .i64 v.pid, .slice Ai v.n v.c] 56))) := Lib.hid ((Keeps.refl [] w2).alloc _)
      by_cases hp : np = t
      · subst hp
        by_cases h0 : 0 < x
        · have HP := Lib.hid (HW.out.put HN.out HNP.out h0 HLX.out HOK.out)
          have HO3 : Hid (((w2.alloc (.cells #[.int .i64 x, .int .i64 np, .int .i64 v.pid, .slice Ai v.n v.c] 56)).alloc (.cells #[.int .i64 x] 3)).ownsRow 0 3 1 (.slice A1 L.length c1) L.length (zs L)) := Lib.hid (own_keep HO2.out (KA.out.alloc _) (by simp))
          have HRD : Hid (Reads ((w2.alloc (.cells #[.int .i64 x, .int .i64 np, .int .i64 v.pid, .slice Ai v.n v.c] 56)).alloc (.cells #[.int .i64 x] 3)) (w2.heap.size + 2) 1 (some ⟨w2.heap.size + 1, 0, none⟩) 1 [.int .i64 x]) := Lib.hid (by
            have h := reads_one (w2.alloc (.cells #[.int .i64 x, .int .i64 np, .int .i64 v.pid, .slice Ai v.n v.c] 56)) (.int .i64 x) 3
            rw [show (w2.alloc (.cells #[.int .i64 x, .int .i64 np, .int .i64 v.pid, .slice Ai v.n v.c] 56)).heap.size = w2.heap.size + 1 by simp] at h
            exact h)
          clear HN HNP sk HW
          go_wp2_with (at_builtin; refine wpList_app _ rfl (.tmp 26) (.tmp 28) _ rfl 3 (.int .i64 0) 1 8 Tryz.underlying22 HI.out rfl (by omega) (.slice A1 L.length c1) _ _ rfl HO3.out _ _ _ _ [.int .i64 x] rfl HRD.out (by simp [Value.oneCell']) (by unfold maxLen; omega) (by omega) ?_)
          intro v6 w6 o6 k6 f6
          have KX : Hid (Keeps (fp (.slice A1 L.length c1)) w2 w6) := Lib.hid (((KA.out.alloc _).mono (by simp)).trans k6 (fun g hg => .inl hg))
          have HR6 : Hid (GRng kI eL w6 lm w.heap.size nl f (fun y => left y ∧ y ≠ x) cnt') := Lib.hid (HR2.out.keep KX.out (fun hg => by have := HF.out _ hg; omega) (fun hg => by have := HF.out _ hg; omega))
          have K6 : Hid (Keeps [] w w6) := Lib.hid (KW.out.trans KX.out (fun g hg => .inr (Nat.le_of_lt (HF.out g hg))))
          have hz6 := KW.out.size
          have F6 : Hid (∀ g ∈ fp v6, w.heap.size < g) := Lib.hid (fun g hg => (f6 g hg).elim (HF.out g) (fun h => by
            have h1 : w2.heap.size + 2 ≤ g := by simpa using h
            omega))
          have O6 : Hid (w6.ownsRow 0 3 1 v6 (L ++ [x]).length (zs (L ++ [x]))) := Lib.hid (by
            rw [List.length_append]; unfold zs; rw [List.map_append]; exact o6)
          have hl6 : (L ++ [x]).length + cnt' ≤ nl := by rw [List.length_append]; simp only [List.length_cons, List.length_nil]; omega
          have hle6 := HR6.out.left_eq
          clear o6 k6 f6 KX HO3 HO2 HR2
          go_wp2_with fail
          go_roundw
          case rel => exact ⟨_, _, cnt', O6.out, HP.out, HR6.out, K6.out, F6.out, hl6⟩
          case measure => rw [hle6, hle]; omega
        · have HP := Lib.hid (sk.out (fun h => h0 h.2))
          have HO3 := Lib.hid (own_keep HO2.out KA.out (by simp))
          have HR3 := Lib.hid (HR2.out.keep KA.out (by simp) (by simp))
          have K3 := Lib.hid (KW.out.trans KA.out (by simp))
          have hle3 := HR3.out.left_eq
          clear HN HNP sk HW HO2 HR2 KW
          go_wp2_with fail
          go_roundw
          case rel => exact ⟨_, _, cnt', HO3.out, HP.out, HR3.out, K3.out, HF.out, by omega⟩
          case measure => rw [hle3, hle]; omega
      · have HP := Lib.hid (sk.out (fun h => hp h.1))
        have HO3 := Lib.hid (own_keep HO2.out KA.out (by simp))
        have HR3 := Lib.hid (HR2.out.keep KA.out (by simp) (by simp))
        have K3 := Lib.hid (KW.out.trans KA.out (by simp))
        have hle3 := HR3.out.left_eq
        clear HN HNP sk HW HO2 HR2 KW
        go_wp2_with fail
        go_roundw
        case rel => exact ⟨_, _, cnt', HO3.out, HP.out, HR3.out, K3.out, HF.out, by omega⟩
        case measure => rw [hle3, hle]; omega
end Go.Proofs.YtcopjjokhjealaaGreat
namespace Go.Proofs.YtcopjjokhjealaaGreat
open Go.RowKit

theorem GMap.congr {kt : TypeId} {κ V : Type} {S : KeyS kt κ} {E : ElS V} {w : World} {b n : Nat} {f f' : κ → Option V} (h : GMap S E w b n f) (he : ∀ x, S.ok x → f x = f' x) : GMap S E w b n f' := by
  obtain ⟨D, h1, h2⟩ := h
  exact ⟨D, h1, fun x hx z => by rw [h2 x hx z, he x hx]⟩
set_option maxRecDepth 100000 in
set_option maxHeartbeats 3200000 in
theorem cut2_any (w : World) (x : Int × Int) (c : Ct) (b : Nat) (id : Int) (h : w.cell? ⟨b, 0, none⟩ = some (.int .i64 id)) :
    Calls Tryz.prog 78 #[.agg #[.int .i64 x.1, .int .i64 x.2], .agg #[.int .i64 c.l, .int .i64 c.i, .int .i64 c.runs, .int .i64 c.com, .int .i64 c.con, .int .i64 c.drp, .int .i64 c.str], .pointer (some ⟨b, 0, none⟩)] w fun e w' =>
      e = .returned (.bool (decide (x.1 = id))) ∧ Keeps [] w w' := by
  have n1 := lt_of_cell h
  go_enter Tryz.func78, Tryz.ntmps78
  go_wp2_with fail
  go_ret
  exact ⟨ret_bool (by rfl), ((Keeps.refl [] w).alloc _).alloc _⟩
/-- What has gone so far. -/
def DfAt (g : Int × Int → Option Ct) (id : Int) (f : Int × Int → Option Ct) (left : Int × Int → Prop) : Prop := ∀ k, kP.ok k → (k.1 = id → ¬ left k → f k = none) ∧ ((k.1 ≠ id ∨ left k) → f k = g k)
set_option maxRecDepth 100000 in
set_option maxHeartbeats 3200000 in
theorem delF_any (w : World) (cm nc : Nat) (g : Int × Int → Option Ct) (b : Nat) (id : Int) (hm : GMap kP eC w cm nc g) (hb : w.cell? ⟨b, 0, none⟩ = some (.int .i64 id)) (hne : b ≠ cm) :
    Calls Tryz.prog 77 #[.map (some cm), .func (.func 78) #[] #[.pointer (some ⟨b, 0, none⟩)]] w fun e w' =>
      e = .returned (.tuple #[]) ∧ GMap kP eC w' cm nc (fun k => if k.1 = id then none else g k) ∧ Keeps [cm] w w' := by
  have HM := Lib.hid hm
  have hcl := hm.lt
  have hbl := lt_of_cell hb
  have HB := Lib.hid hb
  clear hm hb
  go_enter Tryz.func77, Tryz.ntmps77
  go_wp2_with (at_range; refine wpList_rangeG rfl _ _ rfl Tryz.underlying59 rfl HM.out ?_; intro w1 cnt0 hc0 hr0 k0 hz0)
  go_frame
  have HR0 := Lib.hid hr0
  have K0 := Lib.hid k0
  have hnr : w.heap.size ≠ cm := by omega
  clear hr0 k0 HM
  go_loopw [4] (fun _ wr => ∃ (f : Int × Int → Option Ct) (left : Int × Int → Prop) (cnt : Nat), GRng kP eC wr cm w.heap.size nc f left cnt ∧ DfAt g id f left ∧ Keeps [cm] w wr) (fun _ wr => wr.rangeLeft cm w.heap.size)
  case atStart =>
    refine ⟨g, _, cnt0, HR0.out, fun k hk => ⟨fun _ h2 => ?_, fun _ => rfl⟩, K0.out.mono (by simp)⟩
    cases hg : g k with
    | none => rfl
    | some v => simp [hg] at h2
  case round =>
    obtain ⟨f, left, cnt, hr, hf, kp⟩ := hrel
    have HR := Lib.hid hr
    have HF := Lib.hid hf
    have KP := Lib.hid kp
    have hle := hr.left_eq
    clear hr hf kp HR0 K0
    go_wp2_with (at_next; refine wpList_nextG rfl _ rfl rfl HR.out ?_ ?_)
    · intro hdone
      have FIN : Hid (GMap kP eC wr cm nc (fun k => if k.1 = id then none else g k)) := Lib.hid (HR.out.map.congr (fun k hk => by
        by_cases e : k.1 = id
        · rw [if_pos e]; exact (HF.out k hk).1 e (hdone k.1 k.2 hk)
        · rw [if_neg e]; exact (HF.out k hk).2 (.inl e)))
      clear hdone
      go_wp2_with fail
      go_end0
      exact ⟨rfl, FIN.out, KP.out⟩
    · intro x1 x2 v w2 cnt' hok hfx hlx hr2 hlt k2 hz2 hen
      have hen' : (Instr.entry (.pointer (some ⟨w.heap.size, 0, none⟩))).run Tryz.prog w2 = .ok (.tuple #[.agg #[.int .i64 x1, .int .i64 x2], .agg #[.int .i64 v.l, .int .i64 v.i, .int .i64 v.runs, .int .i64 v.com, .int .i64 v.con, .int .i64 v.drp, .int .i64 v.str]]) w2 := hen
      have KW : Hid (Keeps [cm] w w2) := Lib.hid (KP.out.trans k2 (fun g hg => .inr (by simp at hg; omega)))
      have HR2 := Lib.hid hr2
      have HOK := Lib.hid hok
      have KA : Hid (Keeps [] w2 ((w2.alloc (.cells #[.int .i64 x1, .int .i64 x2] 104)).alloc (.cells #[.int .i64 v.l, .int .i64 v.i, .int .i64 v.runs, .int .i64 v.com, .int .i64 v.con, .int .i64 v.drp, .int .i64 v.str] 84))) := Lib.hid (((Keeps.refl [] w2).alloc _).alloc _)
      have KB : Hid (Blk (w2.alloc (.cells #[.int .i64 x1, .int .i64 x2] 104)) w2.heap.size 104 #[.int .i64 x1, .int .i64 x2]) := Lib.hid (Blk.new _ _ _)
      clear hen hr2 hok k2 HR hlx hz2
      have cb : Hid (w2.cell? ⟨b, 0, none⟩ = some (.int .i64 id)) := Lib.hid ((KW.out.cell (p := ⟨b, 0, none⟩) hbl (by simpa using hne)).trans HB.out)
      have hb2 : b < w2.heap.size := Nat.lt_of_lt_of_le hbl KW.out.size
      have hc2 : cm < w2.heap.size := Nat.lt_of_lt_of_le hcl KW.out.size
      have hr2 : w.heap.size < w2.heap.size := HR2.out.lt
      have F2 : Hid (∀ (f' : Int × Int → Option Ct) (left' : Int × Int → Prop), ((x1 = id ∧ (∀ y, f' y = if y = (x1, x2) then none else f y)) ∨ (x1 ≠ id ∧ f' = f)) → (∀ y, left' y ↔ (left y ∧ y ≠ (x1, x2))) → DfAt g id f' left') := Lib.hid (fun f' left' h1 h2 k hk => by
        obtain ⟨a, b⟩ := HF.out k hk
        rcases h1 with ⟨h1, h3⟩ | ⟨h1, rfl⟩
        · rw [h3]
          by_cases e : k = (x1, x2)
          · rw [if_pos e]
            refine ⟨fun _ _ => rfl, fun h => ?_⟩
            rcases h with h | h
            · exact absurd (by rw [e]; exact h1) h
            · exact absurd e ((h2 k).1 h).2
          · rw [if_neg e]
            exact ⟨fun h4 h5 => a h4 (fun hl => h5 ((h2 k).2 ⟨hl, e⟩)), fun h => b (h.imp_right (fun h => ((h2 k).1 h).1))⟩
        · refine ⟨fun h4 h5 => ?_, fun h => b (h.imp_right (fun h => ((h2 k).1 h).1))⟩
          refine a h4 (fun hl => h5 ((h2 k).2 ⟨hl, fun e => h1 ?_⟩))
          rw [← h4, e])
      clear HF HB hfx
      go_wp2_with fail
      refine (cut2_any _ (x1, x2) v b id ((KA.out.cell (p := ⟨b, 0, none⟩) hb2 (by simp)).trans cb.out)).mono ?_
      rintro e w3 ⟨rfl, k3⟩
      have K3 : Hid (Keeps [] w2 w3) := Lib.hid (KA.out.trans k3 (by simp))
      have B3 : Hid (Blk w3 w2.heap.size 104 #[.int .i64 x1, .int .i64 x2]) := Lib.hid ((KB.out.alloc _).keep k3 (by simp))
      have HR3 : Hid (GRng kP eC w3 cm w.heap.size nc f (fun y => left y ∧ y ≠ (x1, x2)) cnt') := Lib.hid (HR2.out.keep K3.out (by simp) (by simp))
      have KW3 : Hid (Keeps [cm] w w3) := Lib.hid (KW.out.trans K3.out (by simp))
      have c0 : w3.cell? ⟨w2.heap.size, 0, none⟩ = some (.int .i64 x1) := B3.out.cell 0
      have c1 : w3.cell? ⟨w2.heap.size, 1, none⟩ = some (.int .i64 x2) := B3.out.cell 1
      have hle3 := HR3.out.left_eq
      clear k3 KA KB HR2 KW K3 cb B3
      dsimp only
      by_cases hx : x1 = id
      · subst hx
        go_wp2_with (at_delete; (refine wpList_delG rfl _ _ 59 rfl Tryz.underlying59 rfl HR3.out (x1, x2) (show _ = Value.agg #[.int .i64 x1, .int .i64 x2] from rfl) HOK.out ?_; intro w4 cnt4 hr4 hc4 k4))
        have HR4 := Lib.hid hr4
        have KW4 : Hid (Keeps [cm] w w4) := Lib.hid (KW3.out.trans k4 (by simp))
        have hle4 := hr4.left_eq
        clear hr4 k4 HR3 KW3 c0 c1
        exact ⟨⟨_, _, ⟨cnt4, HR4.out⟩, F2.out _ _ (.inl ⟨trivial, fun y => by unfold updG; by_cases e : y = (x1, x2) <;> simp [e]⟩) (fun y => ⟨fun h => h.1, fun h => ⟨h, h.2⟩⟩), KW4.out⟩, by rw [hle4]; omega⟩
      · go_wp2_with fail
        go_roundw
        case rel => exact ⟨_, _, cnt', HR3.out, F2.out _ _ (.inr ⟨hx, rfl⟩) (fun y => Iff.rfl), KW3.out⟩
        case measure => rw [hle3, hle]; omega
end Go.Proofs.YtcopjjokhjealaaGreat
namespace Go.Proofs.YtcopjjokhjealaaGreat
open Go.RowKit

/-- The items' rows lie below B. -/
def ItB (B : Nat) (f : Int → Option LnV) : Prop := ∀ x v g, f x = some v → v.b = some g → g < B
theorem PlAt.itB {w : World} {F : List Nat} {p : Nat} {s : Pl} {lm cm nl nc : Nat} {A : Option Addr} {c : Nat} {f : Int → Option LnV} (h : PlAt w F p s lm cm nl nc A c f) : ItB w.heap.size f := by
  intro x v g hx hv
  obtain ⟨n, _, e1, e2, e3, e4, e5⟩ := h.ls.get hx
  rw [hv] at e5
  exact own_lt e5 (by simp [fp, Value.ownBlock])
theorem LsAt.keepB {w w' : World} {G : List Nat} {B : Nat} {f : Int → Option LnV} {s : Int → Option Ln} (h : LsAt w f s) (hB : ItB B f) (hk : Keeps G w w') (hG : ∀ g ∈ G, B ≤ g ∨ ¬ IntRow w g) : LsAt w' f s := by
  intro x
  rcases h x with h | ⟨v, n, h1, h2, h3, h4, h5, h6, h7⟩
  · exact .inl h
  · refine .inr ⟨v, n, h1, h2, h3, h4, h5, h6, own_keep h7 hk (fun g hg hgG => ?_)⟩
    have hi := own_int h7 g hg
    rcases hG g hgG with h | h
    · cases hb : v.b with
      | none => rw [hb] at hg; simp at hg
      | some g' =>
        rw [hb] at hg
        have e : g = g' := by simpa using hg
        have := hB x v g' h1 hb
        omega
    · exact h hi
theorem PlAt.keepB {w w' : World} {F G : List Nat} {p : Nat} {s : Pl} {lm cm nl nc : Nat} {A : Option Addr} {c B : Nat} {f : Int → Option LnV} (h : PlAt w F p s lm cm nl nc A c f) (hB : ItB B f) (hk : Keeps G w w') (hd : ∀ g ∈ F, g ∉ G) (hG : ∀ g ∈ G, B ≤ g ∨ ¬ IntRow w g) : PlAt w' F p s lm cm nl nc A c f := by
  have hf := h.fF
  exact ⟨hf, h.b.keep hk (hd p (by rw [hf]; simp)), h.ml.keep hk (hd lm (by rw [hf]; simp)), h.mc.keep hk (hd cm (by rw [hf]; simp)), h.lc, own_keep h.o hk (fun g hg => hd g (by rw [hf]; simp [hg])), h.ls.keepB hB hk hG⟩
/-- What cut does, if no more than n items run. -/
def CutC (n : Nat) : Prop := ∀ (w : World) (F : List Nat) (p : Nat) (s : Pl) (lm cm nl nc : Nat) (A : Option Addr) (c : Nat) (f : Int → Option LnV) (B : Nat) (id : Int), PlAt w F p s lm cm nl nc A c f → ItB B f → B ≤ w.heap.size → nl ≤ 1000 → s.li.length ≤ n →
  (∀ x n, s.ln x = some n → kI.ok x) → kI.ok id → Calls Tryz.prog 56 #[.pointer (some ⟨p, 0, none⟩), .int .i64 id] w fun e w' => ∃ v o s' f', e = .returned v ∧ Rm (.cut id) s s' o ∧ w'.ownsRow 0 3 1 v o.length (zs o) ∧
    PlAt w' F p s' lm cm nl nc A c f' ∧ ItB B f' ∧ Keeps F w w' ∧ ∀ g ∈ fp v, w.heap.size ≤ g
def RemC (n : Nat) : Prop := ∀ (w : World) (F : List Nat) (p : Nat) (s : Pl) (lm cm nl nc : Nat) (A : Option Addr) (c : Nat) (f : Int → Option LnV) (B : Nat) (k : Nat), PlAt w F p s lm cm nl nc A c f → ItB B f → B ≤ w.heap.size → nl ≤ 1000 → s.li.length ≤ n →
  (∀ x n, s.ln x = some n → kI.ok x) → k < s.li.length → Calls Tryz.prog 75 #[.pointer (some ⟨p, 0, none⟩), .int .i64 k] w fun e w' => ∃ v o s' f', e = .returned v ∧ Rm (.rem k) s s' o ∧ w'.ownsRow 0 3 1 v o.length (zs o) ∧
    PlAt w' F p s' lm cm nl nc A c f' ∧ ItB B f' ∧ Keeps F w w' ∧ ∀ g ∈ fp v, w.heap.size ≤ g
theorem rw_erase {L : List Rn} {i : Nat} : (rw rcs L).take (i * 4) ++ (rw rcs L).drop ((i + 1) * 4) = rw rcs (L.eraseIdx i) := by
  rw [rw_take rcs_len, rw_drop rcs_len, ← rw_append, List.eraseIdx_eq_take_drop_succ]
/-- The list without one item, stored into the planner. -/
theorem take_rep {w w1 : World} {F : List Nat} {p : Nat} {s : Pl} {lm cm nl nc g c : Nat} {f : Int → Option LnV} {k : Nat} (h : PlAt w F p s lm cm nl nc (some ⟨g, 0, none⟩) c f) (hk : k < s.li.length)
    (ho : w1.ownsRow 0 69 4 (.slice (some ⟨g, 0, none⟩) (s.li.length - 1) c) (s.li.length - 1) ((rw rcs s.li).take (k * 4) ++ (rw rcs s.li).drop ((k + 1) * 4))) (k1 : Keeps [g] w w1) :
    PlAt (w1.setCell ⟨p, 1, none⟩ (.slice (some ⟨g, 0, none⟩) (s.li.length - 1) c)) F p (takeOut s k) lm cm nl nc (some ⟨g, 0, none⟩) c f ∧
      Keeps F w (w1.setCell ⟨p, 1, none⟩ (.slice (some ⟨g, 0, none⟩) (s.li.length - 1) c)) := by
  have hF := h.fF
  have hpg : p ≠ g := fun e => own_blk_off h.o h.b (by decide) (by rw [e]; simp)
  have hlg : lm ≠ g := fun e => h.ml.off h.o (by rw [e]; simp)
  have hcg : cm ≠ g := fun e => h.mc.off h.o (by rw [e]; simp)
  have hlp : lm ≠ p := fun e => h.ml.ne_blk h.b e
  have hcp : cm ≠ p := fun e => h.mc.ne_blk h.b e
  have hn : (takeOut s k).li.length = s.li.length - 1 := by unfold takeOut; dsimp only; have := eraseIdx_len hk; omega
  have kk : Keeps [g, p] w (w1.setCell ⟨p, 1, none⟩ (.slice (some ⟨g, 0, none⟩) (s.li.length - 1) c)) := (k1.mono (by simp)).setCell (.inl (by simp)) _
  have hint : ∀ y ∈ [g, p], ¬ IntRow w y := fun y hy => by
    have : y ∈ F := by rw [hF]; rcases List.mem_cons.1 hy with rfl | hy; simp; have := List.mem_singleton.1 hy; simp [this]
    exact h.noInt y this
  refine ⟨⟨by rw [hn]; exact hF, ?_, h.ml.keep kk (by simp [hlg, hlp]), h.mc.keep kk (by simp [hcg, hcp]), h.lc, ?_, h.ls.keep kk hint⟩, kk.mono (fun y hy => by
    rw [hF]; rcases List.mem_cons.1 hy with rfl | hy; simp; have := List.mem_singleton.1 hy; simp [this])⟩
  · rw [hn]
    exact (h.b.keep k1 (by simpa using hpg)).set_ 1 _
  · rw [hn, show (takeOut s k).li = s.li.eraseIdx k from rfl, ← rw_erase]
    exact own_far ho (by simpa using hpg) _
set_option maxRecDepth 100000 in
set_option maxHeartbeats 6400000 in
theorem rem_of (m : Nat) (hm : m ≤ 1000) (hQ : CutC m) : RemC (m + 1) := by
  intro w F p s lm cm nl nc A c f B k h hB hBw hnl hl hs hk
  have hFl := h.lt
  obtain ⟨_, _, hv, -, -, hA⟩ := own_shape h.o
  obtain ⟨g, hg⟩ := hA (by omega)
  obtain ⟨rfl, -, rfl⟩ : A = _ ∧ s.li.length = _ ∧ c = _ := by injection hv with h1 h2 h3; exact ⟨h1, rfl, h3⟩
  clear hv hA
  subst hg
  have HH := Lib.hid h
  have f1 : w.cell? ⟨p, 1, none⟩ = some (.slice (some ⟨g, 0, none⟩) s.li.length c) := h.b.cell 1
  have hcell : ∀ j (hj : j < 4) u, (rcs s.li[k])[j]? = some u → w.cell? ⟨g, k * 4 + j, none⟩ = some u := fun j hj u hu => own_cell h.o (by rw [rw_at rcs_len hk hj]; exact hu)
  obtain ⟨t, ht⟩ : ∃ t, s.li[k].t = t := ⟨_, rfl⟩
  have c2 : w.cell? ⟨g, k * 4 + 2, none⟩ = some (.int .i64 t) := hcell 2 (by omega) _ (by subst ht; rfl)
  have hd := delete_any w g s.li.length c k _ h.o (rw_one rcs_one _) hk (by omega)
  have HD := Lib.hid hd
  have HBB := Lib.hid hB
  have HS := Lib.hid hs
  have HFL := Lib.hid hFl
  have HQ := Lib.hid hQ
  have HK := Lib.hid hk
  have HI := Lib.hid info3
  have hel := eraseIdx_len hk
  have HT := Lib.hid ht
  have hpl := h.b.lt
  have hgl := own_lt h.o (g := g) (by simp [fp, Value.ownBlock])
  obtain ⟨n, hn⟩ : ∃ n, s.li.length = n := ⟨_, rfl⟩
  have HN := Lib.hid hn
  rw [hn] at f1 HD hl hel hk
  have i0 : (0 : Int) ≤ (k : Int) := by omega
  have i1 : (k : Int) < (n : Int) := by omega
  clear h hd hB hs hcell hFl hQ hn ht
  go_enter Tryz.func75, Tryz.ntmps75
  go_wp2_with fail
  refine HD.out.mono ?_
  rintro e w1 ⟨rfl, o1, k1⟩
  have hrep := take_rep HH.out HK.out (by rw [HN.out]; exact o1) k1
  rw [HN.out] at hrep
  have b1 : Blk w1 p 61 #[.map (some lm), .slice (some ⟨g, 0, none⟩) s.li.length c, .map (some cm)] := HH.out.b.keep k1 (by
    have : p ≠ g := fun e => own_blk_off HH.out.o HH.out.b (by decide) (by rw [e]; simp)
    simpa using this)
  have hfr : w1.frozen? ⟨p, 1, none⟩ = false := b1.frozen 1
  have hp1 : w1.cell? ⟨p, 1, none⟩ = some (.slice (some ⟨g, 0, none⟩) s.li.length c) := b1.cell 1
  have HR := Lib.hid hrep
  clear o1 k1 b1 hrep HD
  go_wp2_with fail
  obtain ⟨w2, hw2⟩ : ∃ w2, w1.setCell ⟨p, 1, none⟩ (.slice (some ⟨g, 0, none⟩) (n - 1) c) = w2 := ⟨_, rfl⟩
  rw [hw2] at HR ⊢
  have hz2 : w2.heap.size = w1.heap.size := by rw [← hw2]; simp [World.setCell]
  rw [← hz2]
  clear hw2 hfr hp1 hz2
  obtain ⟨hp2, hk2⟩ := HR.out
  have hb0 := hk2.size
  have ka : Keeps [] w2 (w2.alloc (.cells #[.int .i64 t] 3)) := (Keeps.refl _ _).alloc _
  have ob := own_of_blk (n := 1) (xs := [.int .i64 t]) (size := 1) (Blk.new w2 3 #[.int .i64 t]) (by omega) (by unfold maxLen; omega) rfl rfl
  have hp3 := hp2.keep0 ka
  have k3 := hk2.trans ka (by simp)
  have hz3 : (w2.alloc (.cells #[.int .i64 t] 3)).heap.size = w2.heap.size + 1 := by simp
  obtain ⟨w3, hw3⟩ : ∃ w3, w2.alloc (.cells #[.int .i64 t] 3) = w3 := ⟨_, rfl⟩
  rw [hw3] at ka ob hp3 k3 hz3 ⊢
  have WI := Lib.hid (within_any w3 F p (takeOut s k) lm cm nl nc _ c f hp3 hnl HS.out t)
  have HP3 := Lib.hid hp3
  have K3 := Lib.hid k3
  have OB := Lib.hid ob
  clear HR hp2 hk2 ka ob hp3 k3 hw3
  refine WI.out.mono ?_
  rintro e w4 ⟨vi, ids, rfl, hw, oi, k4, fi, hil⟩
  obtain ⟨Ai, ci, rfl, -, -, -⟩ := own_shape oi
  have HP4 := Lib.hid (HP3.out.keep0 k4)
  have K4 := Lib.hid (K3.out.trans k4 (by simp))
  have OB4 := Lib.hid (own_keep OB.out k4 (by simp))
  have OI := Lib.hid oi
  have FI := Lib.hid fi
  have HW := Lib.hid hw
  have hz4 := k4.size
  clear WI HP3 K3 OB oi k4 fi hw
  go_wp2_with fail
  go_loopw [6, 34] (fun v iv wr => ∃ (j : Nat) (s1 : Pl) (o1 : List Int) (f1 : Int → Option LnV), j ≤ ids.length ∧ iv = .int .i64 j ∧ wr.ownsRow 0 3 1 v (t :: o1).length (zs (t :: o1)) ∧ PlAt wr F p s1 lm cm nl nc (some ⟨g, 0, none⟩) c f1 ∧ ItB B f1 ∧
    (∀ s2 o2, Rm (.cuts (ids.drop j)) s1 s2 o2 → Rm (.cuts ids) (takeOut s k) s2 (o1 ++ o2)) ∧ o1.length + s1.li.length ≤ m ∧ (∀ x n, s1.ln x = some n → kI.ok x) ∧ Keeps F w wr ∧ wr.ownsRow 0 3 1 (.slice Ai ids.length ci) ids.length (zs ids) ∧ w4.heap.size ≤ wr.heap.size ∧
    (∀ g ∈ fp v, w.heap.size ≤ g ∧ g ∉ fp (.slice Ai ids.length ci))) (fun _ iv _ => ids.length - (intOf iv).toNat)
  case atStart =>
    refine ⟨0, takeOut s k, [], f, by omega, rfl, OB4.out, HP4.out, HBB.out, fun s2 o2 h => by rw [List.drop_zero] at h; exact h, ?_, HS.out, K4.out, OI.out, Nat.le_refl _, fun y hy => ?_⟩
    · show 0 + (s.li.eraseIdx k).length ≤ m
      omega
    · have e : y = w2.heap.size := by simpa using hy
      subst e
      exact ⟨hb0, fun h => by have := FI.out _ h; omega⟩
  case round =>
    obtain ⟨j, s1, o1, f1', hj, rfl, ho, hp, hfb, hcu, hln, hs1, kw, hoi, hzr, hfv⟩ := hrel
    have HCU := Lib.hid hcu
    have HS1 := Lib.hid hs1
    have HO := Lib.hid ho
    have HP := Lib.hid hp
    have HFB := Lib.hid hfb
    have KW := Lib.hid kw
    have HOI := Lib.hid hoi
    have HFV := Lib.hid hfv
    obtain ⟨A1, c1, rfl, -, -, -⟩ := own_shape ho
    clear hcu hs1 ho hp hfb kw hoi hfv HP4 K4 OB4 OI
    by_cases hlt : j < ids.length
    · have hz := AtZ.of_own HOI.out (by omega)
      obtain ⟨bl, off, hAA, hbl, hc⟩ := hz.at_ (by omega)
      subst hAA
      have c0 := hc j hlt
      have j0 : (0 : Int) ≤ (j : Int) := by omega
      have j1 : (j : Int) < (ids.length : Int) := by omega
      have hdrop := List.drop_eq_getElem_cons hlt
      have hidm : ids[j] ∈ ids := List.getElem_mem hlt
      obtain ⟨y, hy⟩ : ∃ y, ids[j] = y := ⟨_, rfl⟩
      rw [hy] at c0 hdrop hidm
      have HDR := Lib.hid hdrop
      obtain ⟨hy0, ny, hny, -⟩ := (HW.out.2 y).1 hidm
      have HOKY := Lib.hid (HS.out y ny hny)
      have KZ := Lib.hid (KW.out.size)
      clear hz hc hdrop hidm hy hy0 hny
      go_wp2_with fail
      refine (HQ.out wr F p s1 lm cm nl nc _ c f1' B y HP.out HFB.out (Nat.le_trans hBw KZ.out) hnl (by omega) HS1.out HOKY.out).mono ?_
      rintro e w5 ⟨v5, o5, s5, f5, rfl, hrm, oo5, hp5, hb5, k5, ff5⟩
      obtain ⟨A5, c5, rfl, -, -, -⟩ := own_shape oo5
      have hlen5 := hrm.len
      have hFw := HFL.out
      have hz5 := k5.size
      have KZ' := KZ.out
      have HO5 := Lib.hid (own_keep HO.out k5 (fun y hy hyF => by have := (HFV.out y hy).1; have := hFw y hyF; omega))
      have HOI5 := Lib.hid (own_keep HOI.out k5 (fun y hy hyF => by have := FI.out y hy; have := hFw y hyF; omega))
      have OO5 := Lib.hid (reads_own oo5)
      have HP5 := Lib.hid hp5
      have HB5 := Lib.hid hb5
      have HCU5 : Hid (∀ s2 o2, Rm (.cuts (ids.drop (j + 1))) s5 s2 o2 → Rm (.cuts ids) (takeOut s k) s2 ((o1 ++ o5) ++ o2)) := Lib.hid (fun s2 o2 h => by
        rw [List.append_assoc]
        exact HCU.out s2 (o5 ++ o2) (by rw [HDR.out]; exact Rm.cons hrm h))
      have HS5 : Hid (∀ x n, s5.ln x = some n → kI.ok x) := Lib.hid (fun x n hx => HS1.out x n (hrm.ln x n hx))
      have KW5 : Hid (Keeps F w w5) := Lib.hid (KW.out.trans k5 (fun y hy => .inl hy))
      have hbl5 : bl < w5.heap.size := Nat.lt_of_lt_of_le hbl hz5
      have hzr5 : w4.heap.size ≤ w5.heap.size := Nat.le_trans hzr hz5
      have hlo : (t :: o1).length + o5.length ≤ 2000 := by simp only [List.length_cons]; omega
      have hl2 : (o1 ++ o5).length + s5.li.length ≤ m := by rw [List.length_append]; omega
      clear hrm oo5 hp5 hb5 k5 ff5 HCU HS1 HP HFB KW HOI HO hlen5 hz5 KZ' hFw KZ HDR HOKY hzr c0 hln
      go_wp2_with (at_builtin; refine wpList_app _ rfl (.tmp 38) (.tmp 41) _ rfl 3 (.int .i64 0) 1 8 Tryz.underlying22 HI.out rfl (by omega) (.slice A1 (t :: o1).length c1) _ _ rfl HO5.out _ _ _ _ (zs o5) rfl OO5.out (zs_one _) (by unfold maxLen; omega) (by omega) ?_)
      intro v6 w6 o6 k6 f6
      have hFw := HFL.out
      have e6 : o1.length + 1 + o5.length = (t :: (o1 ++ o5)).length := by simp; omega
      have O6 : Hid (w6.ownsRow 0 3 1 v6 (t :: (o1 ++ o5)).length (zs (t :: (o1 ++ o5)))) := Lib.hid (by
        rw [e6, show zs (t :: o1) ++ zs o5 = zs (t :: (o1 ++ o5)) by simp [zs]] at o6
        exact o6)
      have HP6 := Lib.hid (HP5.out.keepB HB5.out k6 (fun y hy hyA => by have := (HFV.out y hyA).1; have := hFw y hy; omega) (fun y hy => .inl (Nat.le_trans hBw (HFV.out y hy).1)))
      have HOI6 := Lib.hid (own_keep HOI5.out k6 (fun y hy hyA => (HFV.out y hyA).2 hy))
      have K6 : Hid (Keeps F w w6) := Lib.hid (KW5.out.trans k6 (fun y hy => .inr (HFV.out y hy).1))
      have hsz := KW5.out.size
      have F6 : Hid (∀ y ∈ fp v6, w.heap.size ≤ y ∧ y ∉ fp (.slice (some ⟨bl, off, none⟩) ids.length ci)) := Lib.hid (fun y hy => (f6 y hy).elim (HFV.out y) (fun h => ⟨by omega, fun h2 => (by have e : y = bl := (by simpa using h2); omega)⟩))
      have hzr6 : w4.heap.size ≤ w6.heap.size := Nat.le_trans hzr5 k6.size
      clear o6 k6 f6 hFw e6 HP5 HOI5 KW5 HO5 OO5 HFV hsz
      go_wp2_with fail
      go_roundw
      case rel => exact ⟨j + 1, s5, o1 ++ o5, f5, by omega, by go_num, O6.out, HP6.out, HB5.out, HCU5.out, hl2, HS5.out, K6.out, HOI6.out, hzr6, F6.out⟩
      case measure => simp [intOf]; omega
    · obtain rfl : j = ids.length := by omega
      have hfin : Rm (.rem k) s s1 (t :: o1) := by
        have h := HCU.out s1 [] (by rw [List.drop_length]; exact Rm.nil)
        rw [List.append_nil] at h
        have hw := HW.out
        rw [← HT.out] at hw ⊢
        exact Rm.rem HK.out hw h
      have HFIN := Lib.hid hfin
      clear hfin HCU
      go_wp2_with fail
      go_ret
      exact ⟨_, _, s1, f1', rfl, HFIN.out, HO.out, HP.out, HFB.out, KW.out, fun y hy => (HFV.out y hy).1⟩
end Go.Proofs.YtcopjjokhjealaaGreat
namespace Go.Proofs.YtcopjjokhjealaaGreat
open Go.RowKit

theorem step_delG {kt : TypeId} {κ V : Type} {S : KeyS kt κ} {E : ElS V} {ops : Array Oper} {o : Oper} {a : Act} {w : World} {K : Act → World → Prop} {Q : Exit → Act → World → Prop} {E0 : Prop} (hg : o.guard = none) (mo xo : Operand) (T : TypeId)
    (hop : o.op = Op.call { callee := Callee.builtin Builtin.delete, args := #[mo, xo], argTypes := #[T, kt] })
    {e : TypeId} (ht : Tryz.prog.underlying T = some (.map kt e)) (b n : Nat) (f : κ → Option V) (hm : a.eval mo = .map (some b)) (h : GMap S E w b n f) (x : κ) (hx : a.eval xo = S.val x) (hok : S.ok x)
    (hK : ∀ w', GMap S E w' b n (updG f x none) → Keeps [b] w w' → K (a.put o.dst (.tuple #[])) w') : if Region.wanted o (yielded ops a.tmps) = true then Oper.wp Tryz.prog o a w K Q else E0 := by
  have hw : Region.wanted o (yielded ops a.tmps) = true := by simp [Region.wanted, hg]
  rw [if_pos hw]
  obtain ⟨w', hrun, h', hk⟩ := h.del hok ht o.type
  unfold Oper.wp
  simp [execOp, hop, resolve, invoke, builtin, hm, hx, hrun, Result.andThen]
  exact hK w' h' hk
noncomputable def cut7C : Code := ((Tryz.f56.body.bind (theRegion 7)).getD .skip)
set_option maxRecDepth 1000000 in
set_option maxHeartbeats 1600000 in
set_option linter.unusedSimpArgs false in
theorem cut7_any (w : World) (p b lm nl : Nat) (id : Int) (f : Int → Option LnV) (K : Exit → Act → World → Prop)
    (hS : ∀ W, Keeps [] w W → W.cell? ⟨p, 0, none⟩ = some (.map (some lm)) ∧ W.cell? ⟨b, 0, none⟩ = some (.int .i64 id) ∧ GMap kI eL W lm nl f) (hok : kI.ok id)
    (u1 u2 u4 u5 u6 u7 u8 u9 u10 u11 u12 u13 u14 u15 u16 u17 u18 u19 u20 u21 u22 u23 u24 u25 u26 u27 u28 u29 u30 u31 u32 u33 u34 u35 u36 u37 u38 u39 : Value)
    (hK : ∀ (v28 v29 v30 v31 v32 : Value) (W : World), GMap kI eL W lm nl (updG f id none) → Keeps [lm] w W → K .normal ⟨#[.pointer (some ⟨p, 0, none⟩), u1, u2, .pointer (some ⟨b, 0, none⟩), u4, u5, u6, u7, u8, u9, u10, u11, u12, u13, u14, u15, u16, u17, u18, u19, u20, u21, u22, u23, u24, u25, u26, u27, v28, v29, v30, v31, v32, u33, u34, u35, u36, u37, u38, u39], []⟩ W) :
    Code.wp Tryz.prog cut7C K ⟨#[.pointer (some ⟨p, 0, none⟩), u1, u2, .pointer (some ⟨b, 0, none⟩), u4, u5, u6, u7, u8, u9, u10, u11, u12, u13, u14, u15, u16, u17, u18, u19, u20, u21, u22, u23, u24, u25, u26, u27, u28, u29, u30, u31, u32, u33, u34, u35, u36, u37, u38, u39], []⟩ w := by
  have HS := Lib.hid hS
  clear hS
  conv => arg 2; whnf
  try dsimp only at hK ⊢
  refine wp_region_noPanic ?_
  refine wp_region_last (S := fun W => W.cell? ⟨p, 0, none⟩ = some (.map (some lm)) ∧ W.cell? ⟨b, 0, none⟩ = some (.int .i64 id) ∧ GMap kI eL W lm nl f) 5 (by kernel_rfl) (HS.out _ ((Keeps.refl [] w).drew)) (fun hHeld => ?_)
  obtain ⟨w0, hw0⟩ : ∃ w0, w.drew = w0 := ⟨_, rfl⟩
  try rw [hw0] at hHeld
  rw [hw0]
  have K0 : Keeps [] w w0 := by rw [← hw0]; exact (Keeps.refl [] w).drew
  clear hw0
  refine wpG_take (nx := [1, 2, 3, 5, 5]) (i := 0) (oi := ⟨some 28, Op.move (Operand.tmp 0), 26, _, _, none⟩) (v := ?vq1) (by kernel_rfl) rfl (by decide) (by kernel_rfl) (by kernel_rfl) (by kernel_rfl) (fun _ _ _ h => h) (Or.inl ⟨by rfl, fun W hW => ?_⟩) (by assumption) ?_
  rotate_left
  · go_simp
    with_reducible rfl
  try simp only [Act.put, List.setIfInBounds_toArray, List.set_cons_zero, List.set_cons_succ]
  refine wpG_take (nx := [1, 2, 3, 5, 5]) (i := 1) (oi := ⟨some 29, Op.nilCheck (Operand.tmp 28), 0, _, _, none⟩) (v := ?vq2) (by kernel_rfl) rfl (by decide) (by kernel_rfl) (by kernel_rfl) (by kernel_rfl) (fun _ _ _ h => h) (Or.inl ⟨by rfl, fun W hW => ?_⟩) (by assumption) ?_
  rotate_left
  · go_simp
    with_reducible rfl
  try simp only [Act.put, List.setIfInBounds_toArray, List.set_cons_zero, List.set_cons_succ]
  refine wpG_take (nx := [1, 2, 3, 5, 5]) (i := 2) (oi := ⟨some 30, Op.fieldAddr 61 (Operand.tmp 29) 0, 0, _, _, none⟩) (v := ?vq3) (by kernel_rfl) rfl (by decide) (by kernel_rfl) (by kernel_rfl) (by kernel_rfl) (fun _ _ _ h => h) (Or.inl ⟨by rfl, fun W hW => ?_⟩) (by assumption) ?_
  rotate_left
  · go_simp
    with_reducible rfl
  try simp only [Act.put, List.setIfInBounds_toArray, List.set_cons_zero, List.set_cons_succ]
  refine wpG_take (nx := [1, 2, 3, 5, 5]) (i := 3) (oi := ⟨some 31, Op.load 57 (Operand.tmp 30), 57, _, _, none⟩) (v := .map (some lm)) (by kernel_rfl) rfl (by decide) (by kernel_rfl) (by kernel_rfl) (by kernel_rfl) (fun _ _ _ h => h) (Or.inl ⟨by rfl, fun W hW => ?_⟩) (by assumption) ?_
  · (have a0 := hW.1; clear hW; go_simp)
  try simp only [Act.put, List.setIfInBounds_toArray, List.set_cons_zero, List.set_cons_succ]
  refine wpG_take (nx := [1, 2, 3, 5, 5]) (i := 4) (oi := ⟨some 32, Op.load 3 (Operand.tmp 3), 3, _, _, none⟩) (v := .int .i64 id) (by kernel_rfl) rfl (by decide) (by kernel_rfl) (by kernel_rfl) (by kernel_rfl) (fun _ _ _ h => h) (Or.inl ⟨by rfl, fun W hW => ?_⟩) (by assumption) ?_
  · (have a0 := hW.2.1; clear hW; go_simp)
  try simp only [Act.put, List.setIfInBounds_toArray, List.set_cons_zero, List.set_cons_succ]
  refine wpG_ready (rs := [5]) (by kernel_rfl) (by simp) ?_
  refine AllG.last (o := ⟨none, Op.call { callee := Callee.builtin Builtin.delete, args := #[Operand.tmp 31, Operand.tmp 32], argTypes := #[57, 3] }, 0, _, _, none⟩) rfl (fun KK hKK => ?_)
  refine step_delG (S := kI) (E := eL) rfl _ _ 57 rfl Tryz.underlying57 lm nl f (by first | (simp [Act.eval]; done) | (simp [Act.eval, Act.put]; done)) (HS.out _ K0).2.2 id (show _ = Value.int .i64 id by first | (simp [Act.eval]; done) | (simp [Act.eval, Act.put]; done)) hok ?_
  intro W4 mo5 k6
  have K9 : Keeps [lm] w W4 := (K0.mono (by simp)).trans k6 (by simp)
  refine hKK.out _ _ ?_
  clear hKK KK
  try simp only [Act.put, List.setIfInBounds_toArray, List.set_cons_zero, List.set_cons_succ]
  refine wpG_done (by kernel_rfl) ?_ _
  refine NoPanic.normal ?_
  exact hK _ _ _ _ _ _ mo5 K9
end Go.Proofs.YtcopjjokhjealaaGreat
