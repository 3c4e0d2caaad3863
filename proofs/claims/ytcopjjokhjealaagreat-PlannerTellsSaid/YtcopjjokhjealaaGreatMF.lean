/- Texts of the elder seat, turned to this one: W47 W48 P4 W49. -/
import Derived.Test.YtcopjjokhjealaaGreatME
namespace Go.Proofs.YtcopjjokhjealaaGreat
open Go.RowKit

/-- Block g holds cells of type t. -/
def TyRow (w : World) (t : TypeId) (g : Nat) : Prop := ∃ cs fr, w.heap[g]? = some (.cells cs t fr)
theorem PlAt.noTy {w : World} {F : List Nat} {p : Nat} {s : Pl} {lm cm nl nc : Nat} {A : Option Addr} {c : Nat} {f : Int → Option LnV} (h : PlAt w F p s lm cm nl nc A c f) {t : TypeId} (h1 : t ≠ 61) (h2 : t ≠ 69) : ∀ g ∈ F, ¬ TyRow w t g := by
  intro g hg
  rw [h.fF] at hg
  rintro ⟨cs, fr, hr⟩
  rcases List.mem_cons.1 hg with rfl | hg
  · have hb := h.b
    unfold Blk at hb
    rw [hr] at hb
    injection hb with hb
    injection hb with _ hb
    exact h1 hb
  rcases List.mem_cons.1 hg with rfl | hg
  · obtain ⟨D, ⟨es, clock, hh, _⟩, _⟩ := h.ml
    rw [hr] at hh
    cases hh
  rcases List.mem_cons.1 hg with rfl | hg
  · obtain ⟨D, ⟨es, clock, hh, _⟩, _⟩ := h.mc
    rw [hr] at hh
    cases hh
  rcases h.o.2 with ⟨he, _⟩ | ⟨g', cap, cur, he, _, hh, _⟩
  · rw [he] at hg; simp at hg
  · rw [he] at hg
    simp at hg
    subst hg
    rw [hr] at hh
    injection hh with hh
    injection hh with _ hh
    exact h2 hh
/-- The planner at p in w: made since w0, in its invariant. -/
structure SV (w0 w : World) (F : List Nat) (p : Nat) (s : Pl) (Φ : Nat) : Prop where
  r : PR w F p s Φ
  f : ∀ g ∈ F, w0.heap.size ≤ g
  k : Keeps [] w0 w
  v : Inv NoR s
  c : Cap Φ s
theorem SV.li {w0 w : World} {F : List Nat} {p : Nat} {s : Pl} {Φ : Nat} (h : SV w0 w F p s Φ) : s.li.length ≤ Φ := h.r.li
theorem SV.mono {w0 w : World} {F : List Nat} {p : Nat} {s : Pl} {Φ Ψ : Nat} (h : SV w0 w F p s Φ) (hΦ : Φ ≤ Ψ) : SV w0 w F p s Ψ := ⟨h.r.mono hΦ, h.f, h.k, h.v, h.c.mono hΦ⟩
theorem SV.keep0 {w0 w w' : World} {F : List Nat} {p : Nat} {s : Pl} {Φ : Nat} (h : SV w0 w F p s Φ) (hk : Keeps [] w w') : SV w0 w' F p s Φ := ⟨h.r.keep0 hk, h.f, h.k.trans hk (by simp), h.v, h.c⟩
theorem SV.lt {w0 w : World} {F : List Nat} {p : Nat} {s : Pl} {Φ : Nat} (h : SV w0 w F p s Φ) : ∀ g ∈ F, g < w.heap.size := h.r.lt
/-- What the planner's own writes keep. -/
theorem SV.base {w0 w w' : World} {F : List Nat} {p : Nat} {s : Pl} {Φ : Nat} (h : SV w0 w F p s Φ) (hk : Keeps F w w') : Keeps [] w0 w' := h.k.trans hk (fun g hg => .inr (h.f g hg))
theorem SV.noTy {w0 w : World} {F : List Nat} {p : Nat} {s : Pl} {Φ : Nat} (h : SV w0 w F p s Φ) {t : TypeId} (h1 : t ≠ 61) (h2 : t ≠ 69) : ∀ g ∈ F, ¬ TyRow w t g := by
  obtain ⟨lm, cm, nl, nc, A, c, f, h, -⟩ := h.r
  exact h.noTy h1 h2
theorem own_ty {w : World} {t size : Nat} {v : Value} {n : Nat} {xs : List Value} (h : w.ownsRow 0 t size v n xs) : ∀ g ∈ fp v, TyRow w t g := by
  intro g hg
  rcases h.2 with ⟨rfl, _⟩ | ⟨g', cap, cur, rfl, _, hh, _⟩
  · simp at hg
  · simp at hg
    subst hg
    exact ⟨_, _, hh⟩
/-- A row of another kind stands while the planner is written. -/
theorem SV.own {w0 w w' : World} {F : List Nat} {p : Nat} {s : Pl} {Φ : Nat} (h : SV w0 w F p s Φ) (hk : Keeps F w w') {t size : Nat} {v : Value} {n : Nat} {xs : List Value} (ho : w.ownsRow 0 t size v n xs) (h1 : t ≠ 61) (h2 : t ≠ 69) : w'.ownsRow 0 t size v n xs :=
  own_keep ho hk (fun g hg hgF => h.noTy h1 h2 g hgF (own_ty ho g hg))
/-- A row of another kind is apart from the planner. -/
theorem SV.off {w0 w : World} {F : List Nat} {p : Nat} {s : Pl} {Φ : Nat} (h : SV w0 w F p s Φ) {t size : Nat} {v : Value} {n : Nat} {xs : List Value} (ho : w.ownsRow 0 t size v n xs) (h1 : t ≠ 61) (h2 : t ≠ 69) : ∀ g ∈ F, g ∉ fp v :=
  fun g hg hgF => h.noTy h1 h2 g hg (own_ty ho g hgF)
/-- A planner apart stands while another is written. -/
theorem SV.other {w0 w w' : World} {F G : List Nat} {p q : Nat} {s u : Pl} {Φ Ψ : Nat} (h : SV w0 w F p s Φ) (hq : SV w0 w G q u Ψ) (hk : Keeps G w w') (hd : ∀ g ∈ F, g ∉ G) : SV w0 w' F p s Φ :=
  ⟨h.r.keep hk hd hq.r.noInt, h.f, hq.base hk, h.v, h.c⟩
section
variable {w0 w : World} {F : List Nat} {p : Nat} {s : Pl} {Φ : Nat}
theorem do_sv (h : SV w0 w F p s Φ) (hΦ : Φ ≤ 800) (x : Op) (hx : OkO x) (hz : AtZ w0 x.A x.it) :
    Calls Tryz.prog 8 #[.pointer (some ⟨p, 0, none⟩), .agg #[.int .i64 x.d, .int .i64 x.l, .int .i64 x.i, .int .i64 x.t, .int .i64 x.pd, .slice x.A x.it.length x.c]] w fun e w' =>
      ∃ v s' o n en F', e = .returned (.tuple #[v, .int .i64 n, .int .i64 en]) ∧ DoR x s s' o n en ∧ w'.ownsRow 0 3 1 v o.length (zs o) ∧ SV w0 w' F' p s' (Φ + 2) ∧ Keeps F w w' ∧ (∀ g ∈ F', g ∈ F ∨ w.heap.size ≤ g) ∧ ∀ g ∈ fp v, w.heap.size ≤ g := by
  refine (do_any w F p s Φ h.r hΦ h.v h.c x hx (fun W hW => hz.keep (h.base hW))).mono ?_
  rintro e w' ⟨v, s', o, n, en, F', he, hr, ho, hp, hk, hF, hf⟩
  exact ⟨v, s', o, n, en, F', he, hr, ho, ⟨hp, fun g hg => (hF g hg).elim (h.f g) (fun hg' => Nat.le_trans h.k.size hg'), h.base hk, hr.inv h.v, hr.cap h.c⟩, hk, hF, hf⟩
theorem list_sv (h : SV w0 w F p s Φ) (hΦ : Φ ≤ 800) :
    Calls Tryz.prog 43 #[.pointer (some ⟨p, 0, none⟩)] w fun e w' => ∃ A c, e = .returned (.slice A s.li.length c) ∧ AtR w' A s.li ∧ Keeps [] w w' := by
  have hl := h.li
  obtain ⟨lm, cm, nl, nc, A, c, f, hp, -⟩ := h.r
  refine (list_any w F p s lm cm nl nc A c f hp (by omega)).mono ?_
  rintro e w' ⟨v, rfl, ho, hk, -⟩
  obtain ⟨A1, c1, rfl, -⟩ := own_shape ho
  exact ⟨A1, c1, rfl, AtR.of_own ho (by omega), hk⟩
theorem ahead_sv (h : SV w0 w F p s Φ) (hΦ : Φ ≤ 800) (x : Int) (h1 : -9223372036854775808 ≤ x) (h2 : x ≤ 9223372036854775807) :
    Calls Tryz.prog 17 #[.pointer (some ⟨p, 0, none⟩), .int .i64 x] w fun e w' => e = .returned (.tuple #[.int .i64 ((aheadV s x).getD 0), .bool (aheadV s x).isSome]) ∧ Keeps [] w w' :=
  ahead_pr w F p s Φ h.r hΦ (h.v.fit h.c).itl x h1 h2
theorem oldest_sv (h : SV w0 w F p s Φ) (hΦ : Φ ≤ 800) (x : Int) (h1 : -9223372036854775808 ≤ x) (h2 : x ≤ 9223372036854775807) :
    Calls Tryz.prog 11 #[.pointer (some ⟨p, 0, none⟩), .int .i64 x] w fun e w' => e = .returned (.tuple #[.int .i64 ((oldV s x).getD (0, 0)).1, .int .i64 ((oldV s x).getD (0, 0)).2, .bool (oldV s x).isSome]) ∧ Keeps [] w w' := by
  have hl := h.li
  obtain ⟨lm, cm, nl, nc, A, c, f, hp, -⟩ := h.r
  exact oldest_any w F p s lm cm nl nc A c f hp (by omega) (h.v.fit h.c).itl x h1 h2
theorem victim_sv (h : SV w0 w F p s Φ) (hΦ : Φ ≤ 800) (y : Int) (h0 : ∀ r ∈ s.li, r.l = 0 → ∃ n, s.ln 0 = some n ∧ n.it.head? = some y) :
    Calls Tryz.prog 13 #[.pointer (some ⟨p, 0, none⟩)] w fun e w' => e = .returned (.tuple #[.int .i64 (((vicV s y).map (·.l)).getD 0), .int .i64 (((vicV s y).map (·.i)).getD 0), .int .i64 (((vicV s y).map (·.t)).getD 0), .bool (vicV s y).isSome]) ∧ Keeps [] w w' := by
  have hl := h.li
  obtain ⟨lm, cm, nl, nc, A, c, f, hp, -⟩ := h.r
  exact victim_any w F p s lm cm nl nc A c f hp (by omega) y h0
theorem lines_sv (h : SV w0 w F p s Φ) (hΦ : Φ ≤ 800) :
    Calls Tryz.prog 41 #[.pointer (some ⟨p, 0, none⟩)] w fun e w' => ∃ A' c' vs, e = .returned (.slice A' (vs : List LnV).length c') ∧ LnsAt w' s A' vs ∧ Keeps [] w w' := by
  have hf := h.v.fit h.c
  obtain ⟨lm, cm, nl, nc, A, c, f, hp, hnl, -⟩ := h.r
  exact linesA_any w F p s lm cm nl nc A c f hp (by omega) hf.ks hf.itl
theorem counts_sv (h : SV w0 w F p s Φ) (hΦ : Φ ≤ 800) :
    Calls Tryz.prog 45 #[.pointer (some ⟨p, 0, none⟩)] w fun e w' => ∃ A c cs, e = .returned (.slice A (cs : List Ct).length c) ∧ AllK s.ct cs ∧ w'.ownsRow 0 84 7 (.slice A cs.length c) cs.length (rw ccs cs) ∧ Keeps [] w w' ∧ cs.length ≤ 1000 := by
  have hl := h.li
  obtain ⟨lm, cm, nl, nc, A, c, f, hp, hnl, hnc⟩ := h.r
  refine (counts_any w F p s lm cm nl nc A c f hp (by omega) h.v.c.kc).mono ?_
  rintro e w' ⟨v, cs, rfl, h1, -, h3, h4, -, h6⟩
  obtain ⟨A1, c1, rfl, -⟩ := own_shape h3
  exact ⟨A1, c1, cs, rfl, h1, h3, h4, h6⟩
end
theorem new_sv (w0 w : World) (hk0 : Keeps [] w0 w) (A : Option Addr) (L : List Int) (c : Nat) (ha : AtZ w A L) (hr : ∀ x ∈ L, -9223372036854775808 ≤ x ∧ x ≤ 9223372036854775807) :
    Calls Tryz.prog 6 #[.slice A L.length c] w fun e w' => ∃ F p, e = .returned (.pointer (some ⟨p, 0, none⟩)) ∧ SV w0 w' F p (newS L) 1 ∧ Keeps [] w w' ∧ ∀ g ∈ F, w.heap.size ≤ g := by
  refine (new_any w A L c ha hr).mono ?_
  rintro e w' ⟨F, p, lm, cm, f, he, hp, hk, hf⟩
  exact ⟨F, p, he, ⟨⟨lm, cm, 1, 0, none, 0, f, hp, by omega, by show 0 + 0 ≤ 1; omega⟩, fun g hg => Nat.le_trans hk0.size (hf g hg), hk0.trans hk (by simp), Inv.newS L, (Cap.newS L).mono (by omega)⟩, hk, hf⟩
end Go.Proofs.YtcopjjokhjealaaGreat
namespace Go.Proofs.YtcopjjokhjealaaGreat
open Go.RowKit

section
variable {w0 w : World} {F : List Nat} {p : Nat} {s : Pl} {Φ : Nat}
theorem beg_sv (h : SV w0 w F p s Φ) (hΦ : Φ ≤ 800) (l i t : Int) (h1 : -9223372036854775808 ≤ l) (h2 : l ≤ 9223372036854775807) (h3 : -9223372036854775808 ≤ i) (h4 : i ≤ 9223372036854775807) :
    Calls Tryz.prog 16 #[.pointer (some ⟨p, 0, none⟩), .int .i64 l, .int .i64 i, .int .i64 t] w fun e w' =>
      e = .returned (.int .i64 (begE s l i t)) ∧ ∃ F', SV w0 w' F' p (begS s l i t) (Φ + 2) ∧ Keeps F w w' ∧ ∀ g ∈ F', g ∈ F ∨ w.heap.size ≤ g := by
  have hf := h.v.fit h.c
  obtain ⟨M, hM1, hM2⟩ := h.c
  refine (began_any w F p s Φ h.r (by omega) hf.itl M (by omega) hM1 l i t h1 h2 h3 h4).mono ?_
  rintro e w' ⟨he, F', hp, hk, hF⟩
  exact ⟨he, F', ⟨hp, fun g hg => (hF g hg).elim (h.f g) (fun hg' => Nat.le_trans h.k.size hg'), h.base hk, h.v.begS, Cap.begS ⟨M, hM1, hM2⟩⟩, hk, hF⟩
theorem fin_sv (h : SV w0 w F p s Φ) (hΦ : Φ ≤ 800) (l i : Int) :
    Calls Tryz.prog 18 #[.pointer (some ⟨p, 0, none⟩), .int .i64 l, .int .i64 i] w fun e w' => e = .returned (.int .i64 (finE s l i)) ∧ SV w0 w' F p (finS s l i) Φ ∧ Keeps F w w' := by
  refine (finished_pr w F p s Φ h.r hΦ l i).mono ?_
  rintro e w' ⟨he, hp, hk⟩
  exact ⟨he, ⟨hp, h.f, h.base hk, h.v.finS, h.c.finS⟩, hk⟩
theorem com_sv (h : SV w0 w F p s Φ) (hΦ : Φ ≤ 800) (l i : Int) (h1 : -9223372036854775808 ≤ l) (h2 : l ≤ 9223372036854775807)
    (Ai : Option Addr) (its : List Int) (ci : Nat) (hz : ∀ W, Keeps F w W → AtZ W Ai its) (hil : its.length ≤ 1000) (hir : ∀ x ∈ its, -9223372036854775808 ≤ x ∧ x ≤ 9223372036854775807) :
    Calls Tryz.prog 19 #[.pointer (some ⟨p, 0, none⟩), .int .i64 l, .int .i64 i, .slice Ai its.length ci] w fun e w' =>
      ∃ v s' o en, e = .returned (.tuple #[v, .int .i64 en]) ∧ ComR l i its s s' o en ∧ w'.ownsRow 0 3 1 v o.length (zs o) ∧ SV w0 w' F p s' (Φ + 1) ∧ Keeps F w w' ∧ ∀ g ∈ fp v, w.heap.size ≤ g := by
  have hf := h.v.fit h.c
  obtain ⟨M, hM1, hM2⟩ := h.c
  refine (committed_any w F p s Φ h.r (by omega) hf.ks hf.kr hf.hl hf.itl M (by omega) hM1 l i h1 h2 Ai its ci hz hil hir).mono ?_
  rintro e w' ⟨v, s', o, en, he, hr, ho, hp, hk, hg⟩
  exact ⟨v, s', o, en, he, hr, ho, ⟨hp, h.f, h.base hk, hr.inv h.v, (hr.cap ⟨M, hM1, hM2⟩).mono (by omega)⟩, hk, hg⟩
theorem fail_sv (h : SV w0 w F p s Φ) (hΦ : Φ ≤ 800) (l i : Int) (hok : kP.ok (l, i)) :
    Calls Tryz.prog 21 #[.pointer (some ⟨p, 0, none⟩), .int .i64 l, .int .i64 i] w fun e w' =>
      ∃ v s' o en, e = .returned (.tuple #[v, .int .i64 en]) ∧ AgR l i conC s s' o en ∧ w'.ownsRow 0 3 1 v o.length (zs o) ∧ SV w0 w' F p s' Φ ∧ Keeps F w w' ∧ ∀ g ∈ fp v, w.heap.size ≤ g := by
  have hf := h.v.fit h.c
  obtain ⟨M, hM1, hM2⟩ := h.c
  refine (failed_any w F p s Φ h.r (by omega) hf.ks M (by omega) hM1 l i hok).mono ?_
  rintro e w' ⟨v, s', o, en, he, hr, ho, hp, hk, hg⟩
  exact ⟨v, s', o, en, he, hr, ho, ⟨hp, h.f, h.base hk, hr.inv one_con h.v, hr.cap conC_ok ⟨M, hM1, hM2⟩⟩, hk, hg⟩
theorem drop_sv (h : SV w0 w F p s Φ) (hΦ : Φ ≤ 800) (l i : Int) (hok : kP.ok (l, i)) :
    Calls Tryz.prog 26 #[.pointer (some ⟨p, 0, none⟩), .int .i64 l, .int .i64 i] w fun e w' =>
      ∃ v s' o en, e = .returned (.tuple #[v, .int .i64 en]) ∧ AgR l i drpC s s' o en ∧ w'.ownsRow 0 3 1 v o.length (zs o) ∧ SV w0 w' F p s' Φ ∧ Keeps F w w' ∧ ∀ g ∈ fp v, w.heap.size ≤ g := by
  have hf := h.v.fit h.c
  obtain ⟨M, hM1, hM2⟩ := h.c
  refine (dropped_any w F p s Φ h.r (by omega) hf.ks M (by omega) hM1 l i hok).mono ?_
  rintro e w' ⟨v, s', o, en, he, hr, ho, hp, hk, hg⟩
  exact ⟨v, s', o, en, he, hr, ho, ⟨hp, h.f, h.base hk, hr.inv one_drp h.v, hr.cap drpC_ok ⟨M, hM1, hM2⟩⟩, hk, hg⟩
theorem nes_sv (h : SV w0 w F p s Φ) (hΦ : Φ ≤ 800) (par pid : Int) (Ai : Option Addr) (its : List Int) (ci : Nat) (hz : AtZ w Ai its) (hir : ∀ x ∈ its, -9223372036854775808 ≤ x ∧ x ≤ 9223372036854775807) :
    Calls Tryz.prog 20 #[.pointer (some ⟨p, 0, none⟩), .int .i64 par, .int .i64 pid, .slice Ai its.length ci] w fun e w' =>
      ∃ s' n en, e = .returned (.tuple #[.int .i64 n, .int .i64 en]) ∧ NesR par pid its s s' n en ∧ SV w0 w' F p s' (Φ + 1) ∧ Keeps F w w' := by
  have hf := h.v.fit h.c
  refine (nest_any w F p s Φ h.r (by omega) hf.id par pid Ai its ci hz hir).mono ?_
  rintro e w' ⟨s', n, en, he, hr, hp, hk⟩
  exact ⟨s', n, en, he, hr, ⟨hp, h.f, h.base hk, hr.inv h.v, (hr.cap h.c).mono (by omega)⟩, hk⟩
end
theorem take_get {L : List Int} {k : Nat} (hk : k < L.length) : L.take (k + 1) = L.take k ++ [L[k]] := by
  rw [List.take_add_one, List.getElem?_eq_getElem hk]; rfl
set_option maxRecDepth 100000 in
set_option maxHeartbeats 3200000 in
theorem sameInts_any (w : World) (A B : Option Addr) (L M : List Int) (c d : Nat) (ha : AtZ w A L) (hb : AtZ w B M) :
    Calls Tryz.prog 10 #[.slice A L.length c, .slice B M.length d] w fun e w' => e = .returned (.bool (decide (L = M))) ∧ Keeps [] w w' := by
  have hm := ha.mx
  have hm2 := hb.mx
  have HA := Lib.hid ha
  have HB := Lib.hid hb
  obtain ⟨V, hV⟩ : ∃ V, decide (L = M) = V := ⟨_, rfl⟩
  rw [hV]
  have HV := Lib.hid hV
  clear ha hb hV
  by_cases hl : L.length = M.length
  · have hli : (L.length : Int) = (M.length : Int) := by omega
    have HL := Lib.hid hl
    clear hl
    go_enter Tryz.func10, Tryz.ntmps10
    go_wp2_with fail
    go_loopw [5] (fun iv wr => ∃ k : Nat, k ≤ L.length ∧ iv = .int .i64 k ∧ L.take k = M.take k ∧ Keeps [] w wr) (fun iv _ => L.length - (intOf iv).toNat)
    case atStart => exact ⟨0, by omega, rfl, rfl, Keeps.refl _ _⟩
    case round =>
      obtain ⟨k, hk, rfl, htk, kp⟩ := hrel
      have HT := Lib.hid htk
      have KP := Lib.hid kp
      have HA1 := Lib.hid (HA.out.keep kp)
      have HB1 := Lib.hid (HB.out.keep kp)
      clear htk kp
      by_cases hlt : k < L.length
      · obtain ⟨bl, off, hAA, hbl, hc⟩ := HA1.out.at_ (by omega)
        obtain ⟨bl2, off2, hBB, hbl2, hc2⟩ := HB1.out.at_ (by have := HL.out; omega)
        subst hAA hBB
        have hlt2 : k < M.length := by have := HL.out; omega
        have c1 := hc k hlt
        have c2 := hc2 k hlt2
        have i0 : (0 : Int) ≤ (k : Int) := by omega
        have i1 : (k : Int) < (L.length : Int) := by omega
        have i2 : (k : Int) < (M.length : Int) := by omega
        have e1 : L.take (k + 1) = L.take k ++ [L[k]] := take_get hlt
        have e2 : M.take (k + 1) = M.take k ++ [M[k]] := take_get hlt2
        have HE : Hid (L[k] = M[k] → L.take (k + 1) = M.take (k + 1)) := Lib.hid (fun h => by rw [e1, e2, HT.out, h])
        have HN : Hid (L[k] ≠ M[k] → V = false) := Lib.hid (fun h => by
          rw [← HV.out]
          exact decide_eq_false (fun e => h (by subst e; rfl)))
        obtain ⟨x, hx⟩ : ∃ x, L[k] = x := ⟨_, rfl⟩
        obtain ⟨y, hy⟩ : ∃ y, M[k] = y := ⟨_, rfl⟩
        rw [hx] at c1 HE HN
        rw [hy] at c2 HE HN
        clear hc hc2 hx hy e1 e2 HT
        by_cases e : x = y
        · have HR := Lib.hid (HE.out e)
          clear HE HN
          go_wp2_with go_quiet (fail)
          go_roundw
          case rel => exact ⟨k + 1, by omega, by go_num, HR.out, KP.out.drewN _⟩
          case measure => simp [intOf]; omega
        · have HR := Lib.hid (HN.out e)
          clear HE HN
          go_wp2_with go_quiet (fail)
          go_ret
          rw [HR.out]
          exact ⟨rfl, KP.out.drewN _⟩
      · obtain rfl : k = L.length := by omega
        have HR : Hid (V = true) := Lib.hid (by
          rw [← HV.out]
          have h := HT.out
          rw [List.take_length, HL.out, List.take_length] at h
          exact decide_eq_true h)
        go_wp2_with fail
        go_ret
        rw [HR.out]
        exact ⟨rfl, KP.out⟩
  · have hli : ¬ (L.length : Int) = (M.length : Int) := by omega
    have HR : Hid (V = false) := Lib.hid (by
      rw [← HV.out]
      exact decide_eq_false (fun e => hl (by rw [e])))
    clear hl
    go_enter Tryz.func10, Tryz.ntmps10
    go_wp2_with fail
    go_ret
    rw [HR.out]
    exact ⟨rfl, Keeps.refl _ _⟩
end Go.Proofs.YtcopjjokhjealaaGreat
namespace Go.Proofs.YtcopjjokhjealaaGreat
open Go.RowKit

/-- Only the main line is there. -/
structure IsA (s : Pl) (li : List Rn) (its : List Int) : Prop where
  li : s.li = li
  h0 : s.ln 0 = some ⟨0, 1, its⟩
  hn : ∀ x, x ≠ 0 → s.ln x = none
/-- The main line and another. -/
structure IsB (s : Pl) (li : List Rn) (its : List Int) : Prop where
  li : s.li = li
  h0 : s.ln 0 = some ⟨0, 1, its⟩
  h1 : s.ln 1 = some ⟨12, 65, [3, 4]⟩
  hn : ∀ x, x ≠ 0 → x ≠ 1 → s.ln x = none
def begL (li : List Rn) (l i t : Int) (its : List Int) : Bool := decide (1 ≤ t) && decide (i ∈ its) && decide (fndI li l i < 0) && decide (triI li t < 0) && decide (manyI li l < 4)
theorem begL_ok {s : Pl} {li : List Rn} {l i t : Int} {n : Ln} (hli : s.li = li) (hn : s.ln l = some n) (h : begL li l i t n.it = true) : begE s l i t = 0 ∧ (begS s l i t).li = li ++ [⟨l, i, t, false⟩] ∧ (begS s l i t).ln = s.ln := by
  unfold begL at h
  simp only [Bool.and_eq_true, decide_eq_true_eq] at h
  obtain ⟨⟨⟨⟨h1, h2⟩, h3⟩, h4⟩, h5⟩ := h
  have e : begE s l i t = 0 := by
    unfold begE
    rw [hn]
    dsimp only
    unfold begN
    rw [if_neg (by omega), if_neg (by simp [h2]), hli, if_neg (by omega), if_neg (by omega)]
  refine ⟨e, ?_, ?_⟩
  · unfold begS; rw [if_pos e]; show s.li ++ _ = _; rw [hli]
  · unfold begS; rw [if_pos e]; rfl
theorem IsA.beg {s : Pl} {li : List Rn} {its : List Int} (h : IsA s li its) {i t : Int} (hb : begL li 0 i t its = true) : begE s 0 i t = 0 ∧ IsA (begS s 0 i t) (li ++ [⟨0, i, t, false⟩]) its := by
  obtain ⟨h1, h2, h3⟩ := begL_ok h.li h.h0 hb
  exact ⟨h1, h2, by rw [h3]; exact h.h0, fun x hx => by rw [h3]; exact h.hn x hx⟩
theorem IsB.beg {s : Pl} {li : List Rn} {its : List Int} (h : IsB s li its) {i t : Int} (hb : begL li 1 i t [3, 4] = true) : begE s 1 i t = 0 ∧ IsB (begS s 1 i t) (li ++ [⟨1, i, t, false⟩]) its := by
  obtain ⟨h1, h2, h3⟩ := begL_ok h.li h.h1 hb
  exact ⟨h1, h2, by rw [h3]; exact h.h0, by rw [h3]; exact h.h1, fun x hx hx1 => by rw [h3]; exact h.hn x hx hx1⟩
theorem IsA.fin {s : Pl} {li : List Rn} {its : List Int} (h : IsA s li its) {l i : Int} (hf : ¬ fndI li l i < 0) : finE s l i = 0 ∧ IsA (finS s l i) (doneR li (fndI li l i).toNat) its := by
  unfold finE finS
  rw [h.li, if_neg hf, if_neg hf]
  exact ⟨rfl, rfl, h.h0, h.hn⟩
theorem IsA.ahead {s : Pl} {li : List Rn} {its : List Int} (h : IsA s li its) : aheadV s 0 = if 4 ≤ manyI li 0 then none else its.find? (fun i => decide (fndI li 0 i < 0)) := by
  unfold aheadV
  rw [h.h0, h.li]
theorem IsA.old {s : Pl} {li : List Rn} {y : Int} {its : List Int} (h : IsA s li (y :: its)) : oldV s 0 = if fndI li 0 y < 0 then none else match li[(fndI li 0 y).toNat]? with
    | none => none
    | some r => if r.d then some (y, r.t) else none := by
  unfold oldV
  rw [h.h0]
  show oldY s 0 y = _
  unfold oldY
  rw [h.li]
  rfl
def r1 (d : Bool) : Rn := ⟨0, 1, 11, d⟩
def r2 (d : Bool) : Rn := ⟨0, 2, 12, d⟩
def r5 : Rn := ⟨0, 5, 13, false⟩
def r3 : Rn := ⟨1, 3, 14, false⟩
def L0 : List Int := [1, 2, 5, 6, 7, 9]
theorem sm_new : IsA (newS L0) [] L0 := by
  refine ⟨rfl, ?_, fun x hx => ?_⟩
  · show updG (fun _ => none) 0 (some _) (0 : Int) = _
    rw [updG_same]; rfl
  · show updG (fun _ => none) 0 (some _) x = _
    rw [updG_ne _ _ hx]
/-- Committed of the second item: not in order. -/
theorem sm_com1 {s s' : Pl} {o : List Int} {e : Int} (h : IsA s [r1 false, r2 true, r5] L0) (hr : ComR 0 2 [] s s' o e) : s' = s ∧ e = 25 := by
  rcases hr with ⟨h1, -⟩ | ⟨k, r, n, y, h1, h2, h3, h4, h5⟩
  · rw [h.li] at h1; exact absurd h1 (by decide)
  rw [h.h0] at h3
  injection h3 with h3
  subst h3
  injection h4 with h4
  subst h4
  rcases h5 with ⟨-, h, -, h'⟩ | ⟨h, -⟩ | ⟨h, -⟩ | ⟨h, -⟩ | ⟨h, -⟩
  · exact ⟨h, h'⟩
  all_goals exact absurd h (by decide)
theorem sm_vic {s : Pl} (h : IsA s [r1 false, r2 true, r5] L0) : vicV s 1 = some r5 := by
  unfold vicV
  rw [h.li]
  rfl
theorem sm_nes {s s' : Pl} {n e : Int} (h : IsA s [r1 false, r2 true, r5] L0) (hr : NesR 12 65 [3, 4] s s' n e) : n = 1 ∧ e = 0 ∧ IsB s' [r1 false, r2 true, r5] L0 := by
  have hln : ∀ x m, s.ln x = some m → x = 0 ∧ m = ⟨0, 1, L0⟩ := by
    intro x m hx
    by_cases e : x = 0
    · subst e; rw [h.h0] at hx; injection hx with hx; exact ⟨rfl, hx.symm⟩
    · rw [h.hn x e] at hx; cases hx
  have h1 : rightL [3, 4] = true := by rfl
  have h2 : ¬ triI s.li 12 < 0 := by rw [h.li]; decide
  have h3 : ¬ ∃ x m, s.ln x = some m ∧ m.par = 12 ∧ m.pid = 65 := by
    rintro ⟨x, m, g1, g2, -⟩
    rw [(hln x m g1).2] at g2
    exact absurd g2 (by decide)
  have h4 : cntL s = 1 := (cntL_of (ks := [0]) (fun x n hx => by have := (hln x n hx).1; omega) (by simp) (fun x => by
    constructor
    · intro hx
      rw [List.mem_singleton.1 hx, h.h0]; rfl
    · intro hx
      obtain ⟨m, hm⟩ := Option.isSome_iff_exists.1 hx
      simp [(hln x m hm).1])).symm
  rcases hr with ⟨g, -⟩ | ⟨-, g, -⟩ | ⟨-, -, g, -⟩ | ⟨-, -, -, g, -⟩ | ⟨-, -, -, -, g, g', ge⟩
  · rw [h1] at g; cases g
  · exact absurd g h2
  · exact absurd g h3
  · omega
  obtain ⟨g1, g2, g3⟩ := g
  have hn : n = 1 := by
    by_cases e : 1 < n
    · have := g3 1 (by omega) e
      rw [h.hn 1 (by omega)] at this
      cases this
    · omega
  subst hn
  subst g'
  refine ⟨rfl, ge, h.li, ?_, updG_same _ _ _, fun x hx hx1 => ?_⟩
  · show updG _ _ _ _ = _
    rw [updG_ne _ _ (by omega)]; exact h.h0
  · show updG _ _ _ _ = _
    rw [updG_ne _ _ hx1]; exact h.hn x hx
theorem sm_fail {s s' : Pl} {o : List Int} {e : Int} (h : IsB s [r1 false, r2 true, r5, r3] L0) (hr : AgR 0 2 conC s s' o e) : o = [12, 14] ∧ e = 0 ∧ IsA s' [r1 false, r5] L0 := by
  have hln : ∀ x m, 0 < x → s.ln x = some m → x = 1 ∧ m = ⟨12, 65, [3, 4]⟩ := by
    intro x m h0 hx
    by_cases e : x = 1
    · subst e; rw [h.h1] at hx; injection hx with hx; exact ⟨rfl, hx.symm⟩
    · rw [h.hn x (by omega) e] at hx; cases hx
  rcases hr with ⟨g, -⟩ | ⟨k, h1, h2, h3⟩
  · rw [h.li] at g; exact absurd g (by decide)
  have hk : k = 1 := by
    rw [h.li] at h1
    have : fndI [r1 false, r2 true, r5, r3] 0 2 = 1 := by decide
    rw [this] at h1; omega
  subst hk
  generalize hu : cntS s 0 2 conC = u at h2
  have u1 : u.li = [r1 false, r2 true, r5, r3] := by rw [← hu]; exact h.li
  have u2 : ∀ x, u.ln x = s.ln x := fun x => by rw [← hu]; rfl
  clear hu
  obtain ⟨ln, li, ct⟩ := u
  obtain rfl : li = _ := u1
  have d3 : Rm (.rem 2) (takeOut ⟨ln, [r1 false, r2 true, r5, r3], ct⟩ 1) (takeOut (takeOut ⟨ln, [r1 false, r2 true, r5, r3], ct⟩ 1) 2) [14] := by
    refine Rm.rem (s := takeOut ⟨ln, [r1 false, r2 true, r5, r3], ct⟩ 1) (k := 2) (ids := []) (by show 2 < [r1 false, r5, r3].length; decide) ⟨List.Pairwise.nil, fun x => ?_⟩ .nil
    constructor
    · intro hx; cases hx
    · rintro ⟨h0, n, g1, g2⟩
      have g1 : ln x = some n := g1
      have := u2 x
      dsimp only at this
      rw [this] at g1
      rw [(hln x n h0 g1).2] at g2
      have g2 : (12 : Int) = 14 := g2
      omega
  have d2 : Rm (.cut 1) (takeOut ⟨ln, [r1 false, r2 true, r5, r3], ct⟩ 1) (dropL (takeOut (takeOut ⟨ln, [r1 false, r2 true, r5, r3], ct⟩ 1) 2) 1) ([14] ++ []) := .step (k := 2) (by show ixF (fun x => decide (x.l = 1)) [r1 false, r5, r3] = _; decide) d3 (.done (by show ixF (fun x => decide (x.l = 1)) [r1 false, r5] < _; decide))
  have d1 : Rm (.rem 1) ⟨ln, [r1 false, r2 true, r5, r3], ct⟩ (dropL (takeOut (takeOut ⟨ln, [r1 false, r2 true, r5, r3], ct⟩ 1) 2) 1) (12 :: ([14] ++ [] ++ [])) := by
    refine Rm.rem (s := ⟨ln, [r1 false, r2 true, r5, r3], ct⟩) (k := 1) (ids := [1]) (by show 1 < [r1 false, r2 true, r5, r3].length; decide) ⟨by simp, fun x => ?_⟩ (.cons d2 .nil)
    constructor
    · intro hx
      rw [List.mem_singleton.1 hx]
      exact ⟨by omega, ⟨12, 65, [3, 4]⟩, (u2 1).trans h.h1, rfl⟩
    · rintro ⟨h0, n, g1, g2⟩
      have g1 : ln x = some n := g1
      have := u2 x
      dsimp only at this
      rw [this] at g1
      simp [(hln x n h0 g1).1]
  obtain ⟨rfl, rfl⟩ := h2.det d1
  refine ⟨rfl, h3, rfl, ?_, fun x hx => ?_⟩
  · show updG ln 1 none 0 = _
    rw [updG_ne _ _ (by omega)]; exact (u2 0).trans h.h0
  · show updG ln 1 none x = _
    by_cases e : x = 1
    · subst e; rw [updG_same]
    · rw [updG_ne _ _ e]; exact (u2 x).trans (h.hn x hx e)
theorem sm_com2 {s s' : Pl} {o : List Int} {e : Int} (h : IsA s [r1 true, r5] L0) (hr : ComR 0 1 [9] s s' o e) : o = [13] ∧ e = 0 ∧ IsA s' [] [9] := by
  have hw : ∀ t, IsW s t [] := fun t => ⟨List.Pairwise.nil, fun x => by
    constructor
    · intro hx; cases hx
    · rintro ⟨h0, n, g1, g2⟩
      rw [h.hn x (by omega)] at g1; cases g1⟩
  rcases hr with ⟨h1, -⟩ | ⟨k, r, n, y, h1, h2, h3, h4, h5⟩
  · rw [h.li] at h1; exact absurd h1 (by decide)
  rw [h.h0] at h3
  injection h3 with h3
  subst h3
  injection h4 with h4
  subst h4
  have hk : k = 0 := by
    rw [h.li] at h1
    have : fndI [r1 true, r5] 0 1 = 0 := by decide
    rw [this] at h1; omega
  subst hk
  rw [h.li] at h2
  injection h2 with h2
  subst h2
  rcases h5 with ⟨g, -⟩ | ⟨-, g, -⟩ | ⟨-, -, g, -⟩ | ⟨-, -, -, g, -⟩ | ⟨-, -, -, -, hst, he⟩
  · exact absurd rfl g
  · exact absurd g (by decide)
  · exact absurd (hw _) g
  · exact absurd (show rightL [9] = true by rfl) (by rw [g]; decide)
  obtain ⟨ln, li, ct⟩ := s
  obtain rfl : li = _ := h.li
  have hst1 := hst
  generalize hu : setIt (cntS (takeOut ⟨ln, [r1 true, r5], ct⟩ 0) 0 1 comC) 0 ⟨0, 1, L0⟩ [9] = u at hst1
  have u1 : u.li = [r5] := by rw [← hu]; rfl
  have u2 : u.ln = updG ln 0 (some ⟨0, 1, [9]⟩) := by rw [← hu]; rfl
  clear hu hst
  obtain ⟨ln2, li2, ct2⟩ := u
  obtain rfl : li2 = _ := u1
  obtain rfl : ln2 = _ := u2
  have key : ∀ (s s2 : Pl) (o2 : List Int), St 0 [9] s s2 o2 → s.li = [] → s2 = s ∧ o2 = [] := by
    intro s s2 o2 h hl
    cases h with
    | done _ => exact ⟨rfl, rfl⟩
    | step hq hk _ _ => rw [hl] at hk; exact absurd hk (by simp)
  cases hst1 with
  | done hq => exact absurd hq (show ¬ ixF (isStray 0 [9]) [r5] < 0 by decide)
  | @step _ s1 _ k o1 o2 hq hk g1 g2 =>
    have hk0 : k = 0 := by have : k < 1 := hk; omega
    subst hk0
    have d : Rm (.rem 0) (cntS ⟨updG ln 0 (some ⟨0, 1, [9]⟩), [r5], ct2⟩ 0 5 strC) (takeOut (cntS ⟨updG ln 0 (some ⟨0, 1, [9]⟩), [r5], ct2⟩ 0 5 strC) 0) [13] := by
      refine Rm.rem (s := cntS ⟨updG ln 0 (some ⟨0, 1, [9]⟩), [r5], ct2⟩ 0 5 strC) (k := 0) (ids := []) (by show 0 < [r5].length; decide) ⟨List.Pairwise.nil, fun x => ?_⟩ .nil
      constructor
      · intro hx; cases hx
      · rintro ⟨h0, n, q1, q2⟩
        have q1 : updG ln 0 (some ⟨0, 1, [9]⟩) x = some n := q1
        rw [updG_ne _ _ (by omega)] at q1
        have := h.hn x (by omega)
        dsimp only at this
        rw [this] at q1; cases q1
    obtain ⟨rfl, rfl⟩ := g1.det d
    obtain ⟨rfl, rfl⟩ := key _ _ _ g2 rfl
    refine ⟨rfl, he, rfl, updG_same _ _ _, fun x hx => ?_⟩
    show updG ln 0 _ x = none
    rw [updG_ne _ _ hx]; exact h.hn x hx
end Go.Proofs.YtcopjjokhjealaaGreat
namespace Go.Proofs.YtcopjjokhjealaaGreat
open Go.RowKit

theorem atZ_new (w : World) (L : List Int) (hm : L.length ≤ 1000000) : AtZ (w.alloc (.cells (zs L).toArray 3)) (some ⟨w.heap.size, 0, none⟩) L := by
  refine ⟨fun h0 => ⟨w.heap.size, 0, rfl, by simp, fun k hk => ?_⟩, hm⟩
  have b := Blk.new w 3 (zs L).toArray
  have hz : (zs L)[k]? = some (.int .i64 L[k]) := by unfold zs; rw [List.getElem?_map, List.getElem?_eq_getElem hk]; rfl
  rw [Nat.zero_add, b.cell k]
  simpa using hz
set_option maxRecDepth 1000000 in
set_option maxHeartbeats 12800000 in
theorem small_any (w : World) : Calls Tryz.prog 4 #[] w fun e w' => e = .returned (.bool true) ∧ Keeps [] w w' := by
  have Z0 := Lib.hid (atZ_new w L0 (by decide))
  have K0 : Hid (Keeps [] w (w.alloc (.cells (zs L0).toArray 3))) := Lib.hid ((Keeps.refl _ _).alloc _)
  have C0 := Lib.hid (new_sv w _ K0.out _ L0 6 Z0.out (by decide))
  clear Z0 K0
  go_enter Tryz.func4, Tryz.ntmps4
  go_wp2_with fail
  refine C0.out.mono ?_
  rintro e w1 ⟨F0, p, rfl, h, -, -⟩
  have H := Lib.hid h
  have C := Lib.hid (beg_sv h (by omega) 0 1 11 (by omega) (by omega) (by omega) (by omega))
  have A0 := sm_new
  obtain ⟨e1, A1⟩ := A0.beg (i := 1) (t := 11) (by decide)
  rw [e1] at C
  have HA := Lib.hid A1
  clear h C0 H A0 e1 A1
  go_wp2_with fail
  refine C.out.mono ?_
  rintro e w2 ⟨rfl, F1, h, -, -⟩
  replace C := Lib.hid (beg_sv h (by omega) 0 2 12 (by omega) (by omega) (by omega) (by omega))
  obtain ⟨e1, A1⟩ := HA.out.beg (i := 2) (t := 12) (by decide)
  rw [e1] at C
  replace HA := Lib.hid A1
  clear h e1 A1
  go_wp2_with fail
  refine C.out.mono ?_
  rintro e w3 ⟨rfl, F2, h, -, -⟩
  replace C := Lib.hid (beg_sv h (by omega) 0 5 13 (by omega) (by omega) (by omega) (by omega))
  obtain ⟨e1, A1⟩ := HA.out.beg (i := 5) (t := 13) (by decide)
  rw [e1] at C
  replace HA := Lib.hid A1
  clear h e1 A1
  go_wp2_with fail
  refine C.out.mono ?_
  rintro e w4 ⟨rfl, F3, h, -, -⟩
  obtain ⟨s3, hs3⟩ : ∃ s3, begS (begS (begS (newS L0) 0 1 11) 0 2 12) 0 5 13 = s3 := ⟨_, rfl⟩
  rw [hs3] at h HA
  have H := Lib.hid h
  have C1 : Hid (Calls Tryz.prog 17 #[.pointer (some ⟨p, 0, none⟩), .int .i64 0] w4 fun e w' => e = .returned (.tuple #[.int .i64 6, .bool true]) ∧ Keeps [] w4 w') := Lib.hid (by
    have := ahead_sv h (by omega) 0 (by omega) (by omega)
    rw [HA.out.ahead] at this
    exact this)
  clear h hs3 C
  go_wp2_with fail
  refine C1.out.mono ?_
  rintro e w5 ⟨rfl, k⟩
  have h := H.out.keep0 k
  replace H := Lib.hid h
  have C2 : Hid (Calls Tryz.prog 11 #[.pointer (some ⟨p, 0, none⟩), .int .i64 0] w5 fun e w' => e = .returned (.tuple #[.int .i64 0, .int .i64 0, .bool false]) ∧ Keeps [] w5 w') := Lib.hid (by
    have := oldest_sv h (by omega) 0 (by omega) (by omega)
    have e : oldV s3 0 = none := by
      rw [HA.out.old (y := 1) (its := [2, 5, 6, 7, 9])]; rfl
    rw [e] at this
    exact this)
  clear h k C1
  go_wp2_with fail
  refine C2.out.mono ?_
  rintro e w6 ⟨rfl, k⟩
  have h := H.out.keep0 k
  have C3 := Lib.hid (fin_sv h (by omega) 0 2)
  obtain ⟨e1, A1⟩ := HA.out.fin (l := 0) (i := 2) (by decide)
  rw [e1] at C3
  replace HA : Hid (IsA (finS s3 0 2) [r1 false, r2 true, r5] L0) := Lib.hid A1
  clear h k C2 H e1 A1
  go_wp2_with fail
  refine C3.out.mono ?_
  rintro e w7 ⟨rfl, h, k⟩
  obtain ⟨s4, hs4⟩ : ∃ s4, finS s3 0 2 = s4 := ⟨_, rfl⟩
  rw [hs4] at h HA
  have C4 := Lib.hid (com_sv h (by omega) 0 2 (by omega) (by omega) none [] 0 (fun W _ => ⟨fun h => absurd h (by simp), by simp⟩) (by simp) (by simp))
  clear h k C3 hs4
  go_wp2_with fail
  refine C4.out.mono ?_
  rintro e w8 ⟨v, s', o, en, rfl, hr, ho, h, k, -⟩
  obtain ⟨rfl, rfl⟩ := sm_com1 HA.out hr
  have H := Lib.hid h
  have C5 : Hid (Calls Tryz.prog 13 #[.pointer (some ⟨p, 0, none⟩)] w8 fun e w' => e = .returned (.tuple #[.int .i64 0, .int .i64 5, .int .i64 13, .bool true]) ∧ Keeps [] w8 w') := Lib.hid (by
    have := victim_sv h (by omega) 1 (fun r hr _ => ⟨_, HA.out.h0, rfl⟩)
    rw [sm_vic HA.out] at this
    exact this)
  obtain ⟨Av, cv, rfl, -, -, -⟩ := own_shape ho
  clear h k hr ho C4
  go_wp2_with fail
  refine C5.out.mono ?_
  rintro e w9 ⟨rfl, k⟩
  have h := H.out.keep0 k
  have ka : Keeps [] w9 (w9.alloc (.cells (zs [3, 4]).toArray 3)) := (Keeps.refl _ _).alloc _
  have C6 := Lib.hid (nes_sv (h.keep0 ka) (by omega) 12 65 _ [3, 4] 2 (atZ_new w9 [3, 4] (by decide)) (by decide))
  clear h k ka H C5
  go_wp2_with fail
  refine C6.out.mono ?_
  rintro e w10 ⟨s5, n, en, rfl, hr, h, k⟩
  obtain ⟨rfl, rfl, hb⟩ := sm_nes HA.out hr
  have C7 := Lib.hid (beg_sv h (by omega) 1 3 14 (by omega) (by omega) (by omega) (by omega))
  obtain ⟨e1, A1⟩ := hb.beg (i := 3) (t := 14) (by decide)
  rw [e1] at C7
  have HB := Lib.hid A1
  clear h k hb hr C6 HA e1 A1
  go_wp2_with fail
  refine C7.out.mono ?_
  rintro e w11 ⟨rfl, F4, h, -, -⟩
  obtain ⟨s6, hs6⟩ : ∃ s6, begS s5 1 3 14 = s6 := ⟨_, rfl⟩
  rw [hs6] at h HB
  have C8 := Lib.hid (fail_sv h (by omega) 0 2 (kP_ok (by decide) (by decide) (by decide) (by decide)))
  clear h C7 hs6
  go_wp2_with fail
  refine C8.out.mono ?_
  rintro e w12 ⟨v, s7, o, en, rfl, hr, ho, h, k, -⟩
  obtain ⟨rfl, rfl, ha⟩ := sm_fail HB.out hr
  obtain ⟨A1, c1, rfl, -, -, -⟩ := own_shape ho
  have OL := Lib.hid ho
  have H := Lib.hid h
  have C9 := Lib.hid (fin_sv h (by omega) 0 1)
  obtain ⟨e1, A1⟩ := ha.fin (l := 0) (i := 1) (by decide)
  rw [e1] at C9
  have HA : Hid (IsA (finS s7 0 1) [r1 true, r5] L0) := Lib.hid A1
  clear h k hr ho HB C8 e1 A1 ha
  go_wp2_with fail
  refine C9.out.mono ?_
  rintro e w13 ⟨rfl, h, k⟩
  replace OL := Lib.hid (H.out.own k OL.out (by decide) (by decide))
  obtain ⟨s8, hs8⟩ : ∃ s8, finS s7 0 1 = s8 := ⟨_, rfl⟩
  rw [hs8] at h HA
  have ka : Keeps [] w13 (w13.alloc (.cells (zs [9]).toArray 3)) := (Keeps.refl _ _).alloc _
  have h2 := h.keep0 ka
  have z9 := atZ_new w13 [9] (by decide)
  have b9 := Blk.new w13 3 (zs [9]).toArray
  have C10 := Lib.hid (com_sv h2 (by omega) 0 1 (by omega) (by omega) (some ⟨w13.heap.size, 0, none⟩) [9] 1 (fun W hW => ⟨fun _ => ⟨w13.heap.size, 0, rfl, (b9.keep hW (fun hg => h2.r.noInt _ hg ⟨_, _, b9⟩)).lt, fun j hj => by
    have hj0 : j = 0 := by simpa using hj
    subst hj0
    exact (b9.keep hW (fun hg => h2.r.noInt _ hg ⟨_, _, b9⟩)).cell 0⟩, by decide⟩) (by decide) (by decide))
  replace OL := Lib.hid (own_keep OL.out ka (by simp))
  replace H := Lib.hid h2
  clear h h2 k ka z9 b9 hs8 C9
  go_wp2_with fail
  refine C10.out.mono ?_
  rintro e w14 ⟨v, s9, o, en, rfl, hr, ho, h, k, -⟩
  obtain ⟨rfl, rfl, ha⟩ := sm_com2 HA.out hr
  obtain ⟨A2, c2, rfl, -, -, -⟩ := own_shape ho
  replace OL := Lib.hid (H.out.own k OL.out (by decide) (by decide))
  have OM := Lib.hid ho
  replace H := Lib.hid h
  have C11 : Hid (Calls Tryz.prog 17 #[.pointer (some ⟨p, 0, none⟩), .int .i64 0] w14 fun e w' => e = .returned (.tuple #[.int .i64 9, .bool true]) ∧ Keeps [] w14 w') := Lib.hid (by
    have := ahead_sv h (by omega) 0 (by omega) (by omega)
    rw [ha.ahead] at this
    exact this)
  clear h k hr ho HA C10 ha
  go_wp2_with fail
  refine C11.out.mono ?_
  rintro e w15 ⟨rfl, k⟩
  have ZL := Lib.hid (AtZ.of_own (own_keep OL.out k (by simp)) (by decide))
  have ZM := Lib.hid (AtZ.of_own (own_keep OM.out k (by simp)) (by decide))
  replace H := Lib.hid (H.out.keep0 k)
  clear k OL OM C11
  go_wp2_with fail
  have ka : Keeps [] w15 (w15.alloc (.cells (zs [12, 14]).toArray 3)) := (Keeps.refl _ _).alloc _
  have C12 : Hid (Calls Tryz.prog 10 #[.slice A1 2 c1, .slice (some ⟨w15.heap.size, 0, none⟩) 2 2] (w15.alloc (.cells #[.int .i64 12, .int .i64 14] 3)) fun e w' => e = .returned (.bool true) ∧ Keeps [] (w15.alloc (.cells #[.int .i64 12, .int .i64 14] 3)) w') := Lib.hid (by
    have := sameInts_any _ A1 (some ⟨w15.heap.size, 0, none⟩) [12, 14] [12, 14] c1 2 (ZL.out.keep ka) (atZ_new w15 [12, 14] (by decide))
    rw [decide_eq_true rfl] at this
    exact this)
  refine C12.out.mono ?_
  rintro e w16 ⟨rfl, k⟩
  have k2 := ka.trans k (by simp)
  have KA2 := Lib.hid (k2.alloc (.cells (zs [13]).toArray 3))
  have C13 : Hid (Calls Tryz.prog 10 #[.slice A2 1 c2, .slice (some ⟨w16.heap.size, 0, none⟩) 1 1] (w16.alloc (.cells #[.int .i64 13] 3)) fun e w' => e = .returned (.bool true) ∧ Keeps [] (w16.alloc (.cells #[.int .i64 13] 3)) w') := Lib.hid (by
    have := sameInts_any _ A2 (some ⟨w16.heap.size, 0, none⟩) [13] [13] c2 1 (ZM.out.keep KA2.out) (atZ_new w16 [13] (by decide))
    rw [decide_eq_true rfl] at this
    exact this)
  clear ka k k2 C12
  go_wp2_with fail
  refine C13.out.mono ?_
  rintro e w17 ⟨rfl, k⟩
  have HK := Lib.hid ((H.out.k.trans KA2.out (by simp)).trans k (by simp))
  clear k C13 KA2 H ZL ZM
  go_wp2_with fail
  go_ret
  exact ⟨rfl, HK.out⟩
end Go.Proofs.YtcopjjokhjealaaGreat
