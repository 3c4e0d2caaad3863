/- Texts of elder seats, turned to this one. -/
import Derived.Test.YteognipfnbocpaaGreatP3
namespace Go.Proofs.YteognipfnbocpaaGreat
open Go.RowKit
open T12 (E TbRep ent mapM mapN wlkM wlkB wlkN unmM clrM clrB lookX ents upd)
open T13 (Tl En TlRep es)

def FW (e : E) : Int × Bool := (e.fr, e.wr)
/-- An entry of a cache is in the table of its space. -/
def EOk (t : Int → Option Pg) (e : En) : Prop := (ent ((t e.s).getD pg0) e.p).map FW = some (e.f, e.w)
def EB (e : En) : Prop := (-9223372036854775808 ≤ e.s ∧ e.s ≤ 9223372036854775807) ∧ -9223372036854775808 ≤ e.p ∧ e.p ≤ 9223372036854775807
def Coh (s : Mm) : Prop := ∀ k ∈ s.C, ∀ e ∈ k.L, EOk s.t e ∧ EB e
def SameFW (m m' : Pg) : Prop := ∀ k, (m' k).map FW = (m k).map FW
theorem SameFW.ent {m m' : Pg} (h : SameFW m m') (pg : Int) : (T12.ent m' pg).map FW = (T12.ent m pg).map FW := by
  unfold T12.ent
  split
  · exact h _
  · rfl
theorem SameFW.refl (m : Pg) : SameFW m m := fun _ => rfl
theorem SameFW.trans {a b c : Pg} (h : SameFW a b) (k : SameFW b c) : SameFW a c := fun x => (k x).trans (h x)
theorem ent_pos {m : Pg} {pg : Int} {e : E} (h : ent m pg = some e) : 0 ≤ pg ∧ m pg.toNat = some e := by
  unfold ent at h
  split at h
  · exact ⟨by assumption, h⟩
  · cases h
theorem same_wlk (m : Pg) (pg : Int) (wr : Bool) : SameFW m (wlkM m pg wr) := by
  unfold wlkM
  cases h : ent m pg with
  | none => exact SameFW.refl m
  | some e =>
    simp only []
    split
    · exact SameFW.refl m
    · intro k
      unfold upd
      split
      · rename_i hk; rw [hk, (ent_pos h).2]; rfl
      · rfl
theorem same_clr (m : Pg) (pg : Int) : SameFW m (clrM m pg) := by
  unfold clrM
  cases h : ent m pg with
  | none => exact SameFW.refl m
  | some e =>
    intro k
    show (upd m pg.toNat _ k).map FW = _
    unfold upd
    split
    · rename_i hk; rw [hk, (ent_pos h).2]; rfl
    · rfl
theorem same_used (l : List (Nat × E)) (m : Pg) : SameFW m (usedM l m) := by
  induction l generalizing m with
  | nil => exact SameFW.refl m
  | cons a r ih => exact (same_clr m a.1).trans (ih _)
theorem eok_set {s : Mm} {x : Int} {m' : Pg} (h : SameFW (s.tab x) m') {e : En} (he : EOk s.t e) : EOk (s.setTab x m').t e := by
  cases hx : s.t x with
  | none => rw [setTab_none hx]; exact he
  | some m =>
    rw [setTab_some hx]
    unfold EOk at he ⊢
    show (ent ((updT s.t x (some m') e.s).getD pg0) e.p).map FW = _
    unfold updT
    split
    · rename_i hs
      rw [hs, hx] at he
      have ht : s.tab x = m := by unfold Mm.tab; rw [hx]; rfl
      rw [ht] at h
      show (ent m' e.p).map FW = _
      rw [h.ent]
      exact he
    · exact he
theorem Coh.set {s : Mm} (h : Coh s) {x : Int} {m' : Pg} (hs : SameFW (s.tab x) m') : Coh (s.setTab x m') := fun k hk e he => by
  rw [setTab_C] at hk
  exact ⟨eok_set hs (h k hk e he).1, (h k hk e he).2⟩
theorem Coh.cache {s : Mm} (h : Coh s) {i : Nat} {k : Tl} (hk : ∀ e ∈ k.L, EOk s.t e ∧ EB e) : Coh { s with C := s.C.set i k } := fun k' hk' e he => by
  rcases List.mem_or_eq_of_mem_set hk' with h1 | rfl
  · exact h k' h1 e he
  · exact hk e he
/-- A table is turned in whatever way, and the entries that no longer hold are shot. -/
theorem Coh.turn {s : Mm} (h : Coh s) {t' : Int → Option Pg} {kk : Nat} {d : En → Bool} (ht : ∀ e, EOk s.t e → d e = false → EOk t' e) : Coh (({ s with t := t', k := kk } : Mm).shoot d) := fun k hk e he => by
  obtain ⟨k', hk', rfl⟩ := List.mem_map.1 hk
  obtain ⟨h1, h2⟩ := List.mem_filter.1 he
  exact ⟨ht e (h k' hk' e h1).1 (by simpa using h2), (h k' hk' e h1).2⟩
theorem ent_upd {m : Pg} {pg p : Int} {o : Option E} (h1 : 0 ≤ pg) (h2 : p ≠ pg) : ent (upd m pg.toNat o) p = ent m p := by
  unfold ent upd
  split
  · rw [if_neg (by omega)]
  · rfl
theorem not_is {e : En} {x pg : Int} (h : e.is x pg = false) (hx : e.s = x) : e.p ≠ pg := by
  intro hp
  unfold T13.En.is at h
  simp [hx, hp] at h
theorem eok_upd {t : Int → Option Pg} {x pg : Int} {o : Option E} {e : En} (h1 : 0 ≤ pg) (he : EOk t e) (hd : e.is x pg = false) : EOk (updT t x (some (upd ((t x).getD pg0) pg.toNat o))) e := by
  unfold EOk at he ⊢
  unfold updT
  split
  · rename_i hs
    show (ent (upd _ _ _) e.p).map FW = _
    rw [ent_upd h1 (not_is hd hs), ← hs]
    exact he
  · exact he
theorem eok_same {t : Int → Option Pg} {x : Int} {e : En} (he : EOk t e) : EOk (updT t x (some ((t x).getD pg0))) e := by
  unfold EOk at he ⊢
  unfold updT
  split
  · rename_i hs; rw [← hs]; exact he
  · exact he
theorem Coh.map {s : Mm} (h : Coh s) (x pg fr : Int) (wr : Bool) : Coh (s.map x pg fr wr) := by
  unfold Mm.map
  split
  · rename_i hr
    have e : mapM (s.tab x) pg fr wr = upd (s.tab x) pg.toNat (some ⟨fr, wr, false, false⟩) := by unfold mapM; rw [if_pos hr]
    rw [e]
    exact h.turn (fun e he hd => eok_upd hr.1 he hd)
  · exact h
theorem Coh.unmap {s : Mm} (h : Coh s) (x pg : Int) : Coh (s.unmap x pg) := by
  unfold Mm.unmap
  cases hx : s.t x with
  | none =>
    rw [setTab_none hx]
    exact h.turn (t' := s.t) (kk := s.k) (fun e he _ => he)
  | some m =>
    rw [setTab_some hx]
    refine h.turn (kk := s.k) (fun e he hd => ?_)
    have ht : s.tab x = (s.t x).getD pg0 := rfl
    rw [ht]
    unfold unmM
    cases hm : ent ((s.t x).getD pg0) pg with
    | none => exact eok_same he
    | some e0 => exact eok_upd (ent_pos hm).1 he hd
theorem Coh.lose {s : Mm} (h : Coh s) (fr : Int) : Coh (s.lose fr) := by
  refine h.turn (kk := s.k) (fun e he hd => ?_)
  unfold EOk at he ⊢
  show (ent (((s.t e.s).map (loseT fr)).getD pg0) e.p).map FW = _
  cases hx : s.t e.s with
  | none => rw [hx] at he; exact he
  | some m =>
    rw [hx] at he
    show (ent (loseT fr m) e.p).map FW = _
    have he' : (ent m e.p).map FW = some (e.f, e.w) := he
    cases hm : ent m e.p with
    | none => rw [hm] at he'; cases he'
    | some e0 =>
      obtain ⟨h1, h2⟩ := ent_pos hm
      rw [hm] at he'
      have hf : e0.fr = e.f := by injection he' with h; exact congrArg Prod.fst h
      have hne : e0.fr ≠ fr := by rw [hf]; simpa using hd
      unfold ent
      rw [if_pos h1]
      unfold loseT
      rw [h2]
      simp only [if_neg hne]
      exact he'
theorem Coh.end_ {s : Mm} (h : Coh s) (x : Int) : Coh (s.end_ x) := by
  refine h.turn (kk := s.k) (fun e he hd => ?_)
  unfold EOk at he ⊢
  unfold updT
  rw [if_neg (by simpa using hd)]
  exact he
theorem Coh.used {s : Mm} (h : Coh s) (x : Int) : Coh (s.used x) := h.set (same_used _ _)
theorem tab_cache (s : Mm) (C : List Tl) (x : Int) : ({ s with C := C } : Mm).tab x = s.tab x := rfl
theorem lookX_some {m : Pg} {pg : Int} {e : E} (h : ent m pg = some e) : lookX m pg = (pg, e) := by unfold lookX; rw [h]
theorem wlk_yes {m : Pg} {pg : Int} {wr : Bool} (h : wlkB m pg wr = true) : ∃ e, ent m pg = some e ∧ wlkN m pg wr = e.fr ∧ ent (wlkM m pg wr) pg = some ⟨e.fr, e.wr, true, e.di || wr⟩ ∧ (wr && !e.wr) = false := by
  unfold wlkB at h
  cases hm : ent m pg with
  | none => rw [hm] at h; cases h
  | some e =>
    rw [hm] at h
    have hw : (wr && !e.wr) = false := by
      have h' : (!(wr && !e.wr)) = true := h
      cases hx : (wr && !e.wr)
      · rfl
      · rw [hx] at h'; cases h'
    refine ⟨e, rfl, by unfold wlkN; rw [hm]; simp only [hw]; rfl, ?_, hw⟩
    obtain ⟨h1, _⟩ := ent_pos hm
    unfold wlkM
    rw [hm]
    simp only [hw]
    unfold ent
    rw [if_pos h1]
    show upd m pg.toNat _ pg.toNat = _
    rw [T12.upd_same]
theorem Coh.acc {s : Mm} (h : Coh s) (cpu x pg : Int) (wr : Bool) (h1 : -9223372036854775808 ≤ x ∧ x ≤ 9223372036854775807) (h2 : -9223372036854775808 ≤ pg ∧ pg ≤ 9223372036854775807) : Coh (s.acc cpu x pg wr).s := by
  unfold Mm.acc
  split
  · exact h
  · split
    · exact h
    · rename_i k hk
      have hkm := List.mem_of_getElem? hk
      have hc1 : Coh ({ s with C := s.C.set cpu.toNat (k.look x pg wr) } : Mm) := h.cache (fun e he => h k hkm e (look_mem e he))
      have hc2 : Coh (({ s with C := s.C.set cpu.toNat (k.look x pg wr) } : Mm).setTab x (wlkM (s.tab x) pg wr)) := hc1.set (same_wlk _ _ _)
      unfold accK
      split
      · exact hc2
      · split
        · rename_i hb
          refine hc2.cache (fun e he => ?_)
          obtain ⟨e0, g1, g2, g3, _⟩ := wlk_yes hb
          have hne : s.t x ≠ none := fun hn => by
            have : s.tab x = pg0 := by unfold Mm.tab; rw [hn]; rfl
            rw [this] at g1
            unfold ent at g1
            split at g1 <;> cases g1
          obtain ⟨m0, hm0⟩ := Option.ne_none_iff_exists'.1 hne
          have hnew : ∀ e, e = (⟨x, pg, wlkN (s.tab x) pg wr, (lookX (wlkM (s.tab x) pg wr) pg).2.wr⟩ : En) → EOk (({ s with C := s.C.set cpu.toNat (k.look x pg wr) } : Mm).setTab x (wlkM (s.tab x) pg wr)).t e ∧ EB e := by
            rintro e rfl
            refine ⟨?_, h1, h2⟩
            rw [setTab_some (s := ({ s with C := s.C.set cpu.toNat (k.look x pg wr) } : Mm)) hm0]
            unfold EOk
            show (ent ((updT s.t x (some (wlkM (s.tab x) pg wr)) x).getD pg0) pg).map FW = _
            unfold updT
            rw [if_pos rfl]
            show (ent (wlkM (s.tab x) pg wr) pg).map FW = _
            rw [g3, lookX_some g3, g2]
            rfl
          have hold : ∀ e ∈ (k.look x pg wr).L, EOk (({ s with C := s.C.set cpu.toNat (k.look x pg wr) } : Mm).setTab x (wlkM (s.tab x) pg wr)).t e ∧ EB e := fun e he => ⟨eok_set (s := ({ s with C := s.C.set cpu.toNat (k.look x pg wr) } : Mm)) (same_wlk _ _ _) (h k hkm e (look_mem e he)).1, (h k hkm e (look_mem e he)).2⟩
          unfold T13.Tl.fill at he
          simp only [] at he
          split at he
          · exact hold e (List.mem_filter.1 he).1
          · rcases List.mem_cons.1 he with he | he
            · exact hnew e he
            · exact hold e (List.mem_filter.1 (List.mem_of_mem_take he)).1
        · exact hc2
theorem Coh.op {s : Mm} (h : Coh s) (o : Op) (wf : o.Wf) : Coh (s.op o) := by
  unfold Mm.op
  split
  · exact Coh.acc h _ _ _ _ ⟨wf.x1, wf.x2⟩ ⟨wf.p1, wf.p2⟩
  · split
    · exact Coh.map h _ _ _ _
    · split
      · exact Coh.unmap h _ _
      · split
        · exact Coh.lose h _
        · split
          · exact Coh.end_ h _
          · exact Coh.used h _
theorem Coh.zero (n : Nat) : Coh (mm0 n) := fun k hk e he => by
  have : k = tl0 := by simp only [mm0, List.mem_replicate] at hk; exact hk.2
  subst this
  simp [tl0] at he
/-- What Access says. -/
def wantB (s : Mm) (cpu x pg : Int) (wr : Bool) : Bool := (ent (s.tab x) pg).isSome && ((lookX (s.tab x) pg).2.wr || !wr) && decide (0 ≤ cpu) && decide (cpu < (s.C.length : Int))
theorem acc_law {s : Mm} (h : Coh s) (cpu x pg : Int) (wr : Bool) : (s.acc cpu x pg wr).ok = wantB s cpu x pg wr ∧ ((s.acc cpu x pg wr).ok = true → (s.acc cpu x pg wr).f = (lookX (s.tab x) pg).2.fr) := by
  by_cases hc : cpu < 0 ∨ (s.C.length : Int) ≤ cpu
  · rw [acc_no hc]
    refine ⟨?_, fun h => by cases h⟩
    unfold wantB
    rcases hc with hc | hc
    · rw [decide_eq_false (by omega : ¬ 0 ≤ cpu)]; simp
    · rw [decide_eq_false (by omega : ¬ cpu < (s.C.length : Int))]; simp
  · obtain ⟨i, rfl⟩ : ∃ i : Nat, cpu = i := ⟨cpu.toNat, by omega⟩
    have hi : i < s.C.length := by omega
    have hk := List.getElem?_eq_getElem hi
    have hkm := List.getElem_mem hi
    rw [acc_at hk]
    have hw : wantB s i x pg wr = ((ent (s.tab x) pg).isSome && ((lookX (s.tab x) pg).2.wr || !wr)) := by
      unfold wantB
      rw [decide_eq_true (by omega : (0 : Int) ≤ i), decide_eq_true (by omega : (i : Int) < (s.C.length : Int))]
      simp
    rw [hw]
    generalize s.C[i] = k at *
    unfold accK
    cases hh : k.hit x pg wr with
    | some j =>
      obtain ⟨hj, h1, h2⟩ := hit_lt hh
      have hr : k.lookR x pg wr = ((k.L[j]).f, true) := by
        unfold T13.Tl.lookR
        rw [hh]
        have e : k.L.getD j T13.en0 = k.L[j] := by simp [List.getD_eq_getElem?_getD, List.getElem?_eq_getElem hj]
        simp only [e]
      have he := (h k hkm _ (List.getElem_mem hj)).1
      unfold EOk at he
      have hs : (k.L[j]).s = x ∧ (k.L[j]).p = pg := by
        unfold T13.En.is at h1
        simpa using h1
      rw [hs.1, hs.2] at he
      have he' : (ent (s.tab x) pg).map FW = some ((k.L[j]).f, (k.L[j]).w) := he
      cases hm : ent (s.tab x) pg with
      | none => rw [hm] at he'; cases he'
      | some e0 =>
        rw [hm] at he'
        have e1 : e0.fr = (k.L[j]).f ∧ e0.wr = (k.L[j]).w := by
          injection he' with h
          exact ⟨congrArg Prod.fst h, congrArg Prod.snd h⟩
        rw [hr, lookX_some hm]
        simp only [Option.isSome_some, Bool.true_and, if_true]
        refine ⟨?_, fun _ => e1.1.symm⟩
        rw [e1.2]
        cases hw1 : wr <;> cases hw2 : (k.L[j]).w <;> rw [hw1, hw2] at h2 <;> simp_all
    | none =>
      have hr : k.lookR x pg wr = (0, false) := by unfold T13.Tl.lookR; rw [hh]
      rw [hr]
      simp only [Bool.false_eq_true, if_false]
      cases hb : wlkB (s.tab x) pg wr with
      | true =>
        obtain ⟨e0, g1, g2, _, g4⟩ := wlk_yes hb
        simp only [if_true]
        rw [g1, lookX_some g1, g2]
        refine ⟨?_, fun _ => rfl⟩
        cases hw1 : wr <;> cases hw2 : e0.wr <;> rw [hw1, hw2] at g4 <;> simp_all
      | false =>
        simp only [Bool.false_eq_true, if_false]
        refine ⟨?_, fun h => by cases h⟩
        unfold wlkB at hb
        cases hm : ent (s.tab x) pg with
        | none => rfl
        | some e0 =>
          rw [hm] at hb
          rw [lookX_some hm]
          cases hw1 : wr <;> cases hw2 : e0.wr <;> simp_all
end Go.Proofs.YteognipfnbocpaaGreat
namespace Go.Proofs.YteognipfnbocpaaGreat
open Go.RowKit
open T12 (E TbRep ent mapM mapN lookX)
open T13 (Tl En TlRep es)

/-- The Mmu s lies at p; all its blocks are new since w0. -/
def MmW (w0 w : World) (p : Nat) (s : Mm) : Prop := ∃ F, MmRep w F p s ∧ Keeps [] w0 w ∧ ∀ g ∈ F, w0.heap.size ≤ g
section
variable {w0 w w' : World} {p N : Nat} {s s' : Mm} {ks : List Int}
theorem MmW.keeps (h : MmW w0 w p s) : Keeps [] w0 w := by obtain ⟨F, _, h, _⟩ := h; exact h
theorem MmW.same (h : MmW w0 w p s) (hk : Keeps [] w w') : MmW w0 w' p s := by
  obtain ⟨F, h1, h2, h3⟩ := h
  exact ⟨F, h1.keep hk (by simp), h2.trans hk (by simp), h3⟩
theorem MmW.off (h : MmW w0 w p s) {H : List Nat} (hk : Keeps H w w') (hH : ∀ F, MmRep w F p s → (∀ g ∈ F, w0.heap.size ≤ g) → ∀ g ∈ F, g ∉ H) (hH2 : ∀ g ∈ H, w0.heap.size ≤ g) : MmW w0 w' p s := by
  obtain ⟨F, h1, h2, h3⟩ := h
  exact ⟨F, h1.keep hk (hH F h1 h3), h2.trans hk (fun g hg => .inr (hH2 g hg)), h3⟩
theorem MmNext.mmw {F : List Nat} (h : MmNext w w' F p s') (hk : Keeps [] w0 w) (hF : ∀ g ∈ F, w0.heap.size ≤ g) : MmW w0 w' p s' := by
  obtain ⟨F', h1, h2, h3⟩ := h
  have := hk.size
  exact ⟨F', h1, hk.trans h2 (fun g hg => .inr (hF g hg)), fun g hg => (h3 g hg).elim (hF g) (fun h => by omega)⟩
theorem mmw_new (w : World) (n : Int) (hn : n ≤ 64) : Calls Tryz.prog 5 #[.int .i64 n] w fun e w' => ∃ p, e = .returned (.pointer (some ⟨p, 0, none⟩)) ∧ MmW w w' p (mm0 n.toNat) :=
  (new_any w n hn).mono fun _ _ ⟨F, p, h1, h2, h3, h4⟩ => ⟨p, h1, F, h2, h3, h4⟩
theorem MmW.look (h : MmW w0 w p s) (x pg : Int) (h1 : -9223372036854775808 ≤ x) (h2 : x ≤ 9223372036854775807) (h3 : -9223372036854775808 ≤ pg) (h4 : pg ≤ 9223372036854775807) :
    Calls Tryz.prog 13 #[.pointer (some ⟨p, 0, none⟩), .int .i64 x, .int .i64 pg] w fun e w' => e = .returned (.tuple #[pteV (lookX (s.tab x) pg), .bool (ent (s.tab x) pg).isSome]) ∧ Keeps [] w w' := by
  obtain ⟨F, g1, g2, g3⟩ := h
  exact (look_any w F p s g1 x pg h1 h2 h3 h4).mono fun _ _ ⟨a, _, c⟩ => ⟨a, c⟩
theorem MmW.cache (h : MmW w0 w p s) (mi : MI N ks s) (i : Int) :
    Calls Tryz.prog 19 #[.pointer (some ⟨p, 0, none⟩), .int .i64 i] w fun e w' => ∃ v, e = .returned v ∧ w'.ownsRow 0 83 4 v (cacheL s i).length (es (cacheL s i)) ∧ Keeps [] w w' ∧ ∀ g ∈ fp v, w.heap.size ≤ g := by
  obtain ⟨F, g1, g2, g3⟩ := h
  exact (cache_any w F p s g1 i (fun k hk => by have := (mi.k k hk).1; omega) (by have := mi.c; omega)).mono fun _ _ ⟨v, a, b, _, c, d⟩ => ⟨v, a, b, c, d⟩
theorem MmW.shot (h : MmW w0 w p s) : Calls Tryz.prog 10 #[.pointer (some ⟨p, 0, none⟩)] w fun e w' => e = .returned (.int .i64 s.n) ∧ w = w' := by
  obtain ⟨F, ⟨L, b, nb, q, A, cap, c, g1, _⟩, g2, g3⟩ := h
  exact shot_any w g1
theorem MmW.acc (h : MmW w0 w p s) (mi : MI N ks s) (hN : N ≤ 1000) (cpu x pg : Int) (wr : Bool) (h1 : -9223372036854775808 ≤ x) (h2 : x ≤ 9223372036854775807) (h3 : -9223372036854775808 ≤ pg) (h4 : pg ≤ 9223372036854775807) :
    Calls Tryz.prog 22 #[.pointer (some ⟨p, 0, none⟩), .int .i64 cpu, .int .i64 x, .int .i64 pg, .bool wr] w fun e w' => e = .returned (.tuple #[.int .i64 (s.acc cpu x pg wr).f, .bool (s.acc cpu x pg wr).ok]) ∧ MmW w0 w' p (s.acc cpu x pg wr).s := by
  obtain ⟨F, g1, g2, g3⟩ := h
  exact (acc_any w F p s g1 (mi.ok hN) cpu x pg wr h1 h2 h3 h4).mono fun _ _ ⟨a, b⟩ => ⟨a, b.mmw g2 g3⟩
theorem MmW.map (h : MmW w0 w p s) (mi : MI N ks s) (hN : N ≤ 1000) (x pg fr : Int) (wr : Bool) (h1 : -9223372036854775808 ≤ x) (h2 : x ≤ 9223372036854775807) (h3 : -9223372036854775808 ≤ pg) (h4 : pg ≤ 9223372036854775807) (h5 : -9223372036854775808 ≤ fr) (h6 : fr ≤ 9223372036854775807) :
    Calls Tryz.prog 21 #[.pointer (some ⟨p, 0, none⟩), .int .i64 x, .int .i64 pg, .int .i64 fr, .bool wr] w fun e w' => e = .returned (.int .i64 (mapN pg fr)) ∧ MmW w0 w' p (s.map x pg fr wr) := by
  obtain ⟨F, g1, g2, g3⟩ := h
  exact (map_any w F p s g1 (mi.ok hN) (by have := mi.kk; omega) x pg fr wr h1 h2 h3 h4 h5 h6).mono fun _ _ ⟨a, b⟩ => ⟨a, b.mmw g2 g3⟩
theorem MmW.lose (h : MmW w0 w p s) (mi : MI N ks s) (hN : N ≤ 1000) (fr : Int) :
    Calls Tryz.prog 23 #[.pointer (some ⟨p, 0, none⟩), .int .i64 fr] w fun e w' => e = .returned (.int .i64 (sumD fr s.t (fun _ => false) ks)) ∧ MmW w0 w' p (s.lose fr) := by
  obtain ⟨F, g1, g2, g3⟩ := h
  exact (lose_any w F p s g1 (mi.ok hN) fr ks mi.nd mi.ki (by have := mi.kl; omega)).mono fun _ _ ⟨a, b⟩ => ⟨a, b.mmw g2 g3⟩
theorem MmW.do_ (h : MmW w0 w p s) (mi : MI N ks s) (hN : N ≤ 1000) (o : Op) (wf : o.Wf) :
    Calls Tryz.prog 7 #[.pointer (some ⟨p, 0, none⟩), o.v] w fun e w' => ∃ v, e = .returned (.tuple #[.int .i64 (opA ks s o), .int .i64 (opB s o), v]) ∧ w'.ownsRow 0 3 1 v (opL s o).length (iv (opL s o)) ∧ MmW w0 w' p (s.op o) ∧ ∀ g ∈ fp v, w.heap.size ≤ g := by
  obtain ⟨F, g1, g2, g3⟩ := h
  exact (do_any w F p s o ks ⟨g1, mi.ok hN, by have := mi.kk; omega, wf, mi.nd, mi.ki, by have := mi.kl; omega⟩).mono fun _ _ ⟨v, a, b, c, d⟩ => ⟨v, a, b, c.mmw g2 g3, d⟩
end
def q1 : Mm := (mm0 2).map 7 3 100 false
def a1 : Acc := q1.acc 0 7 3 false
def a2 : Acc := a1.s.acc 1 7 3 true
def q3 : Mm := a2.s.map 7 3 101 true
def a4 : Acc := q3.acc 0 7 3 true
def q5 : Mm := a4.s.lose 101
def a6 : Acc := q5.acc 0 7 3 false
theorem f1 : a1.f = 100 ∧ a1.ok = true := ⟨by kernel_rfl, by kernel_rfl⟩
theorem f2 : a2.ok = false := by kernel_rfl
theorem f4 : a4.f = 101 ∧ a4.ok = true ∧ a4.s.n = 1 := ⟨by kernel_rfl, by kernel_rfl, by kernel_rfl⟩
theorem f5 : sumD 101 a4.s.t (fun _ => false) (addK (addK [] 7) 7) = 1 := by kernel_rfl
theorem f6 : a6.ok = false ∧ a6.s.n = 2 := ⟨by kernel_rfl, by kernel_rfl⟩
theorem mq1 : MI 2 (addK [] 7) q1 := (MI.zero (n := 2) (by omega)).map 7 3 100 false
theorem mq3 : MI 4 (addK (addK [] 7) 7) q3 := ((mq1.acc 0 7 3 false).acc 1 7 3 true).map 7 3 101 true
theorem mq5 : MI 5 (addK (addK [] 7) 7) q5 := (mq3.acc 0 7 3 true).lose 101
end Go.Proofs.YteognipfnbocpaaGreat
namespace Go.Proofs.YteognipfnbocpaaGreat
open Go.RowKit
open T12 (E TbRep ent mapM mapN lookX)
open T13 (Tl En TlRep es)

set_option maxRecDepth 100000 in
set_option maxHeartbeats 3200000 in
theorem small_any (w : World) : Calls Tryz.prog 4 #[] w fun e w' => e = .returned (.bool true) ∧ Keeps [] w w' := by
  go_enter Tryz.func4, Tryz.ntmps4
  go_wp2_with fail
  refine (mmw_new w 2 (by omega)).mono ?_
  rintro e w1 ⟨p, rfl, h1⟩
  have c1 := Lib.hid (h1.map (MI.zero (n := 2) (by omega)) (by omega) 7 3 100 false (by omega) (by omega) (by omega) (by omega) (by omega) (by omega))
  have C1 : Hid (Calls Tryz.prog 21 #[.pointer (some ⟨p, 0, none⟩), .int .i64 7, .int .i64 3, .int .i64 100, .bool false] w1 fun e w' => e = .returned (.int .i64 0) ∧ MmW w w' p q1) := c1
  clear c1 h1
  go_wp2_with fail
  refine C1.out.mono ?_
  rintro e w2 ⟨rfl, h2⟩
  have c2 := h2.acc mq1 (by omega) 0 7 3 false (by omega) (by omega) (by omega) (by omega)
  change Calls _ _ _ _ (fun e w' => e = .returned (.tuple #[.int .i64 a1.f, .bool a1.ok]) ∧ MmW w w' p a1.s) at c2
  rw [f1.1, f1.2] at c2
  have C2 := Lib.hid c2
  clear c2 h2 C1
  go_wp2_with fail
  refine C2.out.mono ?_
  rintro e w3 ⟨rfl, h3⟩
  have c3 := h3.acc (mq1.acc 0 7 3 false) (by omega) 1 7 3 true (by omega) (by omega) (by omega) (by omega)
  change Calls _ _ _ _ (fun e w' => e = .returned (.tuple #[.int .i64 a2.f, .bool a2.ok]) ∧ MmW w w' p a2.s) at c3
  rw [f2] at c3
  have C3 := Lib.hid c3
  clear c3 h3 C2
  go_wp2_with fail
  refine C3.out.mono ?_
  rintro e w4 ⟨rfl, h4⟩
  have c4 := Lib.hid (h4.map ((mq1.acc 0 7 3 false).acc 1 7 3 true) (by omega) 7 3 101 true (by omega) (by omega) (by omega) (by omega) (by omega) (by omega))
  have C4 : Hid (Calls Tryz.prog 21 #[.pointer (some ⟨p, 0, none⟩), .int .i64 7, .int .i64 3, .int .i64 101, .bool true] w4 fun e w' => e = .returned (.int .i64 0) ∧ MmW w w' p q3) := c4
  clear c4 h4 C3
  go_wp2_with fail
  refine C4.out.mono ?_
  rintro e w5 ⟨rfl, h5⟩
  have c5 := h5.acc mq3 (by omega) 0 7 3 true (by omega) (by omega) (by omega) (by omega)
  change Calls _ _ _ _ (fun e w' => e = .returned (.tuple #[.int .i64 a4.f, .bool a4.ok]) ∧ MmW w w' p a4.s) at c5
  rw [f4.1, f4.2.1] at c5
  have C5 := Lib.hid c5
  clear c5 h5 C4
  go_wp2_with fail
  refine C5.out.mono ?_
  rintro e w6 ⟨rfl, h6⟩
  have c6 := h6.shot
  rw [f4.2.2] at c6
  have C6 := Lib.hid c6
  have c7 := h6.lose (mq3.acc 0 7 3 true) (by omega) 101
  change Calls _ _ _ _ (fun e w' => e = .returned (.int .i64 (sumD 101 a4.s.t (fun _ => false) (addK (addK [] 7) 7) : Nat)) ∧ MmW w w' p q5) at c7
  rw [f5] at c7
  have C7 := Lib.hid c7
  clear c6 c7 h6 C5
  go_wp2_with fail
  refine C6.out.mono ?_
  rintro e w7 ⟨rfl, rfl⟩
  clear C6
  go_wp2_with fail
  refine C7.out.mono ?_
  rintro e w8 ⟨rfl, h8⟩
  have c8 := h8.acc mq5 (by omega) 0 7 3 false (by omega) (by omega) (by omega) (by omega)
  change Calls _ _ _ _ (fun e w' => e = .returned (.tuple #[.int .i64 a6.f, .bool a6.ok]) ∧ MmW w w' p a6.s) at c8
  rw [f6.1] at c8
  have C8 := Lib.hid c8
  clear c8 h8 C7
  go_wp2_with fail
  refine C8.out.mono ?_
  rintro e w9 ⟨rfl, h9⟩
  have c9 := h9.shot
  rw [f6.2] at c9
  have C9 := Lib.hid c9
  have K9 := h9.keeps
  clear c9 h9 C8
  go_wp2_with fail
  refine C9.out.mono ?_
  rintro e w10 ⟨rfl, rfl⟩
  clear C9
  go_wp2_with fail
  go_ret
  exact ⟨rfl, K9⟩
end Go.Proofs.YteognipfnbocpaaGreat
