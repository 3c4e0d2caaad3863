/- The caches agree with the tables. -/
import Derived.Test.YteognipfnbocpaaP3
namespace Go.Proofs.Yteognipfnbocpaa
open Go.RowKit
open T12 (E TbRep ent mapM mapN wlkM wlkB wlkN unmM clrM clrB lookX ents upd)
open T13 (Tl En TlRep es)

def FW (e : E) : Int × Bool := (e.fr, e.wr)
/-- An entry of a cache is in the table of its space. -/
def EOk (t : Int → Option Pg) (e : En) : Prop := (ent ((t e.s).getD pg0) e.p).map FW = some (e.f, e.w)
def EB (e : En) : Prop := (-9223372036854775808 ≤ e.s ∧ e.s ≤ 9223372036854775807) ∧ -9223372036854775808 ≤ e.p ∧ e.p ≤ 9223372036854775807
def Coh (s : Mm) : Prop := ∀ k ∈ s.C, ∀ e ∈ k.L, EOk s.t e ∧ EB e
def SameFW (m m' : Pg) : Prop := ∀ k, (m' k).map FW = (m k).map FW
theorem SameFW.ent {m m' : Pg} (h : SameFW m m') (pg : Int) : (T12.ent m' pg).map FW = (T12.ent m pg).map FW := by
  unfold T12.ent
  split
  · exact h _
  · rfl
theorem SameFW.refl (m : Pg) : SameFW m m := fun _ => rfl
theorem SameFW.trans {a b c : Pg} (h : SameFW a b) (k : SameFW b c) : SameFW a c := fun x => (k x).trans (h x)
theorem ent_pos {m : Pg} {pg : Int} {e : E} (h : ent m pg = some e) : 0 ≤ pg ∧ m pg.toNat = some e := by
  unfold ent at h
  split at h
  · exact ⟨by assumption, h⟩
  · cases h
theorem same_wlk (m : Pg) (pg : Int) (wr : Bool) : SameFW m (wlkM m pg wr) := by
  unfold wlkM
  cases h : ent m pg with
  | none => exact SameFW.refl m
  | some e =>
    simp only []
    split
    · exact SameFW.refl m
    · intro k
      unfold upd
      split
      · rename_i hk; rw [hk, (ent_pos h).2]; rfl
      · rfl
theorem same_clr (m : Pg) (pg : Int) : SameFW m (clrM m pg) := by
  unfold clrM
  cases h : ent m pg with
  | none => exact SameFW.refl m
  | some e =>
    intro k
    show (upd m pg.toNat _ k).map FW = _
    unfold upd
    split
    · rename_i hk; rw [hk, (ent_pos h).2]; rfl
    · rfl
theorem same_used (l : List (Nat × E)) (m : Pg) : SameFW m (usedM l m) := by
  induction l generalizing m with
  | nil => exact SameFW.refl m
  | cons a r ih => exact (same_clr m a.1).trans (ih _)
theorem eok_set {s : Mm} {x : Int} {m' : Pg} (h : SameFW (s.tab x) m') {e : En} (he : EOk s.t e) : EOk (s.setTab x m').t e := by
  cases hx : s.t x with
  | none => rw [setTab_none hx]; exact he
  | some m =>
    rw [setTab_some hx]
    unfold EOk at he ⊢
    show (ent ((updT s.t x (some m') e.s).getD pg0) e.p).map FW = _
    unfold updT
    split
    · rename_i hs
      rw [hs, hx] at he
      have ht : s.tab x = m := by unfold Mm.tab; rw [hx]; rfl
      rw [ht] at h
      show (ent m' e.p).map FW = _
      rw [h.ent]
      exact he
    · exact he
theorem Coh.set {s : Mm} (h : Coh s) {x : Int} {m' : Pg} (hs : SameFW (s.tab x) m') : Coh (s.setTab x m') := fun k hk e he => by
  rw [setTab_C] at hk
  exact ⟨eok_set hs (h k hk e he).1, (h k hk e he).2⟩
theorem Coh.cache {s : Mm} (h : Coh s) {i : Nat} {k : Tl} (hk : ∀ e ∈ k.L, EOk s.t e ∧ EB e) : Coh { s with C := s.C.set i k } := fun k' hk' e he => by
  rcases List.mem_or_eq_of_mem_set hk' with h1 | rfl
  · exact h k' h1 e he
  · exact hk e he
/-- A table is turned in whatever way, and the entries that no longer hold are shot. -/
theorem Coh.turn {s : Mm} (h : Coh s) {t' : Int → Option Pg} {kk : Nat} {d : En → Bool} (ht : ∀ e, EOk s.t e → d e = false → EOk t' e) : Coh (({ s with t := t', k := kk } : Mm).shoot d) := fun k hk e he => by
  obtain ⟨k', hk', rfl⟩ := List.mem_map.1 hk
  obtain ⟨h1, h2⟩ := List.mem_filter.1 he
  exact ⟨ht e (h k' hk' e h1).1 (by simpa using h2), (h k' hk' e h1).2⟩
theorem ent_upd {m : Pg} {pg p : Int} {o : Option E} (h1 : 0 ≤ pg) (h2 : p ≠ pg) : ent (upd m pg.toNat o) p = ent m p := by
  unfold ent upd
  split
  · rw [if_neg (by omega)]
  · rfl
theorem not_is {e : En} {x pg : Int} (h : e.is x pg = false) (hx : e.s = x) : e.p ≠ pg := by
  intro hp
  unfold T13.En.is at h
  simp [hx, hp] at h
theorem eok_upd {t : Int → Option Pg} {x pg : Int} {o : Option E} {e : En} (h1 : 0 ≤ pg) (he : EOk t e) (hd : e.is x pg = false) : EOk (updT t x (some (upd ((t x).getD pg0) pg.toNat o))) e := by
  unfold EOk at he ⊢
  unfold updT
  split
  · rename_i hs
    show (ent (upd _ _ _) e.p).map FW = _
    rw [ent_upd h1 (not_is hd hs), ← hs]
    exact he
  · exact he
theorem eok_same {t : Int → Option Pg} {x : Int} {e : En} (he : EOk t e) : EOk (updT t x (some ((t x).getD pg0))) e := by
  unfold EOk at he ⊢
  unfold updT
  split
  · rename_i hs; rw [← hs]; exact he
  · exact he
theorem Coh.map {s : Mm} (h : Coh s) (x pg fr : Int) (wr : Bool) : Coh (s.map x pg fr wr) := by
  unfold Mm.map
  split
  · rename_i hr
    have e : mapM (s.tab x) pg fr wr = upd (s.tab x) pg.toNat (some ⟨fr, wr, false, false⟩) := by unfold mapM; rw [if_pos hr]
    rw [e]
    exact h.turn (fun e he hd => eok_upd hr.1 he hd)
  · exact h
theorem Coh.unmap {s : Mm} (h : Coh s) (x pg : Int) : Coh (s.unmap x pg) := by
  unfold Mm.unmap
  cases hx : s.t x with
  | none =>
    rw [setTab_none hx]
    exact h.turn (t' := s.t) (kk := s.k) (fun e he _ => he)
  | some m =>
    rw [setTab_some hx]
    refine h.turn (kk := s.k) (fun e he hd => ?_)
    have ht : s.tab x = (s.t x).getD pg0 := rfl
    rw [ht]
    unfold unmM
    cases hm : ent ((s.t x).getD pg0) pg with
    | none => exact eok_same he
    | some e0 => exact eok_upd (ent_pos hm).1 he hd
theorem Coh.lose {s : Mm} (h : Coh s) (fr : Int) : Coh (s.lose fr) := by
  refine h.turn (kk := s.k) (fun e he hd => ?_)
  unfold EOk at he ⊢
  show (ent (((s.t e.s).map (loseT fr)).getD pg0) e.p).map FW = _
  cases hx : s.t e.s with
  | none => rw [hx] at he; exact he
  | some m =>
    rw [hx] at he
    show (ent (loseT fr m) e.p).map FW = _
    have he' : (ent m e.p).map FW = some (e.f, e.w) := he
    cases hm : ent m e.p with
    | none => rw [hm] at he'; cases he'
    | some e0 =>
      obtain ⟨h1, h2⟩ := ent_pos hm
      rw [hm] at he'
      have hf : e0.fr = e.f := by injection he' with h; exact congrArg Prod.fst h
      have hne : e0.fr ≠ fr := by rw [hf]; simpa using hd
      unfold ent
      rw [if_pos h1]
      unfold loseT
      rw [h2]
      simp only [if_neg hne]
      exact he'
theorem Coh.end_ {s : Mm} (h : Coh s) (x : Int) : Coh (s.end_ x) := by
  refine h.turn (kk := s.k) (fun e he hd => ?_)
  unfold EOk at he ⊢
  unfold updT
  rw [if_neg (by simpa using hd)]
  exact he
theorem Coh.used {s : Mm} (h : Coh s) (x : Int) : Coh (s.used x) := h.set (same_used _ _)
theorem tab_cache (s : Mm) (C : List Tl) (x : Int) : ({ s with C := C } : Mm).tab x = s.tab x := rfl
theorem lookX_some {m : Pg} {pg : Int} {e : E} (h : ent m pg = some e) : lookX m pg = (pg, e) := by unfold lookX; rw [h]
theorem wlk_yes {m : Pg} {pg : Int} {wr : Bool} (h : wlkB m pg wr = true) : ∃ e, ent m pg = some e ∧ wlkN m pg wr = e.fr ∧ ent (wlkM m pg wr) pg = some ⟨e.fr, e.wr, true, e.di || wr⟩ ∧ (wr && !e.wr) = false := by
  unfold wlkB at h
  cases hm : ent m pg with
  | none => rw [hm] at h; cases h
  | some e =>
    rw [hm] at h
    have hw : (wr && !e.wr) = false := by
      have h' : (!(wr && !e.wr)) = true := h
      cases hx : (wr && !e.wr)
      · rfl
      · rw [hx] at h'; cases h'
    refine ⟨e, rfl, by unfold wlkN; rw [hm]; simp only [hw]; rfl, ?_, hw⟩
    obtain ⟨h1, _⟩ := ent_pos hm
    unfold wlkM
    rw [hm]
    simp only [hw]
    unfold ent
    rw [if_pos h1]
    show upd m pg.toNat _ pg.toNat = _
    rw [T12.upd_same]
theorem Coh.acc {s : Mm} (h : Coh s) (cpu x pg : Int) (wr : Bool) (h1 : -9223372036854775808 ≤ x ∧ x ≤ 9223372036854775807) (h2 : -9223372036854775808 ≤ pg ∧ pg ≤ 9223372036854775807) : Coh (s.acc cpu x pg wr).s := by
  unfold Mm.acc
  split
  · exact h
  · split
    · exact h
    · rename_i k hk
      have hkm := List.mem_of_getElem? hk
      have hc1 : Coh ({ s with C := s.C.set cpu.toNat (k.look x pg wr) } : Mm) := h.cache (fun e he => h k hkm e (look_mem e he))
      have hc2 : Coh (({ s with C := s.C.set cpu.toNat (k.look x pg wr) } : Mm).setTab x (wlkM (s.tab x) pg wr)) := hc1.set (same_wlk _ _ _)
      unfold accK
      split
      · exact hc2
      · split
        · rename_i hb
          refine hc2.cache (fun e he => ?_)
          obtain ⟨e0, g1, g2, g3, _⟩ := wlk_yes hb
          have hne : s.t x ≠ none := fun hn => by
            have : s.tab x = pg0 := by unfold Mm.tab; rw [hn]; rfl
            rw [this] at g1
            unfold ent at g1
            split at g1 <;> cases g1
          obtain ⟨m0, hm0⟩ := Option.ne_none_iff_exists'.1 hne
          have hnew : ∀ e, e = (⟨x, pg, wlkN (s.tab x) pg wr, (lookX (wlkM (s.tab x) pg wr) pg).2.wr⟩ : En) → EOk (({ s with C := s.C.set cpu.toNat (k.look x pg wr) } : Mm).setTab x (wlkM (s.tab x) pg wr)).t e ∧ EB e := by
            rintro e rfl
            refine ⟨?_, h1, h2⟩
            rw [setTab_some (s := ({ s with C := s.C.set cpu.toNat (k.look x pg wr) } : Mm)) hm0]
            unfold EOk
            show (ent ((updT s.t x (some (wlkM (s.tab x) pg wr)) x).getD pg0) pg).map FW = _
            unfold updT
            rw [if_pos rfl]
            show (ent (wlkM (s.tab x) pg wr) pg).map FW = _
            rw [g3, lookX_some g3, g2]
            rfl
          have hold : ∀ e ∈ (k.look x pg wr).L, EOk (({ s with C := s.C.set cpu.toNat (k.look x pg wr) } : Mm).setTab x (wlkM (s.tab x) pg wr)).t e ∧ EB e := fun e he => ⟨eok_set (s := ({ s with C := s.C.set cpu.toNat (k.look x pg wr) } : Mm)) (same_wlk _ _ _) (h k hkm e (look_mem e he)).1, (h k hkm e (look_mem e he)).2⟩
          unfold T13.Tl.fill at he
          simp only [] at he
          split at he
          · exact hold e (List.mem_filter.1 he).1
          · rcases List.mem_cons.1 he with he | he
            · exact hnew e he
            · exact hold e (List.mem_filter.1 (List.mem_of_mem_take he)).1
        · exact hc2
theorem Coh.op {s : Mm} (h : Coh s) (o : Op) (wf : o.Wf) : Coh (s.op o) := by
  unfold Mm.op
  split
  · exact Coh.acc h _ _ _ _ ⟨wf.x1, wf.x2⟩ ⟨wf.p1, wf.p2⟩
  · split
    · exact Coh.map h _ _ _ _
    · split
      · exact Coh.unmap h _ _
      · split
        · exact Coh.lose h _
        · split
          · exact Coh.end_ h _
          · exact Coh.used h _
theorem Coh.zero (n : Nat) : Coh (mm0 n) := fun k hk e he => by
  have : k = tl0 := by simp only [mm0, List.mem_replicate] at hk; exact hk.2
  subst this
  simp [tl0] at he
/-- What Access says. -/
def wantB (s : Mm) (cpu x pg : Int) (wr : Bool) : Bool := (ent (s.tab x) pg).isSome && ((lookX (s.tab x) pg).2.wr || !wr) && decide (0 ≤ cpu) && decide (cpu < (s.C.length : Int))
theorem acc_law {s : Mm} (h : Coh s) (cpu x pg : Int) (wr : Bool) : (s.acc cpu x pg wr).ok = wantB s cpu x pg wr ∧ ((s.acc cpu x pg wr).ok = true → (s.acc cpu x pg wr).f = (lookX (s.tab x) pg).2.fr) := by
  by_cases hc : cpu < 0 ∨ (s.C.length : Int) ≤ cpu
  · rw [acc_no hc]
    refine ⟨?_, fun h => by cases h⟩
    unfold wantB
    rcases hc with hc | hc
    · rw [decide_eq_false (by omega : ¬ 0 ≤ cpu)]; simp
    · rw [decide_eq_false (by omega : ¬ cpu < (s.C.length : Int))]; simp
  · obtain ⟨i, rfl⟩ : ∃ i : Nat, cpu = i := ⟨cpu.toNat, by omega⟩
    have hi : i < s.C.length := by omega
    have hk := List.getElem?_eq_getElem hi
    have hkm := List.getElem_mem hi
    rw [acc_at hk]
    have hw : wantB s i x pg wr = ((ent (s.tab x) pg).isSome && ((lookX (s.tab x) pg).2.wr || !wr)) := by
      unfold wantB
      rw [decide_eq_true (by omega : (0 : Int) ≤ i), decide_eq_true (by omega : (i : Int) < (s.C.length : Int))]
      simp
    rw [hw]
    generalize s.C[i] = k at *
    unfold accK
    cases hh : k.hit x pg wr with
    | some j =>
      obtain ⟨hj, h1, h2⟩ := hit_lt hh
      have hr : k.lookR x pg wr = ((k.L[j]).f, true) := by
        unfold T13.Tl.lookR
        rw [hh]
        have e : k.L.getD j T13.en0 = k.L[j] := by simp [List.getD_eq_getElem?_getD, List.getElem?_eq_getElem hj]
        simp only [e]
      have he := (h k hkm _ (List.getElem_mem hj)).1
      unfold EOk at he
      have hs : (k.L[j]).s = x ∧ (k.L[j]).p = pg := by
        unfold T13.En.is at h1
        simpa using h1
      rw [hs.1, hs.2] at he
      have he' : (ent (s.tab x) pg).map FW = some ((k.L[j]).f, (k.L[j]).w) := he
      cases hm : ent (s.tab x) pg with
      | none => rw [hm] at he'; cases he'
      | some e0 =>
        rw [hm] at he'
        have e1 : e0.fr = (k.L[j]).f ∧ e0.wr = (k.L[j]).w := by
          injection he' with h
          exact ⟨congrArg Prod.fst h, congrArg Prod.snd h⟩
        rw [hr, lookX_some hm]
        simp only [Option.isSome_some, Bool.true_and, if_true]
        refine ⟨?_, fun _ => e1.1.symm⟩
        rw [e1.2]
        cases hw1 : wr <;> cases hw2 : (k.L[j]).w <;> rw [hw1, hw2] at h2 <;> simp_all
    | none =>
      have hr : k.lookR x pg wr = (0, false) := by unfold T13.Tl.lookR; rw [hh]
      rw [hr]
      simp only [Bool.false_eq_true, if_false]
      cases hb : wlkB (s.tab x) pg wr with
      | true =>
        obtain ⟨e0, g1, g2, _, g4⟩ := wlk_yes hb
        simp only [if_true]
        rw [g1, lookX_some g1, g2]
        refine ⟨?_, fun _ => rfl⟩
        cases hw1 : wr <;> cases hw2 : e0.wr <;> rw [hw1, hw2] at g4 <;> simp_all
      | false =>
        simp only [Bool.false_eq_true, if_false]
        refine ⟨?_, fun h => by cases h⟩
        unfold wlkB at hb
        cases hm : ent (s.tab x) pg with
        | none => rfl
        | some e0 =>
          rw [hm] at hb
          rw [lookX_some hm]
          cases hw1 : wr <;> cases hw2 : e0.wr <;> simp_all
end Go.Proofs.Yteognipfnbocpaa
