/- MmuBits: the plain law. -/
import Derived.Test.YteognipfnbocpaaP4
namespace Go.Proofs.Yteognipfnbocpaa
open Go.RowKit
open T12 (E TbRep ent mapM mapN wlkM wlkB wlkN unmM clrM clrB lookX ents upd)
open T13 (Tl En TlRep es)

def acO : Option E → Bool | none => false | some e => e.ac
def diO : Option E → Bool | none => false | some e => e.di
/-- The two lists tell the bits of the table of space 5. -/
def Bits (m : Pg) (ac di : Nat → Bool) : Prop := ∀ p, p < 256 → ac p = acO (m p) ∧ di p = diO (m p)
def updB (f : Nat → Bool) (p : Nat) (b : Bool) : Nat → Bool := fun q => if q = p then b else f q
def clrE (e : E) : E := ⟨e.fr, e.wr, false, e.di⟩
/-- The table when the entries of l were taken by Used. -/
def useJ (m : Pg) (l : List (Nat × E)) : Pg := fun k => if l.any (fun a => a.1 == k) then (m k).map clrE else m k
theorem useJ_nil (m : Pg) : useJ m [] = m := by funext k; simp [useJ]
theorem useJ_at {m : Pg} {l : List (Nat × E)} {a : Nat × E} (hf : ∀ b ∈ l, b.1 ≠ a.1) : useJ m l a.1 = m a.1 := by
  unfold useJ
  rw [if_neg]
  rw [List.any_eq_true]
  rintro ⟨b, hb, e⟩
  exact hf b hb (by simpa using e)
theorem useJ_snoc {m : Pg} {l : List (Nat × E)} {a : Nat × E} (hm : m a.1 = some a.2) (hf : ∀ b ∈ l, b.1 ≠ a.1) : clrM (useJ m l) (a.1 : Nat) = useJ m (l ++ [a]) ∧ clrB (useJ m l) (a.1 : Nat) = a.2.ac := by
  have h0 : ent (useJ m l) (a.1 : Nat) = some a.2 := by rw [T12.ent_nat, useJ_at hf, hm]
  constructor
  · unfold clrM
    rw [h0]
    simp only [Int.toNat_natCast]
    funext k
    by_cases e : k = a.1
    · subst e
      rw [T12.upd_same]
      unfold useJ
      rw [if_pos (by simp), hm]
      rfl
    · rw [T12.upd_ne e]
      unfold useJ
      have h1 : (a.1 == k) = false := by simpa using fun h => e h.symm
      rw [List.any_append]
      simp only [List.any_cons, List.any_nil, h1, Bool.or_false]
  · unfold clrB
    rw [h0]
theorem used_take {m : Pg} {l : List (Nat × E)} (hm : ∀ a ∈ l, m a.1 = some a.2) (hf : ∀ j (h : j < l.length), ∀ a ∈ l.take j, a.1 ≠ l[j].1) : ∀ n, n ≤ l.length → usedM (l.take n) m = useJ m (l.take n) ∧ (usedL (l.take n) m).length = ((l.take n).filter (fun a => a.2.ac)).length := by
  intro n
  induction n with
  | zero => intro _; exact ⟨by rw [List.take_zero, useJ_nil]; rfl, rfl⟩
  | succ n ih =>
    intro hn
    obtain ⟨h1, h2⟩ := ih (by omega)
    have hs := List.take_succ_eq_append_getElem (l := l) (i := n) (by omega)
    have hl := hm l[n] (List.getElem_mem (by omega))
    obtain ⟨g1, g2⟩ := useJ_snoc hl (hf n (by omega))
    rw [hs]
    constructor
    · rw [usedM_snoc, h1, g1]
    · rw [usedL_snoc, h1, g2, List.length_append, h2, List.filter_append, List.length_append]
      congr 1
      cases hx : l[n].2.ac <;> simp [hx]
theorem used_all (m : Pg) : usedM (ents m 256) m = useJ m (ents m 256) ∧ (usedL (ents m 256) m).length = ((ents m 256).filter (fun a => a.2.ac)).length := by
  have := used_take (m := m) (l := ents m 256) (fun a ha => (ents_mem.1 ha).2) (fun j h => ents_fresh h) (ents m 256).length (Nat.le_refl _)
  rwa [List.take_length] at this
theorem useJ_page {m : Pg} {k : Nat} (hk : k < 256) : useJ m (ents m 256) k = (m k).map clrE := by
  unfold useJ
  split
  · rfl
  · rename_i hn
    cases hm : m k with
    | none => rfl
    | some e =>
      exfalso
      apply hn
      rw [List.any_eq_true]
      exact ⟨(k, e), ents_mem.2 ⟨hk, hm⟩, by simp⟩
/-- How many of the first n pages are marked. -/
def cntB (f : Nat → Bool) : Nat → Nat
  | 0 => 0
  | n + 1 => cntB f n + if f n then 1 else 0
theorem cntB_congr {f g : Nat → Bool} {n : Nat} (h : ∀ p, p < n → f p = g p) : cntB f n = cntB g n := by
  induction n with
  | zero => rfl
  | succ n ih => simp only [cntB]; rw [ih (fun p hp => h p (by omega)), h n (by omega)]
theorem cnt_ents (m : Pg) (n : Nat) : ((ents m n).filter (fun a => a.2.ac)).length = cntB (fun p => acO (m p)) n := by
  induction n with
  | zero => rfl
  | succ n ih =>
    unfold cntB
    cases hm : m n with
    | none => rw [T12.ents_none hm, ih]; simp [acO]
    | some e =>
      rw [T12.ents_some hm, List.filter_append, List.length_append, ih]
      congr 1
      show (List.filter _ [(n, e)]).length = if e.ac then 1 else 0
      cases h : e.ac <;> simp [h]
/-- What the law's lists are behind an operation, ahead of the look at the pages. -/
def acS (s : Mm) (o : Op) (ac : Nat → Bool) : Nat → Bool :=
  if o.d % 8 < 3 then (if opB s o = 1 then updB ac o.pg.toNat true else ac)
  else if o.d % 8 < 5 then updB ac o.pg.toNat (ac o.pg.toNat && decide (o.fr < 0)) else ac
def diS (s : Mm) (o : Op) (di : Nat → Bool) : Nat → Bool :=
  if o.d % 8 < 3 then (if opB s o = 1 then updB di o.pg.toNat (di o.pg.toNat || o.wr) else di)
  else if o.d % 8 < 5 then updB di o.pg.toNat (di o.pg.toNat && decide (o.fr < 0)) else di
/-- Whether the look takes page p's mark away and counts it. -/
def takes (o : Op) (b : Bool) : Bool := decide (o.d % 8 = 7) && !o.wr && b
theorem tab_shoot (s : Mm) (d : En → Bool) (x : Int) : (s.shoot d).tab x = s.tab x := rfl
theorem tab_set {s : Mm} {x : Int} {m' : Pg} (h : s.t x = none → m' = pg0) : (s.setTab x m').tab x = m' := by
  cases hx : s.t x with
  | none =>
    rw [setTab_none hx, h hx]
    unfold Mm.tab
    rw [hx]
    rfl
  | some m =>
    rw [setTab_some hx]
    show ((updT s.t x (some m')) x).getD pg0 = m'
    unfold updT
    rw [if_pos rfl]
    rfl
theorem tab_none {s : Mm} {x : Int} (h : s.t x = none) : s.tab x = pg0 := by unfold Mm.tab; rw [h]; rfl
theorem ent_pg0 (pg : Int) : ent pg0 pg = none := by unfold ent; split <;> rfl
theorem wlk_pg0 (pg : Int) (wr : Bool) : wlkM pg0 pg wr = pg0 := by unfold wlkM; rw [ent_pg0]
theorem wlk_no {m : Pg} {pg : Int} {wr : Bool} (h : wlkB m pg wr = false) : wlkM m pg wr = m := by
  unfold wlkB at h
  unfold wlkM
  cases hm : ent m pg with
  | none => rfl
  | some e =>
    rw [hm] at h
    simp only [] at h ⊢
    have : (wr && !e.wr) = true := by
      cases hx : (wr && !e.wr)
      · rw [hx] at h; cases h
      · rfl
    rw [if_pos this]
theorem acc_tab {s : Mm} (cpu x pg : Int) (wr : Bool) (h : 0 ≤ cpu ∧ cpu < (s.C.length : Int)) : (s.acc cpu x pg wr).s.tab x = wlkM (s.tab x) pg wr := by
  obtain ⟨i, rfl⟩ : ∃ i : Nat, cpu = i := ⟨cpu.toNat, by omega⟩
  have hi : i < s.C.length := by omega
  rw [acc_at (List.getElem?_eq_getElem hi)]
  have h0 : ∀ C, (({ s with C := C } : Mm).setTab x (wlkM (s.tab x) pg wr)).tab x = wlkM (s.tab x) pg wr := fun C => tab_set (fun hx => by
    have hx' : s.t x = none := hx
    rw [tab_none hx', wlk_pg0])
  unfold accK
  split
  · exact h0 _
  · split
    · exact h0 _
    · exact h0 _
theorem want_wlk (s : Mm) (cpu x pg : Int) (wr : Bool) : wantB s cpu x pg wr = (wlkB (s.tab x) pg wr && decide (0 ≤ cpu) && decide (cpu < (s.C.length : Int))) := by
  unfold wantB wlkB
  cases hm : ent (s.tab x) pg with
  | none => rfl
  | some e =>
    rw [lookX_some hm]
    simp only [Option.isSome_some, Bool.true_and]
    cases wr <;> cases e.wr <;> rfl
/-- What the look at page p finds, and what it makes of the lists. -/
theorem bits_law {s : Mm} {o : Op} {ac di : Nat → Bool} (hc : Coh s) (hx : o.x = 5) (hp : 0 ≤ o.pg ∧ o.pg < 256) (hb : Bits (s.tab 5) ac di) (p : Nat) (hp2 : p < 256) :
    ((if takes o (acS s o ac p) then false else acS s o ac p) && ((s.op o).tab 5 p).isSome) = acO ((s.op o).tab 5 p) ∧ (diS s o di p && ((s.op o).tab 5 p).isSome) = diO ((s.op o).tab 5 p) := by
  have hbp := hb p hp2
  have hpn : ((o.pg.toNat : Nat) : Int) = o.pg := Int.toNat_of_nonneg hp.1
  by_cases h3 : o.d % 8 < 3
  · have ht : ∀ b, takes o b = false := fun b => by unfold takes; rw [decide_eq_false (by omega)]; rfl
    have hop : s.op o = (s.acc o.cpu o.x o.pg o.wr).s := by unfold Mm.op; rw [if_pos h3]
    have hA : acS s o ac = if opB s o = 1 then updB ac o.pg.toNat true else ac := by unfold acS; rw [if_pos h3]
    have hD : diS s o di = if opB s o = 1 then updB di o.pg.toNat (di o.pg.toNat || o.wr) else di := by unfold diS; rw [if_pos h3]
    have hB : opB s o = tru (s.acc o.cpu o.x o.pg o.wr).ok := by unfold opB; rw [if_pos h3]
    rw [ht, hop, hA, hD, hB, (acc_law hc o.cpu o.x o.pg o.wr).1, want_wlk, hx]
    simp only [Bool.false_eq_true, if_false]
    by_cases hcpu : 0 ≤ o.cpu ∧ o.cpu < (s.C.length : Int)
    · rw [acc_tab _ _ _ _ hcpu, decide_eq_true hcpu.1, decide_eq_true hcpu.2, Bool.and_true, Bool.and_true]
      cases hw : wlkB (s.tab 5) o.pg o.wr with
      | false =>
        rw [wlk_no hw]
        simp only [tru, Bool.false_eq_true, if_false]
        rw [if_neg (by omega), if_neg (by omega), hbp.1, hbp.2]
        cases s.tab 5 p <;> simp [acO, diO]
      | true =>
        obtain ⟨e0, g1, _, g3, _⟩ := wlk_yes hw
        simp only [tru, if_true]
        have hm0 := (ent_pos g1).2
        have hm1 := (ent_pos g3).2
        unfold updB
        by_cases e : p = o.pg.toNat
        · subst e
          rw [if_pos rfl, if_pos rfl, hm1, hbp.2, hm0]
          simp [acO, diO]
        · have hother : wlkM (s.tab 5) o.pg o.wr p = s.tab 5 p := by
            unfold wlkM
            rw [g1]
            simp only []
            split
            · rfl
            · exact T12.upd_ne e
          rw [if_neg e, if_neg e, hother, hbp.1, hbp.2]
          cases s.tab 5 p <;> simp [acO, diO]
    · have hok : (wlkB (s.tab 5) o.pg o.wr && decide (0 ≤ o.cpu) && decide (o.cpu < (s.C.length : Int))) = false := by
        by_cases h1 : 0 ≤ o.cpu
        · rw [decide_eq_false (by omega : ¬ o.cpu < (s.C.length : Int))]; simp
        · rw [decide_eq_false h1]; simp
      rw [hok, acc_no (by omega)]
      simp only [tru, Bool.false_eq_true, if_false]
      rw [if_neg (by omega), if_neg (by omega), hbp.1, hbp.2]
      cases s.tab 5 p <;> simp [acO, diO]
  · by_cases h5 : o.d % 8 < 5
    · have ht : ∀ b, takes o b = false := fun b => by unfold takes; rw [decide_eq_false (by omega)]; rfl
      have hop : s.op o = s.map o.x o.pg o.fr o.wr := by unfold Mm.op; rw [if_neg h3, if_pos h5]
      have hA : acS s o ac = updB ac o.pg.toNat (ac o.pg.toNat && decide (o.fr < 0)) := by unfold acS; rw [if_neg h3, if_pos h5]
      have hD : diS s o di = updB di o.pg.toNat (di o.pg.toNat && decide (o.fr < 0)) := by unfold diS; rw [if_neg h3, if_pos h5]
      rw [ht, hop, hA, hD, hx]
      simp only [Bool.false_eq_true, if_false]
      unfold updB
      by_cases hf : 0 ≤ o.fr
      · have hm : (s.map 5 o.pg o.fr o.wr).tab 5 = upd (s.tab 5) o.pg.toNat (some ⟨o.fr, o.wr, false, false⟩) := by
          unfold Mm.map
          rw [if_pos ⟨hp.1, hp.2, hf⟩]
          show ((updT s.t 5 (some (mapM (s.tab 5) o.pg o.fr o.wr))) 5).getD pg0 = _
          unfold updT mapM
          rw [if_pos rfl, if_pos ⟨hp.1, hp.2, hf⟩]
          rfl
        rw [hm, decide_eq_false (by omega)]
        by_cases e : p = o.pg.toNat
        · subst e
          rw [if_pos rfl, if_pos rfl, T12.upd_same]
          simp [acO, diO]
        · rw [if_neg e, if_neg e, T12.upd_ne e, hbp.1, hbp.2]
          cases s.tab 5 p <;> simp [acO, diO]
      · have hm : (s.map 5 o.pg o.fr o.wr) = s := by
          unfold Mm.map
          rw [if_neg (by omega)]
        rw [hm, decide_eq_true (by omega), Bool.and_true, Bool.and_true]
        have h1 : (if p = o.pg.toNat then ac o.pg.toNat else ac p) = ac p := by split <;> simp_all
        have h2 : (if p = o.pg.toNat then di o.pg.toNat else di p) = di p := by split <;> simp_all
        rw [h1, h2, hbp.1, hbp.2]
        cases s.tab 5 p <;> simp [acO, diO]
    · have hA : acS s o ac = ac := by unfold acS; rw [if_neg h3, if_neg h5]
      have hD : diS s o di = di := by unfold diS; rw [if_neg h3, if_neg h5]
      rw [hA, hD]
      by_cases h7 : o.d % 8 = 7
      · cases hw : o.wr with
        | true =>
          have ht : ∀ b, takes o b = false := fun b => by unfold takes; rw [hw]; simp
          have hop : s.op o = s.end_ o.x := by unfold Mm.op; rw [if_neg h3, if_neg h5, if_neg (by omega), if_neg (by omega), hw]; rfl
          have hm : (s.end_ 5).tab 5 = pg0 := by
            show ((updT s.t 5 none) 5).getD pg0 = _
            unfold updT
            rw [if_pos rfl]
            rfl
          rw [hop, hx, hm]
          simp [pg0, acO, diO]
        | false =>
          have ht : ∀ b, takes o b = b := fun b => by unfold takes; rw [decide_eq_true h7, hw]; simp
          have hop : s.op o = s.used o.x := by unfold Mm.op; rw [if_neg h3, if_neg h5, if_neg (by omega), if_neg (by omega), hw]; rfl
          have hm : (s.used 5).tab 5 = useJ (s.tab 5) (ents (s.tab 5) 256) := by
            unfold Mm.used
            rw [(used_all _).1]
            refine tab_set (fun hx' => ?_)
            rw [tab_none hx']
            funext k
            unfold useJ
            simp [pg0]
          rw [ht, hop, hx, hm, useJ_page hp2, hbp.1, hbp.2]
          cases s.tab 5 p with
          | none => simp [acO, diO]
          | some e0 => cases h0 : e0.ac <;> simp [acO, diO, clrE, h0]
      · have ht : ∀ b, takes o b = false := fun b => by unfold takes; rw [decide_eq_false h7]; rfl
        rw [ht, hbp.1, hbp.2]
        simp only [Bool.false_eq_true, if_false]
        by_cases h55 : o.d % 8 = 5
        · have hop : s.op o = s.unmap o.x o.pg := by unfold Mm.op; rw [if_neg h3, if_neg h5, if_pos h55]
          have hm : (s.unmap 5 o.pg).tab 5 = unmM (s.tab 5) o.pg := by
            unfold Mm.unmap
            rw [tab_shoot]
            refine tab_set (fun hx' => ?_)
            rw [tab_none hx']
            unfold unmM
            rw [ent_pg0]
          rw [hop, hx, hm]
          unfold unmM
          cases hm : ent (s.tab 5) o.pg with
          | none => simp only []; cases s.tab 5 p <;> simp [acO, diO]
          | some e0 =>
            simp only []
            by_cases e : p = o.pg.toNat
            · subst e; rw [T12.upd_same]; simp [acO, diO]
            · rw [T12.upd_ne e]; cases s.tab 5 p <;> simp [acO, diO]
        · have h6 : o.d % 8 = 6 := by omega
          have hop : s.op o = s.lose o.fr := by unfold Mm.op; rw [if_neg h3, if_neg h5, if_neg h55, if_pos h6]
          have hm : (s.lose o.fr).tab 5 p = (loseT o.fr (s.tab 5)) p := by
            show (((s.t 5).map (loseT o.fr)).getD pg0) p = _
            unfold Mm.tab
            cases s.t 5 <;> rfl
          rw [hop, hm]
          unfold loseT
          cases hsp : s.tab 5 p with
          | none => simp [acO, diO]
          | some e0 =>
            simp only []
            split <;> simp [acO, diO]
/-- How many marks the look takes: as many as Used told. -/
theorem bits_count {s : Mm} {o : Op} {ac di : Nat → Bool} (hx : o.x = 5) (hb : Bits (s.tab 5) ac di) : (opL s o).length = cntB (fun p => takes o (acS s o ac p)) 256 := by
  unfold opL
  by_cases h7 : o.d % 8 = 7 ∧ o.wr = false
  · rw [if_pos h7, hx]
    have hA : acS s o ac = ac := by unfold acS; rw [if_neg (by omega), if_neg (by omega)]
    show (usedL (ents (s.tab 5) 256) (s.tab 5)).length = _
    rw [(used_all _).2, cnt_ents, hA]
    refine cntB_congr (fun p hp => ?_)
    unfold takes
    rw [decide_eq_true h7.1, h7.2, ← (hb p hp).1]
    simp
  · rw [if_neg h7]
    have ht : ∀ b, takes o b = false := fun b => by
      unfold takes
      by_cases h1 : o.d % 8 = 7
      · have : o.wr = true := by
          cases hw : o.wr
          · exact absurd ⟨h1, hw⟩ h7
          · rfl
        rw [this]; simp
      · rw [decide_eq_false h1]; rfl
    have : cntB (fun p => takes o (acS s o ac p)) 256 = cntB (fun _ => false) 256 := cntB_congr (fun p _ => ht _)
    rw [this]
    have h0 : ∀ n, cntB (fun _ => false) n = 0 := fun n => by induction n with
      | zero => rfl
      | succ n ih => simp [cntB, ih]
    rw [h0]
    rfl
end Go.Proofs.Yteognipfnbocpaa
