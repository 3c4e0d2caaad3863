/- The plain law of MmuTells: the Mmu and the reference's Mmu stay alike. -/
import Derived.Test.YteognipfnbocpaaGreatQ11
namespace Go.Proofs.YteognipfnbocpaaGreat
open Go.RowKit
open T12 (E TbRep RfRep ent ents cells5 mapM mapN wlkM wlkB wlkN unmM clrM clrB lookX)
open T13 (Tl En TlRep es Nd)

/-- The Mmu and the reference's hold the same. -/
structure Sim (s : Mm) (r : Rm) : Prop where
  t : ∀ x, s.tab x = r.tab x
  c : s.C = r.C
  n : s.n = r.n
  a : Asc r.N
  l : r.N.length = r.M.length
theorem rix_lt {r : Rm} {x : Int} {i : Nat} (h : r.ix x = some i) : ∃ hi : i < r.N.length, r.N[i] = x := by
  unfold Rm.ix at h
  obtain ⟨hi, h1, _⟩ := List.findIdx?_eq_some_iff_getElem.1 h
  exact ⟨hi, by simpa using h1⟩
theorem rset_tab {r : Rm} (hl : r.N.length = r.M.length) (x : Int) (m : Pg) (h0 : r.tab x = pg0 → m = pg0) (y : Int) : (r.setTab x m).tab y = if y = x then m else r.tab y := by
  cases hx : r.ix x with
  | none =>
    rw [rset_none hx]
    have ht : r.tab x = pg0 := by unfold Rm.tab; rw [hx]
    by_cases e : y = x
    · rw [if_pos e, e, ht, h0 ht]
    · rw [if_neg e]
  | some i =>
    obtain ⟨hi, hxi⟩ := rix_lt hx
    have hiy : (r.setTab x m).ix y = r.ix y := rset_ix r x y m
    unfold Rm.tab
    rw [hiy, rset_some hx]
    cases hy : r.ix y with
    | none =>
      have e : y ≠ x := fun e => by rw [e, hx] at hy; cases hy
      rw [if_neg e]
    | some j =>
      obtain ⟨hj, hyj⟩ := rix_lt hy
      show ((r.M.set i m)[j]?).getD pg0 = if y = x then m else (r.M[j]?).getD pg0
      rw [List.getElem?_set]
      by_cases e : i = j
      · subst e
        have : y = x := by rw [← hyj, hxi]
        rw [if_pos rfl, if_pos (by omega), if_pos this]
        rfl
      · have : y ≠ x := fun h => by rw [h, hx] at hy; injection hy with hy; exact e hy
        rw [if_neg e, if_neg this]
theorem mset_tab (s : Mm) (x : Int) (m : Pg) (h0 : s.tab x = pg0 → m = pg0) (y : Int) : (s.setTab x m).tab y = if y = x then m else s.tab y := by
  cases hx : s.t x with
  | none =>
    rw [setTab_none hx]
    have ht : s.tab x = pg0 := by unfold Mm.tab; rw [hx]; rfl
    by_cases e : y = x
    · rw [if_pos e, e, ht, h0 ht]
    · rw [if_neg e]
  | some m0 =>
    rw [setTab_some hx]
    show (updT s.t x (some m) y).getD pg0 = _
    unfold updT
    by_cases e : y = x
    · rw [if_pos e, if_pos e]; rfl
    · rw [if_neg e, if_neg e]; rfl
theorem ent_pg0 (pg : Int) : ent pg0 pg = none := by unfold ent pg0; split <;> rfl
theorem unm_pg0 (pg : Int) : unmM pg0 pg = pg0 := by unfold unmM; rw [ent_pg0]
theorem wlk_pg0 (pg : Int) (wr : Bool) : wlkM pg0 pg wr = pg0 := by unfold wlkM; rw [ent_pg0]
theorem used_pg0 : usedM (ents pg0 256) pg0 = pg0 := by rw [ents_pg0_nil]; rfl
/-- What is left when some pages are unmapped. -/
theorem unmM_at (m : Pg) (a k : Nat) : unmM m (a : Nat) k = if k = a then none else m k := by
  unfold unmM
  rw [T12.ent_nat]
  cases h : m a with
  | none =>
    show m k = _
    by_cases e : k = a
    · rw [if_pos e, e, h]
    · rw [if_neg e]
  | some e0 => show T12.upd m (Int.toNat (a : Int)) none k = _; unfold T12.upd; rw [Int.toNat_natCast]
theorem unmL_at (l : List (Nat × E)) (m : Pg) (k : Nat) : unmL l m k = if l.any (fun a => a.1 == k) then none else m k := by
  induction l generalizing m with
  | nil => rfl
  | cons a r ih =>
    show unmL r (unmM m (a.1 : Nat)) k = _
    rw [ih, unmM_at, List.any_cons]
    by_cases e : k = a.1
    · rw [if_pos e]
      simp [e]
    · rw [if_neg e]
      have : (a.1 == k) = false := by simpa using fun h => e h.symm
      rw [this, Bool.false_or]
theorem unmL_all {m : Pg} (h : ∀ k, 256 ≤ k → m k = none) : unmL (ents m 256) m = pg0 := by
  funext k
  rw [unmL_at]
  split
  · rfl
  · rename_i h1
    show m k = none
    by_cases hk : 256 ≤ k
    · exact h k hk
    · cases hm : m k with
      | none => rfl
      | some e =>
        exfalso
        apply h1
        rw [List.any_eq_true]
        exact ⟨(k, e), ents_mem.2 ⟨by omega, hm⟩, by simp⟩
section
variable {s : Mm} {r : Rm}
theorem Sim.setTab (h : Sim s r) (x : Int) (m : Pg) (h0 : s.tab x = pg0 → m = pg0) : Sim (s.setTab x m) (r.setTab x m) :=
  ⟨fun y => by rw [mset_tab s x m h0, rset_tab h.l x m (by rw [← h.t x]; exact h0), h.t y], by rw [setTab_C, rset_C]; exact h.c, by rw [setTab_n, rset_n]; exact h.n, by
    unfold Rm.setTab; split <;> exact h.a, by unfold Rm.setTab; split <;> simp [h.l]⟩
theorem Sim.shoot (h : Sim s r) (d : En → Bool) : Sim (s.shoot d) (r.shoot d) := ⟨h.t, by show s.C.map _ = r.C.map _; rw [h.c], by show s.n + gone d s.C = r.n + gone d r.C; rw [h.n, h.c], h.a, h.l⟩
theorem Sim.cache (h : Sim s r) (i : Nat) (k : Tl) : Sim { s with C := s.C.set i k } { r with C := r.C.set i k } := ⟨h.t, by show s.C.set i k = r.C.set i k; rw [h.c], h.n, h.a, h.l⟩
theorem shoot_set (r : Rm) (d : En → Bool) (x : Int) (m : Pg) : (r.shoot d).setTab x m = (r.setTab x m).shoot d := by
  have e : (r.shoot d).ix x = r.ix x := rfl
  unfold Rm.setTab
  rw [e]
  split <;> rfl
theorem Sim.unmap (h : Sim s r) (x pg : Int) : Sim (s.unmap x pg) ((r.shoot (fun e => e.is x pg)).setTab x (unmM (r.tab x) pg)) := by
  rw [shoot_set, ← h.t x]
  exact (h.setTab x _ (fun e => by rw [e, unm_pg0])).shoot _
theorem Sim.used (h : Sim s r) (x : Int) : Sim (s.used x) (r.setTab x (usedM (ents (r.tab x) 256) (r.tab x))) := by
  rw [← h.t x]
  exact h.setTab x _ (fun e => by rw [e, used_pg0])
theorem Sim.end_ (h : Sim s r) (x : Int) (ho : ∀ k, 256 ≤ k → s.tab x k = none) : Sim (s.end_ x) ((r.setTab x (unmL (ents (r.tab x) 256) (r.tab x))).shoot (fun e => e.s == x)) := by
  rw [← h.t x, unmL_all ho]
  have h1 : Sim ({ s with t := updT s.t x none } : Mm) (r.setTab x pg0) := by
    refine ⟨fun y => ?_, by rw [rset_C]; exact h.c, by rw [rset_n]; exact h.n, by unfold Rm.setTab; split <;> exact h.a, by unfold Rm.setTab; split <;> simp [h.l]⟩
    rw [rset_tab h.l x pg0 (fun _ => rfl), ← h.t y]
    show (updT s.t x none y).getD pg0 = _
    unfold updT
    by_cases e : y = x
    · rw [if_pos e, if_pos e]; rfl
    · rw [if_neg e, if_neg e]; rfl
  exact h1.shoot _
/-- Access. -/
theorem Sim.accK (h : Sim s r) (i : Nat) (k : Tl) (x pg : Int) (wr : Bool) : Sim (accK s i k x pg wr).s (raccK r i k x pg wr).s ∧ (accK s i k x pg wr).f = (raccK r i k x pg wr).f ∧ (accK s i k x pg wr).ok = (raccK r i k x pg wr).ok := by
  have h1 : Sim (({ s with C := s.C.set i (k.look x pg wr) } : Mm).setTab x (wlkM (s.tab x) pg wr)) (({ r with C := r.C.set i (k.look x pg wr) } : Rm).setTab x (wlkM (r.tab x) pg wr)) := by
    rw [← h.t x]
    exact (h.cache i _).setTab x _ (fun e => by rw [show s.tab x = pg0 from e, wlk_pg0])
  unfold YteognipfnbocpaaGreat.accK raccK
  simp only [h.t x] at h1 ⊢
  split
  · exact ⟨h1, rfl, rfl⟩
  · split
    · exact ⟨h1.cache i _, rfl, rfl⟩
    · exact ⟨h1, rfl, rfl⟩
theorem Sim.acc (h : Sim s r) (cpu x pg : Int) (wr : Bool) : Sim (s.acc cpu x pg wr).s (r.acc cpu x pg wr).s ∧ (s.acc cpu x pg wr).f = (r.acc cpu x pg wr).f ∧ (s.acc cpu x pg wr).ok = (r.acc cpu x pg wr).ok := by
  unfold Mm.acc Rm.acc
  rw [h.c]
  by_cases h0 : cpu < 0
  · rw [if_pos h0, if_pos h0]
    exact ⟨h, rfl, rfl⟩
  · rw [if_neg h0, if_neg h0]
    cases r.C[cpu.toNat]? with
    | none => exact ⟨h, rfl, rfl⟩
    | some k => exact h.accK _ _ x pg wr
end
/-- What Map leaves of the reference's Mmu. -/
structure MapS (r : Rm) (x pg fr : Int) (wr : Bool) (r' : Rm) : Prop where
  t : ∀ y, r'.tab y = if y = x then mapM (r.tab x) pg fr wr else r.tab y
  c : r'.C = if 0 ≤ pg ∧ pg < 256 ∧ 0 ≤ fr then r.C.map (·.drop (fun e => e.is x pg)) else r.C
  n : r'.n = if 0 ≤ pg ∧ pg < 256 ∧ 0 ≤ fr then r.n + gone (fun e => e.is x pg) r.C else r.n
  a : Asc r'.N
  l : r'.N.length = r'.M.length
  k : r'.N.length ≤ r.N.length + 1
theorem Sim.map {s : Mm} {r r' : Rm} (h : Sim s r) {x pg fr : Int} {wr : Bool} (hm : MapS r x pg fr wr r') : Sim (s.map x pg fr wr) r' := by
  unfold Mm.map
  by_cases hr : 0 ≤ pg ∧ pg < 256 ∧ 0 ≤ fr
  · have hc := hm.c
    have hn := hm.n
    rw [if_pos hr] at hc hn ⊢
    refine ⟨fun y => ?_, ?_, ?_, hm.a, hm.l⟩
    · rw [hm.t y]
      show (updT s.t x (some (mapM (s.tab x) pg fr wr)) y).getD pg0 = _
      unfold updT
      rw [h.t x, ← h.t y]
      by_cases e : y = x
      · rw [if_pos e, if_pos e]; rfl
      · rw [if_neg e, if_neg e]; rfl
    · rw [hc, ← h.c]; rfl
    · rw [hn, ← h.c, ← h.n]; rfl
  · have hc := hm.c
    have hn := hm.n
    rw [if_neg hr] at hc hn ⊢
    refine ⟨fun y => ?_, by rw [hc, h.c], by rw [hn, h.n], hm.a, hm.l⟩
    rw [hm.t y, h.t y]
    have e3 : mapM (r.tab x) pg fr wr = r.tab x := by unfold mapM; rw [if_neg hr]
    rw [e3]
    by_cases e : y = x
    · rw [if_pos e, e]
    · rw [if_neg e]
/-- What Lose leaves of the reference's Mmu. -/
structure LoseS (r : Rm) (fr : Int) (r' : Rm) : Prop where
  t : ∀ y, r'.tab y = loseT fr (r.tab y)
  c : r'.C = r.C.map (·.drop (fun e => e.f == fr))
  n : r'.n = r.n + gone (fun e => e.f == fr) r.C
  a : r'.N = r.N
  l : r'.N.length = r'.M.length
theorem Sim.lose {s : Mm} {r r' : Rm} (h : Sim s r) {fr : Int} (hm : LoseS r fr r') : Sim (s.lose fr) r' := by
  refine ⟨fun y => ?_, by rw [hm.c, ← h.c]; rfl, by rw [hm.n, ← h.c, ← h.n]; rfl, by rw [hm.a]; exact h.a, hm.l⟩
  rw [hm.t y, ← h.t y]
  show ((s.t y).map (loseT fr)).getD pg0 = loseT fr ((s.t y).getD pg0)
  cases s.t y with
  | none => rfl
  | some m => rfl
/-- The hits over the spaces of a list. -/
def sumH (T : Int → Pg) (fr : Int) : List Int → Nat
  | [] => 0
  | x :: r => hits fr (ents (T x) 256) + sumH T fr r
theorem sumH_snoc (T : Int → Pg) (fr : Int) (l : List Int) (x : Int) : sumH T fr (l ++ [x]) = sumH T fr l + hits fr (ents (T x) 256) := by
  induction l with
  | nil => simp [sumH]
  | cons y t ih => simp only [List.cons_append, sumH, ih]; omega
theorem sumH_le (T : Int → Pg) (fr : Int) (l : List Int) : sumH T fr l ≤ 256 * l.length := by
  induction l with
  | nil => exact Nat.le_refl _
  | cons x t ih =>
    have := hits_le fr (ents (T x) 256)
    have := ents_bd (T x)
    simp only [sumH, List.length_cons]
    omega
theorem sumH_perm (T : Int → Pg) (fr : Int) {l r : List Int} (h : l.Perm r) : sumH T fr l = sumH T fr r := by
  induction h with
  | nil => rfl
  | cons x _ ih => simp only [sumH, ih]
  | swap x y l => simp only [sumH]; omega
  | trans _ _ ih1 ih2 => exact ih1.trans ih2
theorem sumH_filter (T : Int → Pg) (fr : Int) (l : List Int) : sumH T fr (l.filter (fun x => decide (0 < hits fr (ents (T x) 256)))) = sumH T fr l := by
  induction l with
  | nil => rfl
  | cons x t ih =>
    rw [List.filter_cons]
    split
    · simp only [sumH, ih]
    · rename_i h
      rw [ih]
      simp only [decide_eq_true_eq] at h
      simp only [sumH]
      omega
theorem perm_of_mem {l r : List Int} (h1 : l.Nodup) (h2 : r.Nodup) (h : ∀ x, x ∈ l ↔ x ∈ r) : l.Perm r := (List.perm_ext_iff_of_nodup h1 h2).2 h
theorem sumD_hits (s : Mm) (fr : Int) (ks : List Int) : sumD fr s.t (fun _ => false) ks = sumH s.tab fr ks := by
  induction ks with
  | nil => rfl
  | cons x t ih =>
    have : hitT fr (s.t x) = hits fr (ents (s.tab x) 256) := by
      unfold hitT Mm.tab
      cases s.t x with
      | none => rw [Option.getD_none, ents_pg0_nil]; rfl
      | some m => rfl
    simp only [sumD, sumH, ih, this]
    simp
theorem Asc.nodup {l : List Int} (h : Asc l) : l.Nodup := List.Pairwise.imp (fun h e => by rw [e] at h; exact absurd h (Int.lt_irrefl _)) h
theorem Sim.hits {s : Mm} {r : Rm} (h : Sim s r) (fr : Int) {ks : List Int} (hn : ks.Nodup) (hks : ∀ x, (s.t x).isSome → x ∈ ks) : sumD fr s.t (fun _ => false) ks = sumH r.tab fr r.N := by
  have ht : s.tab = r.tab := funext h.t
  rw [sumD_hits, ht, ← sumH_filter r.tab fr ks, ← sumH_filter r.tab fr r.N]
  refine sumH_perm _ _ (perm_of_mem (hn.filter _) (h.a.nodup.filter _) (fun x => ?_))
  rw [List.mem_filter, List.mem_filter]
  simp only [decide_eq_true_eq]
  refine ⟨fun ⟨h1, h2⟩ => ⟨?_, h2⟩, fun ⟨h1, h2⟩ => ⟨?_, h2⟩⟩
  · cases hx : r.ix x with
    | none =>
      have : r.tab x = pg0 := by unfold Rm.tab; rw [hx]
      rw [this, ents_pg0_nil] at h2
      exact absurd h2 (by simp [YteognipfnbocpaaGreat.hits])
    | some i =>
      obtain ⟨hi, he⟩ := rix_lt hx
      rw [← he]
      exact List.getElem_mem hi
  · refine hks x ?_
    rw [← h.t x] at h2
    cases hx : s.t x with
    | none =>
      have : s.tab x = pg0 := by unfold Mm.tab; rw [hx]; rfl
      rw [this, ents_pg0_nil] at h2
      exact absurd h2 (by simp [YteognipfnbocpaaGreat.hits])
    | some m => rfl
/-- Two ascending lists with the same members are one. -/
theorem asc_ext : ∀ {l r : List Int}, Asc l → Asc r → (∀ x, x ∈ l ↔ x ∈ r) → l = r := by
  intro l r h1 h2 h
  exact List.Perm.eq_of_pairwise (fun a b _ _ h1 h2 => absurd h1 (by omega)) h1 h2 (perm_of_mem h1.nodup h2.nodup h)
theorem Sim.spaces {s : Mm} {r : Rm} (h : Sim s r) {l : List Int} (ha : Asc l) (hl : ∀ x, x ∈ l ↔ hasE s x = true) : l = r.N.filter (hasR r) := by
  refine asc_ext ha (List.Pairwise.filter _ h.a) (fun x => ?_)
  rw [hl, List.mem_filter]
  have e : hasR r x = hasE s x := by unfold hasR hasE; rw [h.t x]
  rw [e]
  refine ⟨fun h1 => ⟨?_, h1⟩, fun h1 => h1.2⟩
  cases hx : r.ix x with
  | none =>
    have h2 : r.tab x = pg0 := by unfold Rm.tab; rw [hx]
    unfold hasE at h1
    rw [h.t x, h2, ents_pg0_nil] at h1
    simp at h1
  | some i =>
    obtain ⟨hi, he⟩ := rix_lt hx
    rw [← he]
    exact List.getElem_mem hi
end Go.Proofs.YteognipfnbocpaaGreat
