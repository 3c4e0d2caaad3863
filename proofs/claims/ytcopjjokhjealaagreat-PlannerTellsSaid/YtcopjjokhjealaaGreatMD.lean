/- Texts of the elder seat, turned to this one: P2 P3. -/
import Derived.Test.YtcopjjokhjealaaGreatMC
namespace Go.Proofs.YtcopjjokhjealaaGreat
open Go.RowKit

/-- What hangs on a running item's own line and count stays while it runs. -/
theorem Rm.loc {Q : Rn → Option Ln → Option Ct → Prop} {j : Job} {s s' : Pl} {o : List Int} (h : Rm j s s' o) (hh : ∀ r ∈ s.li, Q r (s.ln r.l) (s.ct (r.l, r.i))) : ∀ r ∈ s'.li, Q r (s'.ln r.l) (s'.ct (r.l, r.i)) := by
  induction h with
  | rem hk hw h ih => exact ih (fun r hr => hh r ((List.eraseIdx_sublist _ _).subset hr))
  | nil => exact hh
  | cons h1 h2 ih1 ih2 => exact ih2 (ih1 hh)
  | @done s id h =>
    intro r hr
    have hne : r.l ≠ id := by have := ixF_neg h r hr; simpa using this
    have := hh r hr
    have e1 : (dropL s id).ln r.l = s.ln r.l := updG_ne _ _ hne
    have e2 : (dropL s id).ct (r.l, r.i) = s.ct (r.l, r.i) := by
      show (if (r.l, r.i).1 = id then none else s.ct (r.l, r.i)) = _
      rw [if_neg hne]
    rw [e1, e2]; exact this
  | step h h1 h2 ih1 ih2 => exact ih2 (ih1 hh)
/-- No later item is the trial of an earlier item's line. -/
def Par (s : Pl) (a : Rn) (t : Int) : Prop := 0 < a.l ∧ ∃ n, s.ln a.l = some n ∧ n.par = t
structure Core (X : Rn → Prop) (s : Pl) : Prop where
  z : ∃ n, s.ln 0 = some n ∧ n.par = 0
  id : ∀ x n, s.ln x = some n → 0 ≤ x ∧ x < 32
  it : ∀ x n, s.ln x = some n → rightL n.it = true
  hm : ∀ r ∈ s.li, (∃ n, s.ln r.l = some n ∧ (X r ∨ r.i ∈ n.it)) ∧ (s.ct (r.l, r.i)).isSome = true
  t1 : ∀ r ∈ s.li, 1 ≤ r.t
  td : (s.li.map (·.t)).Nodup
  kd : (s.li.map fun r => (r.l, r.i)).Nodup
  m4 : ∀ x, manyI s.li x ≤ 4
  po : s.li.Pairwise fun a b => ¬ Par s a b.t
  ps : ∀ a ∈ s.li, ¬ Par s a a.t
  kc : ∀ k c, s.ct k = some c → (c.l, c.i) = k
def No : Int → Prop := fun _ => False
def NoR : Rn → Prop := fun _ => False
structure Inv (X : Rn → Prop) (s : Pl) : Prop where
  c : Core X s
  o : Orph No s
  b : Bal No s
def Cap (Φ : Nat) (s : Pl) : Prop := ∃ M, CapM M s.ct ∧ M + s.li.length ≤ Φ
theorem Cap.mono {Φ Ψ : Nat} {s : Pl} (h : Cap Φ s) (hΦ : Φ ≤ Ψ) : Cap Ψ s := by obtain ⟨M, h1, h2⟩ := h; exact ⟨M, h1, by omega⟩
theorem many_sub {a b : List Rn} (h : a.Sublist b) (x : Int) : manyI a x ≤ manyI b x := (h.filter _).length_le
theorem Core.rm {X : Rn → Prop} {j : Job} {s s' : Pl} {o : List Int} (c : Core X s) (h : Rm j s s' o) (hp : ∀ x ∈ pend j, 0 < x) : Core X s' := by
  have hs := h.sub
  have hln := h.ln
  have hpar : ∀ a t, Par s' a t → Par s a t := fun a t ⟨h0, n, h1, h2⟩ => ⟨h0, n, hln _ _ h1, h2⟩
  refine ⟨?_, fun x n hx => c.id x n (hln x n hx), fun x n hx => c.it x n (hln x n hx), ?_, fun r hr => c.t1 r (hs.subset hr), c.td.sublist (hs.map _), c.kd.sublist (hs.map _), fun x => Nat.le_trans (many_sub hs x) (c.m4 x), ?_, fun a ha hq => c.ps a (hs.subset ha) (hpar _ _ hq), fun k ct hk => c.kc k ct (h.ct k ct hk)⟩
  · obtain ⟨n, h1, h2⟩ := c.z
    exact ⟨n, by rw [(h.zero hp).1]; exact h1, h2⟩
  · exact h.loc (Q := fun r a b => (∃ n, a = some n ∧ (X r ∨ r.i ∈ n.it)) ∧ b.isSome = true) c.hm
  · exact (c.po.sublist hs).imp (fun hab hq => hab (hpar _ _ hq))
theorem Core.cnt {X : Rn → Prop} {s : Pl} (c : Core X s) (l i : Int) (ad : Ct) : Core X (cntS s l i ad) := by
  refine ⟨c.z, c.id, c.it, fun r hr => ⟨(c.hm r hr).1, ?_⟩, c.t1, c.td, c.kd, c.m4, c.po, c.ps, fun k ct hk => ?_⟩
  · show (updG s.ct (l, i) _ (r.l, r.i)).isSome = true
    by_cases e : (r.l, r.i) = (l, i)
    · rw [e, updG_same]; rfl
    · rw [updG_ne _ _ e]; exact (c.hm r hr).2
  · have hk : updG s.ct (l, i) _ k = some ct := hk
    by_cases e : k = (l, i)
    · subst e
      rw [updG_same] at hk
      injection hk with hk
      subst hk
      rfl
    · rw [updG_ne _ _ e] at hk; exact c.kc k ct hk
theorem Core.take {X : Rn → Prop} {s : Pl} (c : Core X s) (k : Nat) : Core X (takeOut s k) := by
  have hs : (s.li.eraseIdx k).Sublist s.li := List.eraseIdx_sublist _ _
  exact ⟨c.z, c.id, c.it, fun r hr => c.hm r (hs.subset hr), fun r hr => c.t1 r (hs.subset hr), c.td.sublist (hs.map _), c.kd.sublist (hs.map _), fun x => Nat.le_trans (many_sub hs x) (c.m4 x), c.po.sublist hs, fun a ha => c.ps a (hs.subset ha), c.kc⟩
/-- The item at k has its place alone. -/
theorem kd_erase {L : List Rn} (h : (L.map fun r => (r.l, r.i)).Nodup) {k : Nat} (hk : k < L.length) : runB (L.eraseIdx k) L[k].l L[k].i = false := by
  unfold runB
  rw [List.any_eq_false]
  intro r hr hq
  obtain ⟨i, hi, hik, rfl⟩ := List.mem_eraseIdx_iff_getElem.1 hr
  simp at hq
  have hp := List.pairwise_iff_getElem.1 h
  rcases Nat.lt_or_gt_of_ne hik with hlt | hlt
  · exact hp i k (by simpa using hi) (by simpa using hk) hlt (by simp [hq.1, hq.2])
  · exact hp k i (by simpa using hk) (by simpa using hi) hlt (by simp [hq.1, hq.2])
theorem runB_at {L : List Rn} {k : Nat} (hk : k < L.length) : runB L L[k].l L[k].i = true := List.any_eq_true.2 ⟨_, List.getElem_mem hk, by simp⟩
theorem runB_erase2 {L : List Rn} {k : Nat} (hk : k < L.length) {l i : Int} (h : (L[k].l, L[k].i) ≠ (l, i)) : runB (L.eraseIdx k) l i = runB L l i := by
  unfold runB
  rw [Bool.eq_iff_iff, List.any_eq_true, List.any_eq_true]
  constructor
  · rintro ⟨r, hr, h1⟩
    exact ⟨r, (List.eraseIdx_sublist _ _).subset hr, h1⟩
  · rintro ⟨r, hr, h1⟩
    refine ⟨r, mem_eraseIdx_ne hr hk (fun e => h ?_), h1⟩
    rw [← e]
    simp at h1
    rw [h1.1, h1.2]
/-- One that goes is counted once. -/
def One (ad : Ct) : Prop := ad.runs = 0 ∧ ad.com + ad.con + ad.drp + ad.str = 1
theorem bal_take {X : Rn → Prop} {s : Pl} (c : Core X s) (hb : Bal No s) {k : Nat} (hk : k < s.li.length) {ad : Ct} (ha : One ad) : Bal No (takeOut (cntS s s.li[k].l s.li[k].i ad) k) := by
  intro K ct hct
  refine .inr ?_
  have hct : updG s.ct (s.li[k].l, s.li[k].i) (some (addC s.li[k].l s.li[k].i (cntOf s.ct s.li[k].l s.li[k].i) ad)) K = some ct := hct
  show BalC (s.li.eraseIdx k) K ct
  by_cases e : K = (s.li[k].l, s.li[k].i)
  · subst e
    rw [updG_same] at hct
    injection hct with hct
    have h2 := (c.hm _ (List.getElem_mem hk)).2
    obtain ⟨c0, hc0⟩ := Option.isSome_iff_exists.1 h2
    have hb0 := (hb _ _ hc0).resolve_left (fun h => h)
    unfold BalC at hb0 ⊢
    dsimp only at hb0 ⊢
    rw [runB_at hk, if_pos rfl] at hb0
    rw [kd_erase c.kd hk, if_neg (by simp), ← hct]
    unfold cntOf
    rw [hc0]
    obtain ⟨a1, a2⟩ := ha
    simp only [addC, Option.getD_some]
    omega
  · rw [updG_ne _ _ e] at hct
    have hb0 := (hb _ _ hct).resolve_left (fun h => h)
    unfold BalC at hb0 ⊢
    rw [hb0, runB_erase2 hk (fun h => e h.symm)]
theorem orph_cnt {P : Int → Prop} {s : Pl} {l i : Int} {ad : Ct} (h : Orph P s) : Orph P (cntS s l i ad) := h
theorem No.of {p : Int → Prop} {s : Pl} (h : Orph No s) : Orph (fun x => No x ∨ p x) s := fun x n h0 hx => (h x n h0 hx).elim (fun h => h.elim) .inr
theorem No.bal {p : Int → Prop} {s : Pl} (h : Bal No s) : Bal (fun x => No x ∨ p x) s := fun k c hk => (h k c hk).elim (fun h => h.elim) .inr
/-- An item that is counted and goes, with all that lies in it. -/
theorem Inv.rem {X : Rn → Prop} {s s' : Pl} {o : List Int} (h : Inv X s) {k : Nat} (hk : k < s.li.length) {ad : Ct} (ha : One ad) (hr : Rm (.rem k) (cntS s s.li[k].l s.li[k].i ad) s' o) : Inv X s' := by
  refine ⟨(h.c.cnt _ _ _).rm hr (fun x hx => by cases hx), hr.orph No (No.of h.o), hr.bal No ?_⟩
  exact No.bal (bal_take h.c h.b hk ha)
theorem CapM.rm {M : Nat} {j : Job} {s s' : Pl} {o : List Int} (h : CapM M s.ct) (hr : Rm j s s' o) : CapM M s'.ct := fun k c hk => h k c (hr.ct k c hk)
theorem Cap.rem {Φ : Nat} {s s' : Pl} {o : List Int} (h : Cap Φ s) {l i : Int} {k : Nat} {ad : Ct} (ha : OkM 1 ad) (hr : Rm (.rem k) (cntS s l i ad) s' o) : Cap Φ s' := by
  obtain ⟨M, h1, h2⟩ := h
  have := hr.lt
  have this : s'.li.length < s.li.length := this
  exact ⟨M + 1, CapM.rm (s := cntS s l i ad) (h1.add l i ha) hr, by omega⟩
theorem fnd_spec {L : List Rn} {l i : Int} {k : Nat} (h : fndI L l i = k) : ∃ hk : k < L.length, L[k].l = l ∧ L[k].i = i := by
  unfold fndI at h
  obtain ⟨hk, h1, -⟩ := ixF_spec h
  simp at h1
  exact ⟨hk, h1⟩
theorem one_con : One conC := ⟨rfl, rfl⟩
theorem one_drp : One drpC := ⟨rfl, rfl⟩
theorem one_com : One comC := ⟨rfl, rfl⟩
theorem one_str : One strC := ⟨rfl, rfl⟩
theorem AgR.inv {X : Rn → Prop} {l i : Int} {ad : Ct} {s s' : Pl} {o : List Int} {e : Int} (h : AgR l i ad s s' o e) (ha : One ad) (hv : Inv X s) : Inv X s' := by
  rcases h with ⟨-, rfl, -, -⟩ | ⟨k, h1, h2, -⟩
  · exact hv
  · obtain ⟨hk, rfl, rfl⟩ := fnd_spec h1
    exact hv.rem hk ha h2
theorem AgR.cap {Φ : Nat} {l i : Int} {ad : Ct} {s s' : Pl} {o : List Int} {e : Int} (h : AgR l i ad s s' o e) (ha : OkM 1 ad) (hc : Cap Φ s) : Cap Φ s' := by
  rcases h with ⟨-, rfl, -, -⟩ | ⟨k, h1, h2, -⟩
  · exact hc
  · exact hc.rem ha h2
theorem GoR.inv {X : Rn → Prop} {l : Int} {s s' : Pl} {o : List Int} (h : GoR l s s' o) (hv : Inv X s) : Inv X s' := by
  rcases h with ⟨-, rfl, -⟩ | ⟨h0, h1, h2⟩
  · exact hv
  · obtain ⟨n, hn⟩ := Option.isSome_iff_exists.1 h1
    have := hv.c.id l n hn
    refine ⟨hv.c.rm h2 (fun x hx => ?_), h2.orph No (No.of hv.o), h2.bal No (No.bal hv.b)⟩
    simp [pend] at hx
    omega
theorem GoR.cap {Φ : Nat} {l : Int} {s s' : Pl} {o : List Int} (h : GoR l s s' o) (hc : Cap Φ s) : Cap Φ s' := by
  rcases h with ⟨-, rfl, -⟩ | ⟨h0, h1, h2⟩
  · exact hc
  · obtain ⟨M, g1, g2⟩ := hc
    have := h2.len
    exact ⟨M, g1.rm h2, by omega⟩
/-- An item whose line does not hold it. -/
def StX (l : Int) (it : List Int) (r : Rn) : Prop := isStray l it r = true
theorem St.inv {l : Int} {it : List Int} {s s' : Pl} {o : List Int} (h : St l it s s' o) (hv : Inv (StX l it) s) : Inv NoR s' := by
  induction h with
  | done h =>
    refine ⟨⟨hv.c.z, hv.c.id, hv.c.it, fun r hr => ?_, hv.c.t1, hv.c.td, hv.c.kd, hv.c.m4, hv.c.po, hv.c.ps, hv.c.kc⟩, hv.o, hv.b⟩
    obtain ⟨⟨n, h1, h2⟩, h3⟩ := hv.c.hm r hr
    refine ⟨⟨n, h1, .inr (h2.resolve_left (fun hx => ?_))⟩, h3⟩
    have := ixF_neg h r hr
    unfold StX at hx
    rw [hx] at this
    cases this
  | @step s s1 s2 k o1 o2 h hk h1 h2 ih =>
    obtain ⟨hk', hq, -⟩ := ixF_spec h
    have hl : s.li[k].l = l := by unfold isStray at hq; simp at hq; exact hq.1
    exact ih (hv.rem hk one_str (by rw [hl]; exact h1))
theorem St.cap {Φ : Nat} {l : Int} {it : List Int} {s s' : Pl} {o : List Int} (h : St l it s s' o) (hc : Cap Φ s) : Cap Φ s' := by
  induction h with
  | done h => exact hc
  | step h hk h1 h2 ih => exact ih (hc.rem strC_ok h1)
theorem Core.setIt {X : Rn → Prop} {s : Pl} (c : Core NoR s) {l : Int} {n : Ln} {its : List Int} (hn : s.ln l = some n) (hr : rightL its = true) (hX : ∀ r ∈ s.li, r.l = l → X r ∨ r.i ∈ its) : Core X (setIt s l n its) := by
  have hln : ∀ x m, (Go.Proofs.YtcopjjokhjealaaGreat.setIt s l n its).ln x = some m → ∃ m', s.ln x = some m' ∧ m'.par = m.par ∧ (x = l ∧ m.it = its ∨ m = m') := by
    intro x m hx
    have hx : updG s.ln l (some ⟨n.par, n.pid, its⟩) x = some m := hx
    by_cases e : x = l
    · subst e
      rw [updG_same] at hx
      injection hx with hx
      subst hx
      exact ⟨n, hn, rfl, .inl ⟨rfl, rfl⟩⟩
    · rw [updG_ne _ _ e] at hx
      exact ⟨m, hx, rfl, .inr rfl⟩
  have hpar : ∀ a t, Par (Go.Proofs.YtcopjjokhjealaaGreat.setIt s l n its) a t → Par s a t := by
    rintro a t ⟨h0, m, h1, h2⟩
    obtain ⟨m', g1, g2, -⟩ := hln _ _ h1
    exact ⟨h0, m', g1, g2.trans h2⟩
  refine ⟨?_, fun x m hx => ?_, fun x m hx => ?_, fun r hr' => ⟨?_, (c.hm r hr').2⟩, c.t1, c.td, c.kd, c.m4, c.po.imp (fun hab hq => hab (hpar _ _ hq)), fun a ha hq => c.ps a ha (hpar _ _ hq), c.kc⟩
  · obtain ⟨m, h1, h2⟩ := c.z
    by_cases e : (0 : Int) = l
    · subst e
      rw [hn] at h1
      injection h1 with h1
      exact ⟨_, updG_same _ _ _, by rw [h1]; exact h2⟩
    · exact ⟨m, by show updG _ _ _ _ = _; rw [updG_ne _ _ e]; exact h1, h2⟩
  · obtain ⟨m', g1, -⟩ := hln x m hx
    exact c.id x m' g1
  · obtain ⟨m', g1, g2, g3⟩ := hln x m hx
    rcases g3 with ⟨-, h⟩ | rfl
    · rw [h]; exact hr
    · exact c.it x _ g1
  · obtain ⟨⟨m, h1, h2⟩, -⟩ := c.hm r hr'
    by_cases e : r.l = l
    · exact ⟨⟨n.par, n.pid, its⟩, by show updG _ _ _ _ = _; rw [e, updG_same], hX r hr' e⟩
    · exact ⟨m, by show updG _ _ _ _ = _; rw [updG_ne _ _ e]; exact h1, .inr (h2.resolve_left (fun h => h))⟩
theorem ComR.inv {l i : Int} {its : List Int} {s s' : Pl} {o : List Int} {e : Int} (h : ComR l i its s s' o e) (hv : Inv NoR s) : Inv NoR s' := by
  rcases h with ⟨-, rfl, -, -⟩ | ⟨k, r, n, y, h1, h2, h3, h4, h5⟩
  · exact hv
  rcases h5 with ⟨-, rfl, -⟩ | ⟨-, -, rfl, -⟩ | ⟨-, -, -, rfl, -⟩ | ⟨-, -, -, -, rfl, -⟩ | ⟨hy, hd, hw, hr, hst, -⟩
  · exact hv
  · exact hv
  · exact hv
  · exact hv
  obtain ⟨hk, hl, hi⟩ := fnd_spec h1
  have hrk : s.li[k] = r := by rw [List.getElem?_eq_getElem hk] at h2; injection h2
  refine hst.inv ⟨((hv.c.take k).cnt _ _ _).setIt h3 hr (fun q hq hql => ?_), ?_, ?_⟩
  · by_cases hx : q.i ∈ its
    · exact .inr hx
    · refine .inl ?_
      unfold StX isStray
      simp [hql, hx]
  · intro x m h0 hx
    have hx : updG s.ln l (some ⟨n.par, n.pid, its⟩) x = some m := hx
    obtain ⟨m', hm', hpar⟩ : ∃ m', s.ln x = some m' ∧ m'.par = m.par := by
      by_cases ex : x = l
      · subst ex
        rw [updG_same] at hx
        injection hx with hx
        subst hx
        exact ⟨n, h3, rfl⟩
      · rw [updG_ne _ _ ex] at hx
        exact ⟨m, hx, rfl⟩
    rcases hv.o x m' h0 hm' with h | ⟨q, hq, hqt⟩
    · exact .inl h
    · refine .inr ⟨q, mem_eraseIdx_ne hq hk (fun e => ?_), hqt.trans hpar⟩
      have : x ∈ ([] : List Int) := (hw.2 x).2 ⟨h0, m', hm', by rw [← hqt, e, hrk]⟩
      cases this
  · have := bal_take hv.c hv.b hk one_com
    rw [hl, hi] at this
    exact this
theorem ComR.cap {Φ : Nat} {l i : Int} {its : List Int} {s s' : Pl} {o : List Int} {e : Int} (h : ComR l i its s s' o e) (hc : Cap Φ s) : Cap Φ s' := by
  rcases h with ⟨-, rfl, -, -⟩ | ⟨k, r, n, y, h1, h2, h3, h4, h5⟩
  · exact hc
  rcases h5 with ⟨-, rfl, -⟩ | ⟨-, -, rfl, -⟩ | ⟨-, -, -, rfl, -⟩ | ⟨-, -, -, -, rfl, -⟩ | ⟨hy, hd, hw, hr, hst, -⟩
  · exact hc
  · exact hc
  · exact hc
  · exact hc
  obtain ⟨hk, -⟩ := fnd_spec h1
  obtain ⟨M, g1, g2⟩ := hc
  refine hst.cap ⟨M + 1, g1.add l i comC_ok, ?_⟩
  have := eraseIdx_len hk
  show M + 1 + (s.li.eraseIdx k).length ≤ Φ
  omega
end Go.Proofs.YtcopjjokhjealaaGreat
namespace Go.Proofs.YtcopjjokhjealaaGreat
open Go.RowKit

theorem tri_neg {L : List Rn} {t : Int} (h : triI L t < 0) : ∀ q ∈ L, q.t ≠ t := fun q hq e => by
  have := ixF_neg (p := fun x => decide (x.t = t)) h q hq
  simp [e] at this
theorem tri_pos {L : List Rn} {t : Int} (h : ¬ triI L t < 0) : ∃ q ∈ L, q.t = t := by
  obtain ⟨k, -, hk⟩ := ixF_lt h
  obtain ⟨hk', h1, -⟩ := ixF_spec hk
  exact ⟨_, List.getElem_mem hk', by simpa using h1⟩
theorem fnd_neg {L : List Rn} {l i : Int} (h : fndI L l i < 0) : ∀ q ∈ L, ¬ (q.l = l ∧ q.i = i) := fun q hq e => by
  have := ixF_neg (p := fun x => decide (x.l = l) && decide (x.i = i)) h q hq
  simp [e.1, e.2] at this
theorem runB_app (L : List Rn) (r : Rn) (l i : Int) : runB (L ++ [r]) l i = (runB L l i || (decide (r.l = l) && decide (r.i = i))) := by
  unfold runB
  rw [List.any_append]
  simp
theorem many_app (L : List Rn) (r : Rn) (x : Int) : manyI (L ++ [r]) x = manyI L x + if r.l = x then 1 else 0 := by
  unfold manyI
  rw [List.filter_append, List.length_append]
  by_cases h : r.l = x <;> simp [h]
/-- What an item needs that begins. -/
theorem beg_spec {s : Pl} {l i t : Int} (h : begE s l i t = 0) : ∃ n, s.ln l = some n ∧ 1 ≤ t ∧ i ∈ n.it ∧ fndI s.li l i < 0 ∧ triI s.li t < 0 ∧ manyI s.li l < 4 := by
  unfold begE at h
  cases hn : s.ln l with
  | none => rw [hn] at h; cases h
  | some n =>
    rw [hn] at h
    dsimp only at h
    unfold begN at h
    by_cases h1 : t < 1
    · rw [if_pos h1] at h; cases h
    rw [if_neg h1] at h
    by_cases h2 : i ∈ n.it
    · rw [if_neg (by simp [h2])] at h
      by_cases h3 : 0 ≤ fndI s.li l i ∨ 0 ≤ triI s.li t
      · rw [if_pos h3] at h; cases h
      rw [if_neg h3] at h
      by_cases h4 : 4 ≤ manyI s.li l
      · rw [if_pos h4] at h; cases h
      exact ⟨n, rfl, by omega, h2, by omega, by omega, by omega⟩
    · rw [if_pos h2] at h; cases h
theorem Inv.beg {s : Pl} {l i t : Int} (hv : Inv NoR s) (h : begE s l i t = 0) : Inv NoR (cntS ⟨s.ln, s.li ++ [⟨l, i, t, false⟩], s.ct⟩ l i runC) := by
  obtain ⟨n, hn, ht, hi, hf, hq, hm⟩ := beg_spec h
  have c := hv.c
  have htr := tri_neg hq
  have hfn := fnd_neg hf
  have hpar : ∀ a : Rn, ¬ Par s a t := by
    rintro a ⟨h0, m, h1, h2⟩
    rcases hv.o a.l m h0 h1 with h | ⟨q, hq, hqt⟩
    · exact h
    · exact htr q hq (hqt.trans h2)
  refine ⟨⟨c.z, c.id, c.it, ?_, ?_, ?_, ?_, ?_, ?_, ?_, ?_⟩, ?_, ?_⟩
  · intro r hr
    show (∃ n, s.ln r.l = some n ∧ (NoR r ∨ r.i ∈ n.it)) ∧ (updG s.ct (l, i) _ (r.l, r.i)).isSome = true
    rcases List.mem_append.1 hr with hr | hr
    · refine ⟨(c.hm r hr).1, ?_⟩
      rw [updG_ne _ _ (fun e => by injection e with e1 e2; exact hfn r hr ⟨e1, e2⟩)]
      exact (c.hm r hr).2
    · rw [List.mem_singleton.1 hr]
      exact ⟨⟨n, hn, .inr hi⟩, by rw [updG_same]; rfl⟩
  · intro r hr
    rcases List.mem_append.1 hr with hr | hr
    · exact c.t1 r hr
    · rw [List.mem_singleton.1 hr]; exact ht
  · show ((s.li ++ [_]).map (fun r : Rn => r.t)).Nodup
    rw [List.map_append, List.nodup_append]
    refine ⟨c.td, by simp, ?_⟩
    intro a ha b hb
    obtain ⟨q, hq1, rfl⟩ := List.mem_map.1 ha
    simp at hb
    subst hb
    exact htr q hq1
  · show ((s.li ++ [_]).map (fun r : Rn => (r.l, r.i))).Nodup
    rw [List.map_append, List.nodup_append]
    refine ⟨c.kd, by simp, ?_⟩
    intro a ha b hb
    obtain ⟨q, hq1, rfl⟩ := List.mem_map.1 ha
    simp at hb
    subst hb
    intro e
    injection e with e1 e2
    exact hfn q hq1 ⟨e1, e2⟩
  · intro x
    show manyI (s.li ++ [_]) x ≤ 4
    rw [many_app]
    have := c.m4 x
    by_cases e : l = x
    · subst e; rw [if_pos rfl]; omega
    · rw [if_neg e]; omega
  · show (s.li ++ [_]).Pairwise (fun a b => ¬ Par s a b.t)
    rw [List.pairwise_append]
    refine ⟨c.po, by simp, ?_⟩
    intro a ha b hb
    rw [List.mem_singleton.1 hb]
    exact hpar a
  · intro a ha
    show ¬ Par s a a.t
    rcases List.mem_append.1 ha with ha | ha
    · exact c.ps a ha
    · rw [List.mem_singleton.1 ha]; exact hpar _
  · intro k ct hk
    have hk : updG s.ct (l, i) _ k = some ct := hk
    by_cases e : k = (l, i)
    · subst e
      rw [updG_same] at hk
      injection hk with hk
      subst hk
      rfl
    · rw [updG_ne _ _ e] at hk; exact c.kc k ct hk
  · intro x m h0 hx
    rcases hv.o x m h0 hx with h | ⟨q, hq, hqt⟩
    · exact .inl h
    · exact .inr ⟨q, List.mem_append.2 (.inl hq), hqt⟩
  · intro K ct hct
    refine .inr ?_
    have hct : updG s.ct (l, i) (some (addC l i (cntOf s.ct l i) runC)) K = some ct := hct
    show BalC (s.li ++ [_]) K ct
    unfold BalC
    rw [runB_app]
    have hrb : runB s.li l i = false := by rw [runB_fnd]; exact decide_eq_false (by omega)
    by_cases e : K = (l, i)
    · subst e
      rw [updG_same] at hct
      injection hct with hct
      rw [← hct]
      unfold cntOf
      cases hc0 : s.ct (l, i) with
      | none => simp [addC, zC, runC]
      | some c0 =>
        have hb0 := (hv.b _ _ hc0).resolve_left (fun h => h)
        unfold BalC at hb0
        dsimp only at hb0
        rw [hrb] at hb0
        simp at hb0
        simp [addC, runC]
        omega
    · rw [updG_ne _ _ e] at hct
      have hb0 := (hv.b _ _ hct).resolve_left (fun h => h)
      unfold BalC at hb0
      rw [hb0]
      have : (decide (l = K.1) && decide (i = K.2)) = false := by
        rw [Bool.and_eq_false_iff, decide_eq_false_iff_not, decide_eq_false_iff_not]
        by_cases e1 : l = K.1
        · exact .inr (fun e2 => e (by rw [e1, e2]))
        · exact .inl e1
      rw [this, Bool.or_false]
theorem Inv.begS {s : Pl} {l i t : Int} (hv : Inv NoR s) : Inv NoR (begS s l i t) := by
  unfold Go.Proofs.YtcopjjokhjealaaGreat.begS
  by_cases h : begE s l i t = 0
  · rw [if_pos h]; exact hv.beg h
  · rw [if_neg h]; exact hv
theorem Cap.begS {Φ : Nat} {s : Pl} {l i t : Int} (hc : Cap Φ s) : Cap (Φ + 2) (begS s l i t) := by
  unfold Go.Proofs.YtcopjjokhjealaaGreat.begS
  by_cases h : begE s l i t = 0
  · rw [if_pos h]
    obtain ⟨M, g1, g2⟩ := hc
    refine ⟨M + 1, g1.add l i runC_ok, ?_⟩
    show M + 1 + (s.li ++ [_]).length ≤ _
    rw [List.length_append]
    simp
    omega
  · rw [if_neg h]; exact hc.mono (by omega)
def key3 (r : Rn) : Int × Int × Int := (r.l, r.i, r.t)
theorem done_key (L : List Rn) (k : Nat) : (doneR L k).map key3 = L.map key3 := by
  unfold doneR
  cases h : L[k]? with
  | none => rfl
  | some x =>
    dsimp only
    rw [List.map_set]
    have hk : k < L.length := by
      by_cases hk : k < L.length
      · exact hk
      · rw [List.getElem?_eq_none (by omega)] at h; cases h
    rw [List.getElem?_eq_getElem hk] at h
    injection h with h
    apply List.ext_getElem
    · simp
    · intro j h1 h2
      rw [List.getElem_set]
      by_cases e : k = j
      · subst e; rw [if_pos rfl, List.getElem_map, h]; rfl
      · rw [if_neg e]
theorem key_mem {L L' : List Rn} (h : L'.map key3 = L.map key3) {r : Rn} (hr : r ∈ L') : ∃ q ∈ L, q.l = r.l ∧ q.i = r.i ∧ q.t = r.t := by
  have : key3 r ∈ L.map key3 := by rw [← h]; exact List.mem_map.2 ⟨r, hr, rfl⟩
  obtain ⟨q, hq, e⟩ := List.mem_map.1 this
  injection e with e1 e
  injection e with e2 e3
  exact ⟨q, hq, e1, e2, e3⟩
theorem key_run {L L' : List Rn} (h : L'.map key3 = L.map key3) (l i : Int) : runB L' l i = runB L l i := by
  have e : ∀ M : List Rn, runB M l i = (M.map key3).any (fun r => decide (r.1 = l) && decide (r.2.1 = i)) := fun M => by
    unfold runB; rw [List.any_map]; rfl
  rw [e, e, h]
theorem Inv.same {s : Pl} {L : List Rn} (hv : Inv NoR s) (h : L.map key3 = s.li.map key3) : Inv NoR ⟨s.ln, L, s.ct⟩ := by
  have c := hv.c
  refine ⟨⟨c.z, c.id, c.it, ?_, ?_, ?_, ?_, ?_, ?_, ?_, c.kc⟩, ?_, ?_⟩
  · intro r hr
    obtain ⟨q, hq, e1, e2, e3⟩ := key_mem h hr
    have := c.hm q hq
    rw [e1, e2] at this
    obtain ⟨⟨n, h1, h2⟩, h3⟩ := this
    exact ⟨⟨n, h1, .inr (h2.resolve_left (fun h => h))⟩, h3⟩
  · intro r hr
    obtain ⟨q, hq, e1, e2, e3⟩ := key_mem h hr
    rw [← e3]; exact c.t1 q hq
  · have e : L.map (·.t) = s.li.map (·.t) := by
      have := congrArg (List.map (fun q : Int × Int × Int => q.2.2)) h
      simpa [List.map_map, key3, Function.comp_def] using this
    show (L.map (·.t)).Nodup
    rw [e]; exact c.td
  · have e : L.map (fun r => (r.l, r.i)) = s.li.map (fun r => (r.l, r.i)) := by
      have := congrArg (List.map (fun q : Int × Int × Int => (q.1, q.2.1))) h
      simpa [List.map_map, key3, Function.comp_def] using this
    show (L.map (fun r => (r.l, r.i))).Nodup
    rw [e]; exact c.kd
  · intro x
    have e : ∀ M : List Rn, manyI M x = ((M.map key3).filter (fun r => decide (r.1 = x))).length := fun M => by
      unfold manyI; rw [List.filter_map, List.length_map]; rfl
    show manyI L x ≤ 4
    rw [e, h, ← e]; exact c.m4 x
  · have e : ∀ M : List Rn, M.Pairwise (fun a b => ¬ Par s a b.t) ↔ (M.map key3).Pairwise (fun a b => ¬ (0 < a.1 ∧ ∃ n, s.ln a.1 = some n ∧ n.par = b.2.2)) := fun M => by
      rw [List.pairwise_map]; rfl
    show L.Pairwise (fun a b => ¬ Par s a b.t)
    rw [e, h, ← e]; exact c.po
  · intro a ha
    obtain ⟨q, hq, e1, e2, e3⟩ := key_mem h ha
    have := c.ps q hq
    show ¬ (0 < a.l ∧ ∃ n, s.ln a.l = some n ∧ n.par = a.t)
    rw [← e1, ← e3]
    exact this
  · intro x m h0 hx
    rcases hv.o x m h0 hx with h' | ⟨q, hq, hqt⟩
    · exact .inl h'
    · obtain ⟨r, hr, e1, e2, e3⟩ := key_mem h.symm hq
      exact .inr ⟨r, hr, e3.trans hqt⟩
  · intro K ct hct
    refine .inr ?_
    have hb0 := (hv.b _ _ hct).resolve_left (fun h => h)
    unfold BalC at hb0 ⊢
    rw [hb0]
    show _ = _ + if runB L K.1 K.2 = true then 1 else 0
    rw [key_run h]
theorem Inv.finS {s : Pl} {l i : Int} (hv : Inv NoR s) : Inv NoR (finS s l i) := by
  unfold Go.Proofs.YtcopjjokhjealaaGreat.finS
  by_cases h : fndI s.li l i < 0
  · rw [if_pos h]; exact hv
  · rw [if_neg h]; exact hv.same (done_key _ _)
theorem Cap.finS {Φ : Nat} {s : Pl} {l i : Int} (hc : Cap Φ s) : Cap Φ (finS s l i) := by
  unfold Go.Proofs.YtcopjjokhjealaaGreat.finS
  by_cases h : fndI s.li l i < 0
  · rw [if_pos h]; exact hc
  · rw [if_neg h]
    obtain ⟨M, g1, g2⟩ := hc
    refine ⟨M, g1, ?_⟩
    show M + (doneR _ _).length ≤ Φ
    rw [doneR_len]; exact g2
theorem NesR.inv {par pid : Int} {its : List Int} {s s' : Pl} {n e : Int} (h : NesR par pid its s s' n e) (hv : Inv NoR s) : Inv NoR s' := by
  rcases h with ⟨-, rfl, -⟩ | ⟨-, -, rfl, -⟩ | ⟨-, -, -, rfl, -⟩ | ⟨-, -, -, -, rfl, -⟩ | ⟨hr, ht, hno, hc, hn, rfl, -⟩
  · exact hv
  · exact hv
  · exact hv
  · exact hv
  have c := hv.c
  obtain ⟨z, hz1, hz2⟩ := c.z
  have hlt := hn.lt (by rw [hz1]; rfl) hc
  obtain ⟨h1, h2, -⟩ := hn
  have hne : ∀ r ∈ s.li, r.l ≠ n := fun r hr e => by
    obtain ⟨⟨m, hm, -⟩, -⟩ := c.hm r hr
    rw [e, h2] at hm
    cases hm
  have hpar : ∀ a ∈ s.li, ∀ t, Par ⟨updG s.ln n (some ⟨par, pid, its⟩), s.li, s.ct⟩ a t → Par s a t := by
    rintro a ha t ⟨h0, m, g1, g2⟩
    have g1 : updG s.ln n (some ⟨par, pid, its⟩) a.l = some m := g1
    rw [updG_ne _ _ (hne a ha)] at g1
    exact ⟨h0, m, g1, g2⟩
  refine ⟨⟨⟨z, ?_, hz2⟩, ?_, ?_, ?_, c.t1, c.td, c.kd, c.m4, ?_, fun a ha hq => c.ps a ha (hpar a ha _ hq), c.kc⟩, ?_, hv.b⟩
  · show updG s.ln n _ 0 = _
    rw [updG_ne _ _ (by omega)]; exact hz1
  · intro x m hx
    have hx : updG s.ln n (some ⟨par, pid, its⟩) x = some m := hx
    by_cases ex : x = n
    · subst ex; omega
    · rw [updG_ne _ _ ex] at hx; exact c.id x m hx
  · intro x m hx
    have hx : updG s.ln n (some ⟨par, pid, its⟩) x = some m := hx
    by_cases ex : x = n
    · subst ex
      rw [updG_same] at hx
      injection hx with hx
      subst hx
      exact hr
    · rw [updG_ne _ _ ex] at hx; exact c.it x m hx
  · intro r hr
    refine ⟨?_, (c.hm r hr).2⟩
    show ∃ m, updG s.ln n _ r.l = some m ∧ _
    rw [updG_ne _ _ (hne r hr)]
    exact (c.hm r hr).1
  · refine List.Pairwise.imp_of_mem ?_ c.po
    intro a b ha hb hab hq
    exact hab (hpar a ha _ hq)
  · intro x m h0 hx
    have hx : updG s.ln n (some ⟨par, pid, its⟩) x = some m := hx
    by_cases ex : x = n
    · subst ex
      rw [updG_same] at hx
      injection hx with hx
      subst hx
      exact .inr (tri_pos ht)
    · rw [updG_ne _ _ ex] at hx
      exact hv.o x m h0 hx
theorem NesR.cap {Φ : Nat} {par pid : Int} {its : List Int} {s s' : Pl} {n e : Int} (h : NesR par pid its s s' n e) (hc : Cap Φ s) : Cap Φ s' := by
  rcases h with ⟨-, rfl, -⟩ | ⟨-, -, rfl, -⟩ | ⟨-, -, -, rfl, -⟩ | ⟨-, -, -, -, rfl, -⟩ | ⟨-, -, -, -, -, rfl, -⟩ <;> exact hc
theorem Inv.newS (L : List Int) : Inv NoR (newS L) := by
  have hr : rightL (if rightL L then L else []) = true := by
    by_cases h : rightL L = true
    · rw [if_pos h]; exact h
    · rw [if_neg h]; rfl
  have hln : ∀ x n, (Go.Proofs.YtcopjjokhjealaaGreat.newS L).ln x = some n → x = 0 ∧ n = ⟨0, 1, if rightL L then L else []⟩ := by
    intro x n hx
    have hx : updG (fun _ => none) 0 (some _) x = some n := hx
    by_cases e : x = 0
    · subst e
      rw [updG_same] at hx
      injection hx with hx
      exact ⟨rfl, hx.symm⟩
    · rw [updG_ne _ _ e] at hx; cases hx
  refine ⟨⟨⟨⟨0, 1, if rightL L then L else []⟩, by show updG (fun _ => none) 0 (some _) (0 : Int) = some _; rw [updG_same], rfl⟩, fun x n hx => by have := (hln x n hx).1; omega, fun x n hx => by rw [(hln x n hx).2]; exact hr, ?_, ?_, by exact List.Pairwise.nil, by exact List.Pairwise.nil, fun x => by show manyI [] x ≤ 4; simp [manyI], by exact List.Pairwise.nil, ?_, ?_⟩, ?_, ?_⟩
  · intro r hr; cases hr
  · intro r hr; cases hr
  · intro r hr; cases hr
  · intro k c hk; cases hk
  · intro x n h0 hx; have := (hln x n hx).1; omega
  · intro k c hk; cases hk
theorem Cap.newS (L : List Int) : Cap 0 (newS L) := ⟨0, (fun k c hk => by cases hk), Nat.le_refl _⟩
/-- The kind of an operation. -/
def dk (x : Op) : Int := x.d % 16
/-- What an operation does, and what it returns. -/
inductive DoR (x : Op) (s : Pl) : Pl → List Int → Int → Int → Prop where
  | fin (h : dk x = 4 ∨ dk x = 5) : DoR x s (finS s x.l x.i) [] 0 (finE s x.l x.i)
  | com {s' : Pl} {o : List Int} {e : Int} (h : dk x = 6) (hr : ComR x.l x.i x.it s s' o e) : DoR x s s' o 0 e
  | con {s' : Pl} {o : List Int} {e : Int} (h : dk x = 7) (hr : AgR x.l x.i conC s s' o e) : DoR x s s' o 0 e
  | drp {s' : Pl} {o : List Int} {e : Int} (h : dk x = 8) (hr : AgR x.l x.i drpC s s' o e) : DoR x s s' o 0 e
  | gon {s' : Pl} {o : List Int} (h : dk x = 9) (hr : GoR x.l s s' o) : DoR x s s' o 0 0
  | nes {s' : Pl} {n e : Int} (h : dk x = 10 ∨ dk x = 11) (hr : NesR x.t x.pd x.it s s' n e) : DoR x s s' [] n e
  | ahn (h : 12 ≤ dk x) (ha : aheadV s x.l = none) : DoR x s s [] 0 4
  | ahb {y : Int} (h : 12 ≤ dk x) (ha : aheadV s x.l = some y) : DoR x s (begS s x.l y x.t) [] y (begE s x.l y x.t)
  | beg (h : dk x < 4) : DoR x s (begS s x.l x.i x.t) [] 0 (begE s x.l x.i x.t)
theorem DoR.inv {x : Op} {s s' : Pl} {o : List Int} {n e : Int} (h : DoR x s s' o n e) (hv : Inv NoR s) : Inv NoR s' := by
  cases h with
  | fin h => exact hv.finS
  | com h hr => exact hr.inv hv
  | con h hr => exact hr.inv one_con hv
  | drp h hr => exact hr.inv one_drp hv
  | gon h hr => exact hr.inv hv
  | nes h hr => exact hr.inv hv
  | ahn h ha => exact hv
  | ahb h ha => exact hv.begS
  | beg h => exact hv.begS
theorem DoR.cap {Φ : Nat} {x : Op} {s s' : Pl} {o : List Int} {n e : Int} (h : DoR x s s' o n e) (hc : Cap Φ s) : Cap (Φ + 2) s' := by
  cases h with
  | fin h => exact hc.finS.mono (by omega)
  | com h hr => exact (hr.cap hc).mono (by omega)
  | con h hr => exact (hr.cap conC_ok hc).mono (by omega)
  | drp h hr => exact (hr.cap drpC_ok hc).mono (by omega)
  | gon h hr => exact (hr.cap hc).mono (by omega)
  | nes h hr => exact (hr.cap hc).mono (by omega)
  | ahn h ha => exact hc.mono (by omega)
  | ahb h ha => exact hc.begS
  | beg h => exact hc.begS
end Go.Proofs.YtcopjjokhjealaaGreat
