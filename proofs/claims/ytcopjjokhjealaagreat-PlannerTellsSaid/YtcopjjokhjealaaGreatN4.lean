/- The reference's count. -/
import Derived.Test.YtcopjjokhjealaaGreatN3
namespace Go.Proofs.YtcopjjokhjealaaGreat
open Go.RowKit

section
variable {w W : World} {G : List Nat} {q : Nat} {s s' : Pl} {LV LV' : List LnV} {C C' : List Ct} {A1 A2 A3 A' : Option Addr} {c1 c2 c3 c' : Nat}
/-- The counts of a list, ascending. -/
structure CsOK (g : Int × Int → Option Ct) (C : List Ct) : Prop where
  as3 : C.Pairwise ltC
  cs : ∀ c ∈ C, g (c.l, c.i) = some c
  cc : ∀ k c, g k = some c → c ∈ C ∧ (c.l, c.i) = k
structure LsOK (w : World) (f : Int → Option Ln) (LV : List LnV) : Prop where
  as1 : Asc (LV.map (·.id))
  ls : ∀ v ∈ LV, ∃ n, f v.id = some n ∧ LnAt w v.id v n
  lc : ∀ x, (f x).isSome = true → x ∈ LV.map (·.id)
theorem QAt.csOK (h : QAt w G q s LV C A1 A2 A3 c1 c2 c3) : CsOK s.ct C := ⟨h.as3, h.cs, h.cc⟩
theorem QAt.lsOK (h : QAt w G q s LV C A1 A2 A3 c1 c2 c3) : LsOK w s.ln LV := ⟨h.as1, h.ls, h.lc⟩
theorem LsOK.keep {H : List Nat} {w' : World} {f : Int → Option Ln} (h : LsOK w f LV) (hk : Keeps H w w') (hG : ∀ g ∈ H, ¬ IntRow w g) : LsOK w' f LV :=
  ⟨h.as1, fun v hv => by obtain ⟨n, h1, h2⟩ := h.ls v hv; exact ⟨n, h1, h2.keep hk hG⟩, h.lc⟩
theorem QAt.mk' (hG : G = q :: (fp (.slice A1 LV.length c1) ++ (fp (.slice A2 s.li.length c2) ++ fp (.slice A3 C.length c3)))) (b : Blk w q 65 #[.slice A1 LV.length c1, .slice A2 s.li.length c2, .slice A3 C.length c3])
    (o1 : w.ownsRow 0 56 4 (.slice A1 LV.length c1) LV.length (rw lcs LV)) (o2 : w.ownsRow 0 69 4 (.slice A2 s.li.length c2) s.li.length (rw rcs s.li)) (o3 : w.ownsRow 0 84 7 (.slice A3 C.length c3) C.length (rw ccs C))
    (hl : LsOK w s.ln LV) (hc : CsOK s.ct C) : QAt w G q s LV C A1 A2 A3 c1 c2 c3 := ⟨hG, b, o1, o2, o3, hl.as1, hl.ls, hl.lc, hc.as3, hc.cs, hc.cc⟩
theorem QAt.memG1 (h : QAt w G q s LV C A1 A2 A3 c1 c2 c3) : ∀ g ∈ fp (.slice A1 LV.length c1), g ∈ G := fun g hg => by rw [h.fG]; simp [hg]
theorem QAt.memG2 (h : QAt w G q s LV C A1 A2 A3 c1 c2 c3) : ∀ g ∈ fp (.slice A2 s.li.length c2), g ∈ G := fun g hg => by rw [h.fG]; simp [hg]
theorem QAt.memG3 (h : QAt w G q s LV C A1 A2 A3 c1 c2 c3) : ∀ g ∈ fp (.slice A3 C.length c3), g ∈ G := fun g hg => by rw [h.fG]; simp [hg]
theorem QAt.memq (h : QAt w G q s LV C A1 A2 A3 c1 c2 c3) : q ∈ G := by rw [h.fG]; simp
theorem QAt.off1 (h : QAt w G q s LV C A1 A2 A3 c1 c2 c3) : q ∉ fp (.slice A1 LV.length c1) := own_blk_off h.o1 h.b (by decide)
theorem QAt.off2 (h : QAt w G q s LV C A1 A2 A3 c1 c2 c3) : q ∉ fp (.slice A2 s.li.length c2) := own_blk_off h.o2 h.b (by decide)
theorem QAt.off3 (h : QAt w G q s LV C A1 A2 A3 c1 c2 c3) : q ∉ fp (.slice A3 C.length c3) := own_blk_off h.o3 h.b (by decide)
/-- The counts renewed. -/
theorem QAt.putC (h : QAt W G q s LV C A1 A2 A3 c1 c2 c3) (ho : W.ownsRow 0 84 7 (.slice A' C'.length c') C'.length (rw ccs C')) (hf : ∀ g ∈ fp (.slice A' C'.length c'), w.heap.size ≤ g) (hq : q < w.heap.size)
    (e1 : s'.ln = s.ln) (e2 : s'.li = s.li) (hc : CsOK s'.ct C') :
    ∃ G', QAt (W.setCell ⟨q, 2, none⟩ (.slice A' C'.length c')) G' q s' LV C' A1 A2 A' c1 c2 c' ∧ ∀ g ∈ G', g ∈ G ∨ w.heap.size ≤ g := by
  have hk : Keeps [q] W (W.setCell ⟨q, 2, none⟩ (.slice A' C'.length c')) := (Keeps.refl [q] W).setCell (.inl (by simp)) _
  have hi : ∀ g ∈ [q], ¬ IntRow W g := fun g hg => h.noInt g (by rw [List.mem_singleton.1 hg]; exact h.memq)
  refine ⟨_, QAt.mk' rfl (by have := h.b.set_ 2 (.slice A' C'.length c'); rw [e2]; exact this) (own_keep h.o1 hk (fun g hg hm => h.off1 (by rw [← List.mem_singleton.1 hm]; exact hg))) ?_ (own_keep ho hk (fun g hg hm => by have := hf g hg; rw [List.mem_singleton.1 hm] at this; omega)) (by rw [e1]; exact h.lsOK.keep hk hi) hc, ?_⟩
  · rw [e2]; exact own_keep h.o2 hk (fun g hg hm => h.off2 (by rw [← List.mem_singleton.1 hm]; exact hg))
  · intro g hg
    rcases List.mem_cons.1 hg with rfl | hg
    · exact .inl h.memq
    rcases List.mem_append.1 hg with hg | hg
    · exact .inl (h.memG1 g hg)
    rcases List.mem_append.1 hg with hg | hg
    · rw [e2] at hg; exact .inl (h.memG2 g hg)
    · exact .inr (hf g hg)
/-- The running items renewed. -/
theorem QAt.putR (h : QAt W G q s LV C A1 A2 A3 c1 c2 c3) (ho : W.ownsRow 0 69 4 (.slice A' s'.li.length c') s'.li.length (rw rcs s'.li)) (hf : ∀ g ∈ fp (.slice A' s'.li.length c'), w.heap.size ≤ g) (hq : q < w.heap.size)
    (e1 : s'.ln = s.ln) (e3 : s'.ct = s.ct) :
    ∃ G', QAt (W.setCell ⟨q, 1, none⟩ (.slice A' s'.li.length c')) G' q s' LV C A1 A' A3 c1 c' c3 ∧ ∀ g ∈ G', g ∈ G ∨ w.heap.size ≤ g := by
  have hk : Keeps [q] W (W.setCell ⟨q, 1, none⟩ (.slice A' s'.li.length c')) := (Keeps.refl [q] W).setCell (.inl (by simp)) _
  have hi : ∀ g ∈ [q], ¬ IntRow W g := fun g hg => h.noInt g (by rw [List.mem_singleton.1 hg]; exact h.memq)
  refine ⟨_, QAt.mk' rfl (h.b.set_ 1 _) (own_keep h.o1 hk (fun g hg hm => h.off1 (by rw [← List.mem_singleton.1 hm]; exact hg))) (own_keep ho hk (fun g hg hm => by have := hf g hg; rw [List.mem_singleton.1 hm] at this; omega)) (own_keep h.o3 hk (fun g hg hm => h.off3 (by rw [← List.mem_singleton.1 hm]; exact hg))) (by rw [e1]; exact h.lsOK.keep hk hi) (by rw [e3]; exact h.csOK), ?_⟩
  intro g hg
  rcases List.mem_cons.1 hg with rfl | hg
  · exact .inl h.memq
  rcases List.mem_append.1 hg with hg | hg
  · exact .inl (h.memG1 g hg)
  rcases List.mem_append.1 hg with hg | hg
  · exact .inr (hf g hg)
  · exact .inl (h.memG3 g hg)
/-- The lines renewed. -/
theorem QAt.putL (h : QAt W G q s LV C A1 A2 A3 c1 c2 c3) (ho : W.ownsRow 0 56 4 (.slice A' LV'.length c') LV'.length (rw lcs LV')) (hf : ∀ g ∈ fp (.slice A' LV'.length c'), w.heap.size ≤ g) (hq : q < w.heap.size)
    (e2 : s'.li = s.li) (e3 : s'.ct = s.ct) (hl : LsOK W s'.ln LV') :
    ∃ G', QAt (W.setCell ⟨q, 0, none⟩ (.slice A' LV'.length c')) G' q s' LV' C A' A2 A3 c' c2 c3 ∧ ∀ g ∈ G', g ∈ G ∨ w.heap.size ≤ g := by
  have hk : Keeps [q] W (W.setCell ⟨q, 0, none⟩ (.slice A' LV'.length c')) := (Keeps.refl [q] W).setCell (.inl (by simp)) _
  have hi : ∀ g ∈ [q], ¬ IntRow W g := fun g hg => h.noInt g (by rw [List.mem_singleton.1 hg]; exact h.memq)
  refine ⟨_, QAt.mk' rfl (by have := h.b.set_ 0 (.slice A' LV'.length c'); rw [e2]; exact this) (own_keep ho hk (fun g hg hm => by have := hf g hg; rw [List.mem_singleton.1 hm] at this; omega)) (by rw [e2]; exact own_keep h.o2 hk (fun g hg hm => h.off2 (by rw [← List.mem_singleton.1 hm]; exact hg))) (own_keep h.o3 hk (fun g hg hm => h.off3 (by rw [← List.mem_singleton.1 hm]; exact hg))) (hl.keep hk hi) (by rw [e3]; exact h.csOK), ?_⟩
  intro g hg
  rcases List.mem_cons.1 hg with rfl | hg
  · exact .inl h.memq
  rcases List.mem_append.1 hg with hg | hg
  · exact .inr (hf g hg)
  rcases List.mem_append.1 hg with hg | hg
  · rw [e2] at hg; exact .inl (h.memG2 g hg)
  · exact .inl (h.memG3 g hg)
end
theorem ltC_trans {a b c : Ct} (h1 : ltC a b) (h2 : ltC b c) : ltC a c := by unfold ltC at *; omega
theorem ltC_key {a b : Ct} (h : ltC a b) : (a.l, a.i) ≠ (b.l, b.i) := fun e => by injection e with e1 e2; unfold ltC at h; omega
def ltb (x a : Ct) : Bool := decide (x.l < a.l) || (decide (x.l = a.l) && decide (x.i < a.i))
theorem ltb_iff (x a : Ct) : ltb x a = true ↔ ltC x a := by unfold ltb ltC; simp
/-- A count that is there. -/
theorem CsOK.set {g : Int × Int → Option Ct} {C : List Ct} (h : CsOK g C) {k : Nat} (hk : k < C.length) {a : Ct} (e1 : C[k].l = a.l) (e2 : C[k].i = a.i) :
    CsOK (updG g (a.l, a.i) (some (addC a.l a.i (cntOf g a.l a.i) a))) (C.set k (addC a.l a.i C[k] a)) ∧ cntOf g a.l a.i = C[k] := by
  have hg : g (a.l, a.i) = some C[k] := by rw [← e1, ← e2]; exact h.cs _ (List.getElem_mem hk)
  have hc : cntOf g a.l a.i = C[k] := by unfold cntOf; rw [hg]; rfl
  rw [hc]
  have hkey : ∀ j (hj : j < C.length), j ≠ k → (C[j].l, C[j].i) ≠ (a.l, a.i) := fun j hj hne => by
    rw [← e1, ← e2]
    have hp := List.pairwise_iff_getElem.1 h.as3
    rcases Nat.lt_or_gt_of_ne hne with hlt | hlt
    · exact ltC_key (hp j k hj hk hlt)
    · exact fun e => ltC_key (hp k j hk hj hlt) e.symm
  refine ⟨⟨?_, ?_, ?_⟩, rfl⟩
  · rw [List.pairwise_iff_getElem]
    intro i j hi hj hij
    rw [List.length_set] at hi hj
    have hp := List.pairwise_iff_getElem.1 h.as3 i j hi hj hij
    rw [List.getElem_set, List.getElem_set]
    by_cases e3 : k = i
    · subst e3
      rw [if_pos rfl, if_neg (by omega)]
      unfold ltC addC at *
      dsimp only
      omega
    · rw [if_neg e3]
      by_cases e4 : k = j
      · subst e4
        rw [if_pos rfl]
        unfold ltC addC at *
        dsimp only
        omega
      · rw [if_neg e4]; exact hp
  · intro c hcm
    obtain ⟨j, hj, rfl⟩ := List.getElem_of_mem hcm
    rw [List.length_set] at hj
    rw [List.getElem_set]
    by_cases e3 : k = j
    · subst e3
      rw [if_pos rfl]
      exact updG_same _ _ _
    · rw [if_neg e3, updG_ne _ _ (hkey j hj (fun e => e3 e.symm))]
      exact h.cs _ (List.getElem_mem hj)
  · intro x c hx
    by_cases e3 : x = (a.l, a.i)
    · subst e3
      rw [updG_same] at hx
      injection hx with hx
      subst hx
      refine ⟨?_, rfl⟩
      rw [List.mem_iff_getElem]
      exact ⟨k, by rw [List.length_set]; exact hk, by rw [List.getElem_set, if_pos rfl]⟩
    · rw [updG_ne _ _ e3] at hx
      obtain ⟨h1, h2⟩ := h.cc x c hx
      refine ⟨?_, h2⟩
      obtain ⟨j, hj, rfl⟩ := List.getElem_of_mem h1
      rw [List.mem_iff_getElem]
      refine ⟨j, by rw [List.length_set]; exact hj, ?_⟩
      rw [List.getElem_set, if_neg]
      rintro rfl
      exact e3 (by rw [← h2, e1, e2])
theorem addC_zero (a : Ct) : addC a.l a.i zC a = a := by unfold addC zC; simp
/-- A count that is not there yet. -/
theorem CsOK.ins {g : Int × Int → Option Ct} {C : List Ct} (h : CsOK g C) {k : Nat} (hk : k ≤ C.length) {a : Ct} (hlo : ∀ j (hj : j < C.length), j < k → ltC C[j] a) (hhi : ∀ hk : k < C.length, ltC a C[k]) :
    CsOK (updG g (a.l, a.i) (some (addC a.l a.i (cntOf g a.l a.i) a))) (C.take k ++ a :: C.drop k) := by
  have hall : ∀ c ∈ C.drop k, ltC a c := by
    intro c hc
    obtain ⟨j, hj, rfl⟩ := List.getElem_of_mem hc
    rw [List.length_drop] at hj
    rw [List.getElem_drop]
    have h0 := hhi (by omega)
    by_cases e : j = 0
    · subst e; exact h0
    · exact ltC_trans h0 (List.pairwise_iff_getElem.1 h.as3 k (k + j) (by omega) (by omega) (by omega))
  have hlo' : ∀ c ∈ C.take k, ltC c a := by
    intro c hc
    obtain ⟨j, hj, rfl⟩ := List.getElem_of_mem hc
    rw [List.length_take] at hj
    rw [List.getElem_take]
    exact hlo j (by omega) (by omega)
  have hno : g (a.l, a.i) = none := by
    cases hg : g (a.l, a.i) with
    | none => rfl
    | some c =>
      obtain ⟨h1, h2⟩ := h.cc _ _ hg
      rw [← List.take_append_drop k C] at h1
      rcases List.mem_append.1 h1 with h1 | h1
      · exact absurd h2 (ltC_key (hlo' c h1))
      · exact absurd h2.symm (ltC_key (hall c h1))
  have hcn : cntOf g a.l a.i = zC := by unfold cntOf; rw [hno]; rfl
  rw [hcn, addC_zero]
  refine ⟨?_, ?_, ?_⟩
  · rw [List.pairwise_append]
    refine ⟨h.as3.sublist (List.take_sublist _ _), List.pairwise_cons.2 ⟨hall, h.as3.sublist (List.drop_sublist _ _)⟩, fun x hx y hy => ?_⟩
    rcases List.mem_cons.1 hy with rfl | hy
    · exact hlo' x hx
    · exact ltC_trans (hlo' x hx) (hall y hy)
  · intro c hc
    rcases List.mem_append.1 hc with hc | hc
    · rw [updG_ne _ _ (ltC_key (hlo' c hc))]; exact h.cs c (List.mem_of_mem_take hc)
    rcases List.mem_cons.1 hc with rfl | hc
    · exact updG_same _ _ _
    · rw [updG_ne _ _ (ltC_key (hall c hc)).symm]; exact h.cs c (List.mem_of_mem_drop hc)
  · intro x c hx
    by_cases e : x = (a.l, a.i)
    · subst e
      rw [updG_same] at hx
      injection hx with hx
      subst hx
      exact ⟨by simp, rfl⟩
    · rw [updG_ne _ _ e] at hx
      obtain ⟨h1, h2⟩ := h.cc x c hx
      refine ⟨?_, h2⟩
      rw [← List.take_append_drop k C] at h1
      rcases List.mem_append.1 h1 with h1 | h1
      · simp [h1]
      · simp [h1]
theorem ltC_tri {x a : Ct} (h : ¬ ltC x a) (hne : ¬ (x.l = a.l ∧ x.i = a.i)) : ltC a x := by unfold ltC at *; omega
theorem run_take58 (A : Option Addr) (n c i : Nat) (hi : i ≤ n) (hc : n ≤ c) (W : World) : (Instr.slice 58 (.slice A n c) none (some (.int .i64 i)) none).run Tryz.prog W = .ok (.slice A i c) W := by
  have hp : (i : Int) ≤ c := by omega
  have h0 : (0 : Int) ≤ i := by omega
  go_simp
theorem run_drop58 (A : Option Addr) (n c i : Nat) (hi : i ≤ n) (W : World) : (Instr.slice 58 (.slice A n c) (some (.int .i64 i)) none none).run Tryz.prog W = .ok (.slice (if c = i then A else A.map (·.add (i * 4))) (n - i) (c - i)) W := by
  have hp : (i : Int) ≤ n := by omega
  have h0 : (0 : Int) ≤ i := by omega
  go_simp
theorem run_take62 (A : Option Addr) (n c i : Nat) (hi : i ≤ n) (hc : n ≤ c) (W : World) : (Instr.slice 62 (.slice A n c) none (some (.int .i64 i)) none).run Tryz.prog W = .ok (.slice A i c) W := by
  have hp : (i : Int) ≤ c := by omega
  have h0 : (0 : Int) ≤ i := by omega
  go_simp
theorem run_drop62 (A : Option Addr) (n c i : Nat) (hi : i ≤ n) (W : World) : (Instr.slice 62 (.slice A n c) (some (.int .i64 i)) none none).run Tryz.prog W = .ok (.slice (if c = i then A else A.map (·.add (i * 4))) (n - i) (c - i)) W := by
  have hp : (i : Int) ≤ n := by omega
  have h0 : (0 : Int) ≤ i := by omega
  go_simp
theorem run_take63 (A : Option Addr) (n c i : Nat) (hi : i ≤ n) (hc : n ≤ c) (W : World) : (Instr.slice 63 (.slice A n c) none (some (.int .i64 i)) none).run Tryz.prog W = .ok (.slice A i c) W := by
  have hp : (i : Int) ≤ c := by omega
  have h0 : (0 : Int) ≤ i := by omega
  go_simp
theorem run_drop63 (A : Option Addr) (n c i : Nat) (hi : i ≤ n) (W : World) : (Instr.slice 63 (.slice A n c) (some (.int .i64 i)) none none).run Tryz.prog W = .ok (.slice (if c = i then A else A.map (·.add (i * 7))) (n - i) (c - i)) W := by
  have hp : (i : Int) ≤ n := by omega
  have h0 : (0 : Int) ≤ i := by omega
  go_simp
theorem rw_set1 {α : Type} {c : α → List Value} {sz : Nat} (hc : ∀ x, (c x).length = sz) : ∀ {L : List α} {k : Nat} (hk : k < L.length) {j : Nat} (_ : j < sz) {u : Value} {y : α} (_ : c y = (c L[k]).set j u), rw c (L.set k y) = (rw c L).set (k * sz + j) u := by
  intro L
  induction L with
  | nil => intro k hk; cases hk
  | cons x r ih =>
    intro k hk j hj u y hy
    cases k with
    | zero =>
      simp only [List.getElem_cons_zero] at hy
      rw [List.set_cons_zero, rw_cons, rw_cons, hy, Nat.zero_mul, Nat.zero_add, List.set_append_left _ _ (by rw [hc]; exact hj)]
    | succ k =>
      simp only [List.getElem_cons_succ] at hy
      rw [List.set_cons_succ, rw_cons, rw_cons, ih (by simpa using hk) hj hy, List.set_append_right _ _ (by rw [hc, Nat.succ_mul]; omega)]
      congr 2
      rw [hc, Nat.succ_mul]; omega
theorem cell_of {w : World} {g n cap : Nat} {C : List Ct} {k j : Nat} {u : Value} (o : w.ownsRow 0 84 7 (.slice (some ⟨g, 0, none⟩) n cap) n (rw ccs C)) (hk : k < C.length) (hj : j < 7) (hu : (ccs C[k])[j]? = some u) : w.cell? ⟨g, k * 7 + j, none⟩ = some u := own_cell o (by rw [rw_at ccs_len7 hk hj]; exact hu)
/-- One cell of a count renewed. -/
theorem set_of {w : World} {g n cap : Nat} {C : List Ct} {k j : Nat} {u : Value} {x y : Ct} (o : w.ownsRow 0 84 7 (.slice (some ⟨g, 0, none⟩) n cap) n (rw ccs (C.set k x))) (hk : k < C.length) (hj : j < 7) (hy : ccs y = (ccs x).set j u) :
    (w.setCell ⟨g, k * 7 + j, none⟩ u).drew.ownsRow 0 84 7 (.slice (some ⟨g, 0, none⟩) n cap) n (rw ccs (C.set k y)) := by
  have h := own_drew (own_set o (k * 7 + j) u)
  have e : rw ccs (C.set k y) = (rw ccs (C.set k x)).set (k * 7 + j) u := by
    have h2 := rw_set1 (c := ccs) ccs_len7 (L := C.set k x) (k := k) (by rw [List.length_set]; exact hk) hj (u := u) (y := y) (by rw [List.getElem_set, if_pos rfl]; exact hy)
    rw [List.set_set] at h2
    exact h2
  rw [e]
  exact h
/-- The first cells of a row read. -/
theorem Reads.take {w : World} {B size n i : Nat} {A : Option Addr} {xs : List Value} (h : Reads w B size A n xs) (hi : i ≤ n) : Reads w B size A i (xs.take (i * size)) := by
  refine ⟨by rw [List.length_take, h.1]; have := Nat.mul_le_mul_right size hi; omega, fun hn => ?_⟩
  obtain ⟨ad, e, hb, hc⟩ := h.2 (by omega)
  exact ⟨ad, e, hb, fun j u hu => hc j u (by
    rw [List.getElem?_take] at hu
    split at hu
    · exact hu
    · cases hu)⟩
theorem ccs_one' (x : Ct) : ∀ u ∈ ccs x, u.oneCell' = true := ccs_one x
set_option maxRecDepth 1000000 in
set_option maxHeartbeats 6400000 in
theorem countQ_any (w : World) (G : List Nat) (q : Nat) (s : Pl) (LV : List LnV) (C : List Ct) (A1 A2 A3 : Option Addr) (c1 c2 c3 : Nat) (h : QAt w G q s LV C A1 A2 A3 c1 c2 c3) (hl : C.length ≤ 1000) (a : Ct) (M : Nat) (hM : M ≤ 1000000) (hc : CapM M s.ct) (ha : OkM 1 a) :
    Calls Tryz.prog 57 #[.pointer (some ⟨q, 0, none⟩), .agg #[.int .i64 a.l, .int .i64 a.i, .int .i64 a.runs, .int .i64 a.com, .int .i64 a.con, .int .i64 a.drp, .int .i64 a.str]] w fun e w' => e = .returned (.tuple #[]) ∧
      ∃ G' C' A3' c3', QAt w' G' q (cntS s a.l a.i a) LV C' A1 A2 A3' c1 c2 c3' ∧ C'.length ≤ C.length + 1 ∧ Keeps [q] w w' ∧ ∀ g ∈ G', g ∈ G ∨ w.heap.size ≤ g := by
  have HQ : Hid (∀ W, Keeps [] w W → QAt W G q s LV C A1 A2 A3 c1 c2 c3) := Lib.hid (fun W k => h.keep0 k)
  have HF2 : Hid (∀ W, Keeps [] w W → W.cell? ⟨q, 2, none⟩ = some (.slice A3 C.length c3)) := Lib.hid (fun W k => (h.keep0 k).b.cell 2)
  have HFR : Hid (∀ W, Keeps [] w W → W.frozen? ⟨q, 2, none⟩ = false) := Lib.hid (fun W k => (h.keep0 k).b.frozen 2)
  have HC : Hid (∀ W, Keeps [] w W → AtC W A3 C) := Lib.hid (fun W k => AtC.of_own (h.keep0 k).o3 (by omega))
  have HO3 : Hid (∀ W, Keeps [] w W → W.ownsRow 0 84 7 (.slice A3 C.length c3) C.length (rw ccs C)) := Lib.hid (fun W k => (h.keep0 k).o3)
  have HOK := Lib.hid h.csOK
  have hqw : q < w.heap.size := h.b.lt
  have HQN : Hid (∀ g ∈ [q], g ∈ G) := Lib.hid (fun g hg => by rw [List.mem_singleton.1 hg]; exact h.memq)
  have HCM := Lib.hid hc
  have HA := Lib.hid ha
  have HAQ : Hid (∀ k, ∀ hk : k < C.length, OkM M C[k]) := Lib.hid (fun k hk => hc _ _ (h.cs _ (List.getElem_mem hk)))
  have HI := Lib.hid info84
  have hA3 : 0 < C.length → ∃ g, A3 = some ⟨g, 0, none⟩ := by
    obtain ⟨_, _, hv, -, -, hA⟩ := own_shape h.o3
    obtain ⟨rfl, -, rfl⟩ : A3 = _ ∧ C.length = _ ∧ c3 = _ := by injection hv with h1 h2 h3; exact ⟨h1, rfl, h3⟩
    exact hA
  have HA3 := Lib.hid hA3
  obtain ⟨w1, hw1⟩ : ∃ w1, w.alloc (.cells #[.int .i64 a.l, .int .i64 a.i, .int .i64 a.runs, .int .i64 a.com, .int .i64 a.con, .int .i64 a.drp, .int .i64 a.str] 84) = w1 := ⟨_, rfl⟩
  have k1 : Keeps [] w w1 := by rw [← hw1]; exact (Keeps.refl [] w).alloc _
  have ba : Blk w1 w.heap.size 84 #[.int .i64 a.l, .int .i64 a.i, .int .i64 a.runs, .int .i64 a.com, .int .i64 a.con, .int .i64 a.drp, .int .i64 a.str] := by rw [← hw1]; exact Blk.new _ _ _
  have K1 := Lib.hid k1
  have BA := Lib.hid ba
  clear h hc ha hA3 k1 ba
  go_enter Tryz.func57, Tryz.ntmps57
  go_wp2_with fail
  obtain ⟨bc, hbc⟩ : ∃ bc, w.heap.size = bc := ⟨_, rfl⟩
  rw [hbc] at BA ⊢
  have HBC := Lib.hid hbc
  clear hbc
  go_loopw [4] (fun iv wr => ∃ k : Nat, k ≤ C.length ∧ iv = .int .i64 k ∧ (∀ j (hj : j < C.length), j < k → ltC C[j] a) ∧ Keeps [] w1 wr) (fun iv _ => C.length - (intOf iv).toNat)
  case atStart => exact ⟨0, by omega, rfl, fun j hj h => absurd h (by omega), Keeps.refl _ _⟩
  case round =>
    obtain ⟨k, hk, rfl, hno, kp⟩ := hrel
    have HNO := Lib.hid hno
    have KP := Lib.hid kp
    have KW : Hid (Keeps [] w wr) := Lib.hid (K1.out.trans kp (by simp))
    have BW := Lib.hid (BA.out.keep kp (by simp))
    have f2 := HF2.out wr KW.out
    clear hno kp
    go_upto_region 2 with fail
    clear hw1
    by_cases hlt : k < C.length
    · obtain ⟨g, rfl⟩ := HA3.out (by omega)
      obtain ⟨bl, off, hAA, hbl, hcc⟩ := (HC.out wr KW.out).at_ (by omega)
      simp only [Option.some.injEq, Addr.mk.injEq, and_true] at hAA
      obtain ⟨rfl, rfl⟩ := hAA
      obtain ⟨d0, d1, -⟩ := hcc k hlt
      rw [Nat.zero_add] at d0 d1
      clear hcc
      cases hb : ltb C[k] a with
      | true =>
        refine cq2_any wr q bc k C.length c3 g C[k] a _ hlt f2 d0 d1 BW.out true hb _ _ _ _ _ _ _ _ _ _ _ _ _ _ _ _ _ _ _ _ _ _ _ _ _ _ _ _ _ _ _ _ _ _ _ _ _ _ _ _ _ _ _ _ _ _ _ _ _ _ _ _ _ _ _ _ _ _ _ _ _ _ _ _ _ _ _ _ _ _ _ _ _ _ _ _ _ _ _ _ _ _ _ _ _ _ _ _ _ _ _ _ _ _ _ _ _ _ _ _ _ _ _ _ _ _ _ _ _ _ _ _ _ _ _ _ _ _ _ _ _ _ _ _ _ _ _ _ _ _ _ _ _ _ _ _ _ _ _ _ _ _ _ _ _ _ _ _ _ _ _ _ _ _ _ _ _ _ ?_
        intro v6 v7 v8 v9 v10 v11 v12 v13 v14 v15 v16 v17 v18 v19 v20 v21 v22 v23 v24 v25 v26 v27 v28 v29 v30 v31 v32 v33 v34 v35 v36 v37 v38 v39 v40 v41 v42 v43 v44 v45 v46 v47 v48 v49 v50 nq
        have HB := Lib.hid ((ltb_iff _ _).1 hb)
        clear hb
        go_wp2_with fail
        go_roundw
        case rel =>
          refine ⟨k + 1, by omega, by go_num, fun j hj hjk => ?_, KP.out.drewN nq⟩
          by_cases e : j = k
          · subst e; exact HB.out
          · exact HNO.out j hj (by omega)
        case measure => simp [intOf]; omega
      | false =>
        refine cq2_any wr q bc k C.length c3 g C[k] a _ hlt f2 d0 d1 BW.out false hb _ _ _ _ _ _ _ _ _ _ _ _ _ _ _ _ _ _ _ _ _ _ _ _ _ _ _ _ _ _ _ _ _ _ _ _ _ _ _ _ _ _ _ _ _ _ _ _ _ _ _ _ _ _ _ _ _ _ _ _ _ _ _ _ _ _ _ _ _ _ _ _ _ _ _ _ _ _ _ _ _ _ _ _ _ _ _ _ _ _ _ _ _ _ _ _ _ _ _ _ _ _ _ _ _ _ _ _ _ _ _ _ _ _ _ _ _ _ _ _ _ _ _ _ _ _ _ _ _ _ _ _ _ _ _ _ _ _ _ _ _ _ _ _ _ _ _ _ _ _ _ _ _ _ _ _ _ _ ?_
        intro v6 v7 v8 v9 v10 v11 v12 v13 v14 v15 v16 v17 v18 v19 v20 v21 v22 v23 v24 v25 v26 v27 v28 v29 v30 v31 v32 v33 v34 v35 v36 v37 v38 v39 v40 v41 v42 v43 v44 v45 v46 v47 v48 v49 v50 nq
        have HB := Lib.hid (show ¬ ltC C[k] a from fun h => by rw [(ltb_iff _ _).2 h] at hb; cases hb)
        clear hb d0 d1
        obtain ⟨W2, hW2⟩ : ∃ W2, wr.drewN nq = W2 := ⟨_, rfl⟩
        rw [hW2]
        have K2 : Hid (Keeps [] w W2) := Lib.hid (by rw [← hW2]; exact KW.out.drewN nq)
        have B2 := Lib.hid (show Blk W2 bc 84 #[.int .i64 a.l, .int .i64 a.i, .int .i64 a.runs, .int .i64 a.com, .int .i64 a.con, .int .i64 a.drp, .int .i64 a.str] by rw [← hW2]; exact BW.out.drewN nq)
        have f22 := HF2.out W2 K2.out
        clear hW2 f2 KW KP BW
        have hz2 := K2.out.size
        have hq2 : q < W2.heap.size := by omega
        have KA : Hid (Keeps [] W2 (W2.alloc (.cells #[] 84))) := Lib.hid ((Keeps.refl [] W2).alloc _)
        have HE : Hid ((W2.alloc (.cells #[] 84)).ownsRow 0 84 7 (.slice (some ⟨W2.heap.size, 0, none⟩) 0 0) 0 []) := Lib.hid (own_of_blk (Blk.new W2 84 #[]) (by omega) (by omega) rfl rfl)
        go_wp2_with (at_builtin; refine wpList_app _ rfl (.tmp 54) (.tmp 58) _ rfl 84 (.agg #[.int .i64 0, .int .i64 0, .int .i64 0, .int .i64 0, .int .i64 0, .int .i64 0, .int .i64 0]) 7 56 Tryz.underlying63 HI.out rfl (by omega) (.slice (some ⟨W2.heap.size, 0, none⟩) 0 0) 0 [] rfl HE.out _ (some ⟨g, 0, none⟩) _ _ (rw ccs C) rfl (reads_own (HO3.out _ (K2.out.trans KA.out (by simp)))) (rw_one ccs_one _) (by unfold maxLen; omega) (by omega) ?_)
        intro vl w3 ol kl fl
        have OL : Hid (w3.ownsRow 0 84 7 vl C.length (rw ccs C)) := Lib.hid ol
        have K3 : Hid (Keeps [] w w3) := Lib.hid ((K2.out.trans KA.out (by simp)).trans kl (fun g hg => .inr (by simp at hg; omega)))
        have hb2 := B2.out.lt
        have B3 := Lib.hid ((B2.out.keep KA.out (by simp)).keep kl (by simp; omega))
        have FL : Hid (∀ g ∈ fp vl, w.heap.size ≤ g) := Lib.hid (fun g hg => (fl g hg).elim (fun h => by omega) (fun h => by omega))
        have BN : Hid (bc ∉ fp vl) := Lib.hid (fun h => (fl bc h).elim (fun h => by omega) (fun h => by omega))
        obtain ⟨Al, cl, rfl, hcl, -, hAl⟩ := own_shape OL.out
        clear ol kl fl KA HE B2 f22
        by_cases hkey : C[k].l = a.l ∧ C[k].i = a.i
        · obtain ⟨gx, hgx⟩ := hAl (by omega)
          have d0 := cell_of (by rw [hgx] at OL; exact OL.out) (k := k) (j := 0) (u := .int .i64 C[k].l) hlt (by omega) rfl
          have d1 := cell_of (by rw [hgx] at OL; exact OL.out) (k := k) (j := 1) (u := .int .i64 C[k].i) hlt (by omega) rfl
          subst hgx
          have i1 : (k : Int) < (C.length : Int) := by omega
          go_upto_region 6 with fail
          refine cq6_any w3 bc k C.length cl gx C[k] a _ hlt d0 d1 B3.out true (by simp [hkey.1, hkey.2]) _ _ _ _ _ _ _ _ _ _ _ _ _ _ _ _ _ _ _ _ _ _ _ _ _ _ _ _ _ _ _ _ _ _ _ _ _ _ _ _ _ _ _ _ _ _ _ _ _ _ _ _ _ _ _ _ _ _ _ _ _ _ _ _ _ _ _ _ _ _ _ _ _ _ _ _ _ _ _ _ _ _ _ _ _ _ _ _ _ _ _ _ _ _ _ _ _ _ _ _ _ _ _ _ _ _ _ _ _ _ _ _ _ _ _ _ _ _ _ _ _ _ _ _ _ _ _ _ _ _ _ _ _ _ _ _ _ _ _ _ _ _ _ _ _ _ _ _ _ _ _ _ _ _ _ _ _ _ ?_
          intro v64 v65 v66 v67 v68 v69 v70 v71 v72 v73 v74 v75 v76 v77 v78 v79 v80 nq6 b6 hb6
          subst hb6
          obtain ⟨w5, hw5⟩ : ∃ W, w3.drewN nq6 = W := ⟨_, rfl⟩
          have OL5 := Lib.hid (show w5.ownsRow 0 84 7 _ _ _ by rw [← hw5]; exact own_drewN OL.out nq6)
          have B5 := Lib.hid (show Blk w5 bc 84 _ by rw [← hw5]; exact B3.out.drewN nq6)
          have K5 : Hid (Keeps [] w w5) := Lib.hid (by rw [← hw5]; exact K3.out.drewN nq6)
          rw [hw5]
          clear hw5 OL B3 K3 d0 d1
          obtain ⟨x, hx⟩ : ∃ x, C[k] = x := ⟨_, rfl⟩
          have o0 : w5.ownsRow 0 84 7 (.slice (some ⟨gx, 0, none⟩) C.length cl) C.length (rw ccs (C.set k x)) := by rw [← hx, List.set_getElem_self]; exact OL5.out
          have hbl : bc ≠ gx := fun e => BN.out (by rw [e]; simp)
          have hql : q ≠ gx := fun e => by have := FL.out gx (by simp); omega
          obtain ⟨m0, m1, m2, m3, m4⟩ := HAQ.out k hlt
          obtain ⟨n0, n1, n2, n3, n4⟩ := HA.out
          rw [hx] at m0 m1 m2 m3 m4
          have fl3 : gx < w5.heap.size := own_lt OL5.out (by simp)
          have HSET := Lib.hid (HOK.out.set hlt hkey.1 hkey.2)
          have k00 : Keeps [gx] w5 w5 := Keeps.refl _ _
          have b00 := B5.out
          have d0 := cell_of o0 (k := k) (j := 2) (u := .int .i64 x.runs) (by rw [List.length_set]; exact hlt) (by omega) (by rw [List.getElem_set, if_pos rfl]; rfl)
          have e0 := own_free o0 (k * 7 + 2)
          have x0 := b00.cell 2
          go_upto_region 7 with fail
          refine cq7_any _ bc k C.length cl gx x.runs a.runs _ hlt d0 e0 x0 (by rw [IntKind.wrap_i64]; omega) _ _ _ _ _ _ _ _ _ _ _ _ _ _ _ _ _ _ _ _ _ _ _ _ _ _ _ _ _ _ _ _ _ _ _ _ _ _ _ _ _ _ _ _ _ _ _ _ _ _ _ _ _ _ _ _ _ _ _ _ _ _ _ _ _ _ _ _ _ _ _ _ _ _ _ _ _ _ _ _ _ _ _ _ _ _ _ _ _ _ _ _ _ _ _ _ _ _ _ _ _ _ _ _ _ _ _ _ _ _ _ _ _ _ _ _ _ _ _ _ _ _ _ _ _ _ _ _ _ _ _ _ _ _ _ _ _ _ _ _ _ _ _ _ _ _ _ _ _ _ _ _ _ _ _ _ _ _ ?_
          intro v82 v83 v84 v85 v86 v87 v88 v89 v90 v91 v92 v93
          clear d0 e0 x0
          have o1 := set_of (y := ⟨x.l, x.i, x.runs + a.runs, x.com, x.con, x.drp, x.str⟩) o0 hlt (j := 2) (by omega) (u := .int .i64 (x.runs + a.runs)) rfl
          have k10 : Keeps [gx] w5 _ := (k00.setCell (p := ⟨gx, k * 7 + 2, none⟩) (.inl (by simp)) (.int .i64 (x.runs + a.runs))).drew
          have b10 := (b00.far (p := ⟨gx, k * 7 + 2, none⟩) hbl (.int .i64 (x.runs + a.runs))).drew
          clear o0 k00 b00
          obtain ⟨y0, hy0⟩ : ∃ W, World.drew (World.setCell w5 ⟨gx, k * 7 + 2, none⟩ (.int .i64 (x.runs + a.runs))) = W := ⟨_, rfl⟩
          rw [hy0] at o1 k10 b10 ⊢
          clear hy0
          have d1 := cell_of o1 (k := k) (j := 3) (u := .int .i64 x.com) (by rw [List.length_set]; exact hlt) (by omega) (by rw [List.getElem_set, if_pos rfl]; rfl)
          have e1 := own_free o1 (k * 7 + 3)
          have x1 := b10.cell 3
          go_upto_region 8 with fail
          refine cq8_any _ bc k C.length cl gx x.com a.com _ hlt d1 e1 x1 (by rw [IntKind.wrap_i64]; omega) _ _ _ _ _ _ _ _ _ _ _ _ _ _ _ _ _ _ _ _ _ _ _ _ _ _ _ _ _ _ _ _ _ _ _ _ _ _ _ _ _ _ _ _ _ _ _ _ _ _ _ _ _ _ _ _ _ _ _ _ _ _ _ _ _ _ _ _ _ _ _ _ _ _ _ _ _ _ _ _ _ _ _ _ _ _ _ _ _ _ _ _ _ _ _ _ _ _ _ _ _ _ _ _ _ _ _ _ _ _ _ _ _ _ _ _ _ _ _ _ _ _ _ _ _ _ _ _ _ _ _ _ _ _ _ _ _ _ _ _ _ _ _ _ _ _ _ _ _ _ _ _ _ _ _ _ _ _ ?_
          intro v94 v95 v96 v97 v98 v99 v100 v101 v102 v103 v104 v105
          clear d1 e1 x1
          have o2 := set_of (y := ⟨x.l, x.i, x.runs + a.runs, x.com + a.com, x.con, x.drp, x.str⟩) o1 hlt (j := 3) (by omega) (u := .int .i64 (x.com + a.com)) rfl
          have k20 : Keeps [gx] w5 _ := (k10.setCell (p := ⟨gx, k * 7 + 3, none⟩) (.inl (by simp)) (.int .i64 (x.com + a.com))).drew
          have b20 := (b10.far (p := ⟨gx, k * 7 + 3, none⟩) hbl (.int .i64 (x.com + a.com))).drew
          clear o1 k10 b10
          obtain ⟨y1, hy1⟩ : ∃ W, World.drew (World.setCell y0 ⟨gx, k * 7 + 3, none⟩ (.int .i64 (x.com + a.com))) = W := ⟨_, rfl⟩
          rw [hy1] at o2 k20 b20 ⊢
          clear hy1
          have d2 := cell_of o2 (k := k) (j := 4) (u := .int .i64 x.con) (by rw [List.length_set]; exact hlt) (by omega) (by rw [List.getElem_set, if_pos rfl]; rfl)
          have e2 := own_free o2 (k * 7 + 4)
          have x2 := b20.cell 4
          go_upto_region 9 with fail
          refine cq9_any _ bc k C.length cl gx x.con a.con _ hlt d2 e2 x2 (by rw [IntKind.wrap_i64]; omega) _ _ _ _ _ _ _ _ _ _ _ _ _ _ _ _ _ _ _ _ _ _ _ _ _ _ _ _ _ _ _ _ _ _ _ _ _ _ _ _ _ _ _ _ _ _ _ _ _ _ _ _ _ _ _ _ _ _ _ _ _ _ _ _ _ _ _ _ _ _ _ _ _ _ _ _ _ _ _ _ _ _ _ _ _ _ _ _ _ _ _ _ _ _ _ _ _ _ _ _ _ _ _ _ _ _ _ _ _ _ _ _ _ _ _ _ _ _ _ _ _ _ _ _ _ _ _ _ _ _ _ _ _ _ _ _ _ _ _ _ _ _ _ _ _ _ _ _ _ _ _ _ _ _ _ _ _ _ ?_
          intro v106 v107 v108 v109 v110 v111 v112 v113 v114 v115 v116 v117
          clear d2 e2 x2
          have o3 := set_of (y := ⟨x.l, x.i, x.runs + a.runs, x.com + a.com, x.con + a.con, x.drp, x.str⟩) o2 hlt (j := 4) (by omega) (u := .int .i64 (x.con + a.con)) rfl
          have k30 : Keeps [gx] w5 _ := (k20.setCell (p := ⟨gx, k * 7 + 4, none⟩) (.inl (by simp)) (.int .i64 (x.con + a.con))).drew
          have b30 := (b20.far (p := ⟨gx, k * 7 + 4, none⟩) hbl (.int .i64 (x.con + a.con))).drew
          clear o2 k20 b20
          obtain ⟨y2, hy2⟩ : ∃ W, World.drew (World.setCell y1 ⟨gx, k * 7 + 4, none⟩ (.int .i64 (x.con + a.con))) = W := ⟨_, rfl⟩
          rw [hy2] at o3 k30 b30 ⊢
          clear hy2
          have d3 := cell_of o3 (k := k) (j := 5) (u := .int .i64 x.drp) (by rw [List.length_set]; exact hlt) (by omega) (by rw [List.getElem_set, if_pos rfl]; rfl)
          have e3 := own_free o3 (k * 7 + 5)
          have x3 := b30.cell 5
          go_upto_region 10 with fail
          refine cq10_any _ bc k C.length cl gx x.drp a.drp _ hlt d3 e3 x3 (by rw [IntKind.wrap_i64]; omega) _ _ _ _ _ _ _ _ _ _ _ _ _ _ _ _ _ _ _ _ _ _ _ _ _ _ _ _ _ _ _ _ _ _ _ _ _ _ _ _ _ _ _ _ _ _ _ _ _ _ _ _ _ _ _ _ _ _ _ _ _ _ _ _ _ _ _ _ _ _ _ _ _ _ _ _ _ _ _ _ _ _ _ _ _ _ _ _ _ _ _ _ _ _ _ _ _ _ _ _ _ _ _ _ _ _ _ _ _ _ _ _ _ _ _ _ _ _ _ _ _ _ _ _ _ _ _ _ _ _ _ _ _ _ _ _ _ _ _ _ _ _ _ _ _ _ _ _ _ _ _ _ _ _ _ _ _ _ ?_
          intro v118 v119 v120 v121 v122 v123 v124 v125 v126 v127 v128 v129
          clear d3 e3 x3
          have o4 := set_of (y := ⟨x.l, x.i, x.runs + a.runs, x.com + a.com, x.con + a.con, x.drp + a.drp, x.str⟩) o3 hlt (j := 5) (by omega) (u := .int .i64 (x.drp + a.drp)) rfl
          have k40 : Keeps [gx] w5 _ := (k30.setCell (p := ⟨gx, k * 7 + 5, none⟩) (.inl (by simp)) (.int .i64 (x.drp + a.drp))).drew
          have b40 := (b30.far (p := ⟨gx, k * 7 + 5, none⟩) hbl (.int .i64 (x.drp + a.drp))).drew
          clear o3 k30 b30
          obtain ⟨y3, hy3⟩ : ∃ W, World.drew (World.setCell y2 ⟨gx, k * 7 + 5, none⟩ (.int .i64 (x.drp + a.drp))) = W := ⟨_, rfl⟩
          rw [hy3] at o4 k40 b40 ⊢
          clear hy3
          have d4 := cell_of o4 (k := k) (j := 6) (u := .int .i64 x.str) (by rw [List.length_set]; exact hlt) (by omega) (by rw [List.getElem_set, if_pos rfl]; rfl)
          have e4 := own_free o4 (k * 7 + 6)
          have x4 := b40.cell 6
          go_upto_region 11 with fail
          refine cq11_any _ bc k C.length cl gx x.str a.str _ hlt d4 e4 x4 (by rw [IntKind.wrap_i64]; omega) _ _ _ _ _ _ _ _ _ _ _ _ _ _ _ _ _ _ _ _ _ _ _ _ _ _ _ _ _ _ _ _ _ _ _ _ _ _ _ _ _ _ _ _ _ _ _ _ _ _ _ _ _ _ _ _ _ _ _ _ _ _ _ _ _ _ _ _ _ _ _ _ _ _ _ _ _ _ _ _ _ _ _ _ _ _ _ _ _ _ _ _ _ _ _ _ _ _ _ _ _ _ _ _ _ _ _ _ _ _ _ _ _ _ _ _ _ _ _ _ _ _ _ _ _ _ _ _ _ _ _ _ _ _ _ _ _ _ _ _ _ _ _ _ _ _ _ _ _ _ _ _ _ _ _ _ _ _ ?_
          intro v130 v131 v132 v133 v134 v135 v136 v137 v138 v139 v140 v141
          clear d4 e4 x4
          have o5 := set_of (y := ⟨x.l, x.i, x.runs + a.runs, x.com + a.com, x.con + a.con, x.drp + a.drp, x.str + a.str⟩) o4 hlt (j := 6) (by omega) (u := .int .i64 (x.str + a.str)) rfl
          have k50 : Keeps [gx] w5 _ := (k40.setCell (p := ⟨gx, k * 7 + 6, none⟩) (.inl (by simp)) (.int .i64 (x.str + a.str))).drew
          have b50 := (b40.far (p := ⟨gx, k * 7 + 6, none⟩) hbl (.int .i64 (x.str + a.str))).drew
          clear o4 k40 b40
          obtain ⟨y4, hy4⟩ : ∃ W, World.drew (World.setCell y3 ⟨gx, k * 7 + 6, none⟩ (.int .i64 (x.str + a.str))) = W := ⟨_, rfl⟩
          rw [hy4] at o5 k50 b50 ⊢
          clear hy4
          have KY : Hid (Keeps [] w y4) := Lib.hid (K5.out.trans k50 (fun g hg => .inr (FL.out g (by simpa using hg))))
          have OY : Hid (y4.ownsRow 0 84 7 (.slice (some ⟨gx, 0, none⟩) (C.set k (addC a.l a.i x a)).length cl) (C.set k (addC a.l a.i x a)).length (rw ccs (C.set k (addC a.l a.i x a)))) := Lib.hid (by
            rw [List.length_set]
            have e : addC a.l a.i x a = ⟨x.l, x.i, x.runs + a.runs, x.com + a.com, x.con + a.con, x.drp + a.drp, x.str + a.str⟩ := by unfold addC; rw [← hkey.1, ← hkey.2, hx]
            rw [e]; exact o5)
          have fq := HFR.out y4 KY.out
          have cq := HF2.out y4 KY.out
          have HKEY := Lib.hid hkey
          have hxe := Lib.hid hx
          clear o5 k50 b50 hkey m0 m1 m2 m3 m4 n0 n1 n2 n3 n4 hx
          go_wp2_with fail
          (try simp only [Exit.inBlock, Exit.then])
          refine bodyPost_ret (results_none rfl _ _ _) rfl ?_
          have e2 := HSET.out.1
          rw [hxe.out] at e2
          obtain ⟨G', hG', hs⟩ := (HQ.out y4 KY.out).putC (s' := cntS s a.l a.i a) OY.out (fun g hg => FL.out g (by simpa using hg)) hqw rfl rfl e2
          rw [List.length_set] at hG'
          exact ⟨rfl, G', _, _, cl, hG', by rw [List.length_set]; omega, (KY.out.mono (by simp)).setCell (.inl (by simp)) _, hs⟩

        · have HHI : Hid (∀ hk : k < C.length, ltC a C[k]) := Lib.hid (fun _ => ltC_tri HB.out hkey)
          obtain ⟨gx, hgx⟩ := hAl (by omega)
          have d0 := cell_of (by rw [hgx] at OL; exact OL.out) (k := k) (j := 0) (u := .int .i64 C[k].l) hlt (by omega) rfl
          have d1 := cell_of (by rw [hgx] at OL; exact OL.out) (k := k) (j := 1) (u := .int .i64 C[k].i) hlt (by omega) rfl
          subst hgx
          have i1 : (k : Int) < (C.length : Int) := by omega
          go_upto_region 6 with fail
          refine cq6_any w3 bc k C.length cl gx C[k] a _ hlt d0 d1 B3.out false (by simpa using hkey) _ _ _ _ _ _ _ _ _ _ _ _ _ _ _ _ _ _ _ _ _ _ _ _ _ _ _ _ _ _ _ _ _ _ _ _ _ _ _ _ _ _ _ _ _ _ _ _ _ _ _ _ _ _ _ _ _ _ _ _ _ _ _ _ _ _ _ _ _ _ _ _ _ _ _ _ _ _ _ _ _ _ _ _ _ _ _ _ _ _ _ _ _ _ _ _ _ _ _ _ _ _ _ _ _ _ _ _ _ _ _ _ _ _ _ _ _ _ _ _ _ _ _ _ _ _ _ _ _ _ _ _ _ _ _ _ _ _ _ _ _ _ _ _ _ _ _ _ _ _ _ _ _ _ _ _ _ _ ?_
          intro v64 v65 v66 v67 v68 v69 v70 v71 v72 v73 v74 v75 v76 v77 v78 v79 v80 nq6 b6 hb6
          subst hb6
          obtain ⟨w5, hw5⟩ : ∃ W, w3.drewN nq6 = W := ⟨_, rfl⟩
          have OL5 := Lib.hid (show w5.ownsRow 0 84 7 _ _ _ by rw [← hw5]; exact own_drewN OL.out nq6)
          have B5 := Lib.hid (show Blk w5 bc 84 _ by rw [← hw5]; exact B3.out.drewN nq6)
          have K5 : Hid (Keeps [] w w5) := Lib.hid (by rw [← hw5]; exact K3.out.drewN nq6)
          rw [hw5]
          clear hw5 OL B3 K3 d0 d1 hkey
          go_upto_region 13 with fail
          refine cq13_any w5 q bc a C.length k cl (C.length - k) (cl - k) (C.length + 1) (some ⟨gx, 0, none⟩) _ ((rw ccs C).take (k * 7)) ((rw ccs C).drop (k * 7)) _ (by omega) (by omega) (by omega) (by omega) (fun W kk => B5.out.keep kk (by simp)) (fun W kk => HFR.out W (K5.out.trans kk (by simp))) (run_take63 (some ⟨gx, 0, none⟩) C.length cl k (by omega) (by omega)) (run_drop63 (some ⟨gx, 0, none⟩) C.length cl k (by omega)) (fun W kk => (reads_own (own_keep OL5.out kk (by simp))).take (by omega)) (fun W kk => (reads_own (own_keep OL5.out kk (by simp))).cut (by omega) (by omega)) (fun u hu => rw_one ccs_one _ u (List.mem_of_mem_take hu)) (fun u hu => rw_one ccs_one _ u (List.mem_of_mem_drop hu)) (fun W kk => ⟨_, HF2.out W (K5.out.trans kk (by simp))⟩) _ _ _ _ _ _ _ _ _ _ _ _ _ _ _ _ _ _ _ _ _ _ _ _ _ _ _ _ _ _ _ _ _ _ _ _ _ _ _ _ _ _ _ _ _ _ _ _ _ _ _ _ _ _ _ _ _ _ _ _ _ _ _ _ _ _ _ _ _ _ _ _ _ _ _ _ _ _ _ _ _ _ _ _ _ _ _ _ _ _ _ _ _ _ _ _ _ _ _ _ _ _ _ _ _ _ _ _ _ _ _ _ _ _ _ _ _ _ _ _ _ _ _ _ _ _ _ _ _ _ _ _ _ _ _ _ _ _ _ _ _ _ _ _ _ _ _ _ _ _ _ _ _ _ _ _ _ ?_
          intro v146 v147 v148 v149 v150 v151 v152 v153 v154 v155 v156 v157 v158 v159 v160 v3 W4 ho hk4 hf4
          have KW4 : Hid (Keeps [] w W4) := Lib.hid (K5.out.trans hk4 (by simp))
          have hz4 := K5.out.size
          have hlen : (C.take k ++ a :: C.drop k).length = C.length + 1 := by rw [List.length_append, List.length_cons, List.length_take, List.length_drop]; omega
          have HO4 : Hid (W4.ownsRow 0 84 7 v3 (C.take k ++ a :: C.drop k).length (rw ccs (C.take k ++ a :: C.drop k))) := Lib.hid (by
            rw [hlen, rw_append, rw_cons, ← rw_take ccs_len7, ← rw_drop ccs_len7]
            have := ho
            rw [List.nil_append] at this
            rw [← List.append_assoc]
            exact this)
          have HF4 : Hid (∀ g ∈ fp v3, w.heap.size ≤ g) := Lib.hid (fun g hg => Nat.le_trans hz4 (hf4 g hg))
          obtain ⟨A4, c4, rfl, -, -, -⟩ := own_shape HO4.out
          clear ho hk4 hf4
          go_wp2_with fail
          go_end0
          obtain ⟨G', hG', hs⟩ := (HQ.out W4 KW4.out).putC (s' := cntS s a.l a.i a) HO4.out HF4.out hqw rfl rfl (HOK.out.ins (k := k) (by omega) HNO.out (fun hk => HHI.out hk))
          rw [hlen] at hG'
          exact ⟨rfl, G', _, ⟨A4, c4, hG'⟩, by rw [hlen]; omega, (KW4.out.mono (by simp)).setCell (.inl (by simp)) _, hs⟩

    · obtain rfl : k = C.length := by omega
      refine cq2_end wr q bc C.length c3 A3 _ f2 false rfl _ _ _ _ _ _ _ _ _ _ _ _ _ _ _ _ _ _ _ _ _ _ _ _ _ _ _ _ _ _ _ _ _ _ _ _ _ _ _ _ _ _ _ _ _ _ _ _ _ _ _ _ _ _ _ _ _ _ _ _ _ _ _ _ _ _ _ _ _ _ _ _ _ _ _ _ _ _ _ _ _ _ _ _ _ _ _ _ _ _ _ _ _ _ _ _ _ _ _ _ _ _ _ _ _ _ _ _ _ _ _ _ _ _ _ _ _ _ _ _ _ _ _ _ _ _ _ _ _ _ _ _ _ _ _ _ _ _ _ _ _ _ _ _ _ _ _ _ _ _ _ _ _ _ _ _ _ _ ?_
      intro v6 v7 v8 v9 v10 v11 v12 v13 v14 v15 v16 v17 v18 v19 v20 v21 v22 v23 v24 v25 v26 v27 v28 v29 v30 v31 v32 v33 v34 v35 v36 v37 v38 v39 v40 v41 v42 v43 v44 v45 v46 v47 v48 v49 v50 nq
      have HHI : Hid (∀ hk : C.length < C.length, ltC a C[C.length]) := Lib.hid (fun h => absurd h (by omega))
      obtain ⟨W2, hW2⟩ : ∃ W2, wr.drewN nq = W2 := ⟨_, rfl⟩
      rw [hW2]
      have K2 : Hid (Keeps [] w W2) := Lib.hid (by rw [← hW2]; exact KW.out.drewN nq)
      have B2 := Lib.hid (show Blk W2 bc 84 #[.int .i64 a.l, .int .i64 a.i, .int .i64 a.runs, .int .i64 a.com, .int .i64 a.con, .int .i64 a.drp, .int .i64 a.str] by rw [← hW2]; exact BW.out.drewN nq)
      have f22 := HF2.out W2 K2.out
      clear hW2 f2 KW KP BW
      have hz2 := K2.out.size
      have hq2 : q < W2.heap.size := by omega
      have KA : Hid (Keeps [] W2 (W2.alloc (.cells #[] 84))) := Lib.hid ((Keeps.refl [] W2).alloc _)
      have HE : Hid ((W2.alloc (.cells #[] 84)).ownsRow 0 84 7 (.slice (some ⟨W2.heap.size, 0, none⟩) 0 0) 0 []) := Lib.hid (own_of_blk (Blk.new W2 84 #[]) (by omega) (by omega) rfl rfl)
      go_wp2_with (at_builtin; refine wpList_app _ rfl (.tmp 54) (.tmp 58) _ rfl 84 (.agg #[.int .i64 0, .int .i64 0, .int .i64 0, .int .i64 0, .int .i64 0, .int .i64 0, .int .i64 0]) 7 56 Tryz.underlying63 HI.out rfl (by omega) (.slice (some ⟨W2.heap.size, 0, none⟩) 0 0) 0 [] rfl HE.out _ A3 _ _ (rw ccs C) rfl (reads_own (HO3.out _ (K2.out.trans KA.out (by simp)))) (rw_one ccs_one _) (by unfold maxLen; omega) (by omega) ?_)
      intro vl w3 ol kl fl
      have OL : Hid (w3.ownsRow 0 84 7 vl C.length (rw ccs C)) := Lib.hid ol
      have K3 : Hid (Keeps [] w w3) := Lib.hid ((K2.out.trans KA.out (by simp)).trans kl (fun g hg => .inr (by simp at hg; omega)))
      have hb2 := B2.out.lt
      have B3 := Lib.hid ((B2.out.keep KA.out (by simp)).keep kl (by simp; omega))
      have FL : Hid (∀ g ∈ fp vl, w.heap.size ≤ g) := Lib.hid (fun g hg => (fl g hg).elim (fun h => by omega) (fun h => by omega))
      have BN : Hid (bc ∉ fp vl) := Lib.hid (fun h => (fl bc h).elim (fun h => by omega) (fun h => by omega))
      obtain ⟨Al, cl, rfl, hcl, -, hAl⟩ := own_shape OL.out
      clear ol kl fl KA HE B2 f22
      go_upto_region 13 with fail
      refine cq13_any w3 q bc a C.length C.length cl (C.length - C.length) (cl - C.length) (C.length + 1) Al _ ((rw ccs C).take (C.length * 7)) ((rw ccs C).drop (C.length * 7)) _ (by omega) (by omega) (by omega) (by omega) (fun W kk => B3.out.keep kk (by simp)) (fun W kk => HFR.out W (K3.out.trans kk (by simp))) (run_take63 Al C.length cl C.length (by omega) (by omega)) (run_drop63 Al C.length cl C.length (by omega)) (fun W kk => (reads_own (own_keep OL.out kk (by simp))).take (by omega)) (fun W kk => (reads_own (own_keep OL.out kk (by simp))).cut (by omega) (by omega)) (fun u hu => rw_one ccs_one _ u (List.mem_of_mem_take hu)) (fun u hu => rw_one ccs_one _ u (List.mem_of_mem_drop hu)) (fun W kk => ⟨_, HF2.out W (K3.out.trans kk (by simp))⟩) _ _ _ _ _ _ _ _ _ _ _ _ _ _ _ _ _ _ _ _ _ _ _ _ _ _ _ _ _ _ _ _ _ _ _ _ _ _ _ _ _ _ _ _ _ _ _ _ _ _ _ _ _ _ _ _ _ _ _ _ _ _ _ _ _ _ _ _ _ _ _ _ _ _ _ _ _ _ _ _ _ _ _ _ _ _ _ _ _ _ _ _ _ _ _ _ _ _ _ _ _ _ _ _ _ _ _ _ _ _ _ _ _ _ _ _ _ _ _ _ _ _ _ _ _ _ _ _ _ _ _ _ _ _ _ _ _ _ _ _ _ _ _ _ _ _ _ _ _ _ _ _ _ _ _ _ _ ?_
      intro v146 v147 v148 v149 v150 v151 v152 v153 v154 v155 v156 v157 v158 v159 v160 v3 W4 ho hk4 hf4
      have KW4 : Hid (Keeps [] w W4) := Lib.hid (K3.out.trans hk4 (by simp))
      have hz4 := K3.out.size
      have hlen : (C.take C.length ++ a :: C.drop C.length).length = C.length + 1 := by rw [List.length_append, List.length_cons, List.length_take, List.length_drop]; omega
      have HO4 : Hid (W4.ownsRow 0 84 7 v3 (C.take C.length ++ a :: C.drop C.length).length (rw ccs (C.take C.length ++ a :: C.drop C.length))) := Lib.hid (by
        rw [hlen, rw_append, rw_cons, ← rw_take ccs_len7, ← rw_drop ccs_len7]
        have := ho
        rw [List.nil_append] at this
        rw [← List.append_assoc]
        exact this)
      have HF4 : Hid (∀ g ∈ fp v3, w.heap.size ≤ g) := Lib.hid (fun g hg => Nat.le_trans hz4 (hf4 g hg))
      obtain ⟨A4, c4, rfl, -, -, -⟩ := own_shape HO4.out
      clear ho hk4 hf4
      go_wp2_with fail
      go_end0
      obtain ⟨G', hG', hs⟩ := (HQ.out W4 KW4.out).putC (s' := cntS s a.l a.i a) HO4.out HF4.out hqw rfl rfl (HOK.out.ins (k := C.length) (by omega) HNO.out (fun hk => HHI.out hk))
      rw [hlen] at hG'
      exact ⟨rfl, G', _, ⟨A4, c4, hG'⟩, by rw [hlen]; omega, (KW4.out.mono (by simp)).setCell (.inl (by simp)) _, hs⟩
end Go.Proofs.YtcopjjokhjealaaGreat
