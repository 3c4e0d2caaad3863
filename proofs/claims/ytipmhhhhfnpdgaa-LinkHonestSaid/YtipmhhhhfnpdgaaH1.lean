/- LinkHonest: the plain law, and the world between the rounds. -/
import Derived.Test.YtipmhhhhfnpdgaaW10
namespace Go.Proofs.Ytipmhhhhfnpdgaa
open Go.RowKit

theorem opk_cases (d : Int) : opk d = 0 ∨ opk d = 1 ∨ opk d = 2 ∨ opk d = 3 ∨ opk d = 4 ∨ opk d = 5 ∨ opk d = 6 ∨ opk d = 7 := by
  unfold opk
  have h : bits .and .i64 d 7 = ((BitVec.ofInt 64 d &&& 7#64).toNat : Int) := by
    show IntKind.i64.wrap ((BitVec.ofInt 64 d &&& BitVec.ofInt 64 7).toNat : Int) = _
    have e : BitVec.ofInt 64 7 = 7#64 := rfl
    have hx : (BitVec.ofInt 64 d &&& 7#64).toNat ≤ 7 := by rw [BitVec.toNat_and]; exact Nat.and_le_right
    rw [e, IntKind.wrap_i64]
    omega
  have hx : (BitVec.ofInt 64 d &&& 7#64).toNat ≤ 7 := by rw [BitVec.toNat_and]; exact Nat.and_le_right
  omega

/-- What is true between the operations: what is in flight or was delivered was sent, and is addressed to an end. -/
structure Hon (L : List Pk) (cut : Bool) (S G : List Pk) (k : Nat) : Prop where
  e : cut = true → L = []
  c : ∀ p, cntP (G ++ L) p ≤ cntP S p
  t : ∀ x ∈ G ++ L, x.1 = 0 ∨ x.1 = 1
  s : S.length ≤ k
  g : G.length ≤ k
theorem cntP_app (A B : List Pk) (p : Pk) : cntP (A ++ B) p = cntP A p + cntP B p := List.countP_append
theorem cntP_erase {L : List Pk} {j : Nat} (h : j < L.length) (p : Pk) : cntP [L[j]] p + cntP (L.eraseIdx j) p = cntP L p := by
  have e : L = L.take j ++ L[j] :: L.drop (j + 1) := by rw [← List.drop_eq_getElem_cons h, List.take_append_drop]
  have e2 : cntP L p = cntP (L.take j) p + cntP (L[j] :: L.drop (j + 1)) p := by rw [← cntP_app, ← e]
  have e3 : cntP (L[j] :: L.drop (j + 1)) p = cntP [L[j]] p + cntP (L.drop (j + 1)) p := cntP_app [L[j]] (L.drop (j + 1)) p
  rw [e2, e3, List.eraseIdx_eq_take_drop_succ, cntP_app]
  omega
section
variable {L S G : List Pk} {cut : Bool} {k : Nat}
theorem Hon.same (H : Hon L cut S G k) : Hon L cut S G (k + 1) := ⟨H.e, H.c, H.t, Nat.le_succ_of_le H.s, Nat.le_succ_of_le H.g⟩
theorem Hon.gone (H : Hon L cut S G k) (c' : Bool) : Hon [] c' S G (k + 1) :=
  ⟨fun _ => rfl, fun p => (by have h1 := H.c p; rw [cntP_app] at h1 ⊢; have e : cntP [] p = 0 := rfl; omega), fun x hx => H.t x (by simp at hx; exact List.mem_append.2 (.inl hx)), Nat.le_succ_of_le H.s, Nat.le_succ_of_le H.g⟩
theorem Hon.joined (H : Hon L cut S G k) : Hon L false S G (k + 1) := ⟨fun h => (nomatch h), H.c, H.t, Nat.le_succ_of_le H.s, Nat.le_succ_of_le H.g⟩
theorem Hon.drop (H : Hon L false S G k) {j : Nat} (h : j < L.length) : Hon (L.eraseIdx j) false S G (k + 1) :=
  ⟨fun h => (nomatch h), fun p => (by have h1 := H.c p; have h2 := cntP_erase h p; rw [cntP_app] at h1 ⊢; omega),
    fun x hx => H.t x ((List.mem_append.1 hx).elim (fun h1 => List.mem_append.2 (.inl h1)) (fun h1 => List.mem_append.2 (.inr (List.mem_of_mem_eraseIdx h1)))), Nat.le_succ_of_le H.s, Nat.le_succ_of_le H.g⟩
theorem Hon.deliver (H : Hon L false S G k) {j : Nat} (h : j < L.length) : Hon (L.eraseIdx j) false S (G ++ [L[j]]) (k + 1) :=
  ⟨fun h => (nomatch h), fun p => (by have h1 := H.c p; have h2 := cntP_erase h p; simp only [cntP_app] at h1 ⊢; omega),
    fun x hx => H.t x (by
      rcases List.mem_append.1 hx with h1 | h1
      · rcases List.mem_append.1 h1 with h2 | h2
        · exact List.mem_append.2 (.inl h2)
        · rw [List.mem_singleton.1 h2]; exact List.mem_append.2 (.inr (List.getElem_mem h))
      · exact List.mem_append.2 (.inr (List.mem_of_mem_eraseIdx h1))), Nat.le_succ_of_le H.s, by have := H.g; rw [List.length_append, List.length_singleton]; omega⟩
theorem Hon.more (H : Hon L false S G k) (x : Pk) (hx : x.1 = 0 ∨ x.1 = 1) : Hon (L ++ [x]) false (S ++ [x]) G (k + 1) :=
  ⟨fun h => (nomatch h), fun p => (by have h1 := H.c p; simp only [cntP_app] at h1 ⊢; omega),
    fun y hy => (by
      rw [← List.append_assoc] at hy
      rcases List.mem_append.1 hy with h1 | h1
      · exact H.t y h1
      · rw [List.mem_singleton.1 h1]; exact hx), by have := H.s; rw [List.length_append, List.length_singleton]; omega, Nat.le_succ_of_le H.g⟩
theorem Hon.doubled (H : Hon L false S G k) {j : Nat} (h : j < L.length) : Hon (L ++ [L[j]]) false (S ++ [L[j]]) G (k + 1) :=
  H.more _ (H.t _ (List.mem_append.2 (.inr (List.getElem_mem h))))
theorem Hon.cut0 (H : Hon L true S G k) : L = [] := H.e rfl
end

structure HW (w wr : World) (F : List Nat) (p : Nat) (L : List Pk) (cut : Bool) (S G : List Pk) (vS vG : Value) : Prop where
  r : LkRep 53 wr F p ⟨L, cut⟩
  oS : wr.ownsRow 0 31 2 vS S.length (pc S)
  oG : wr.ownsRow 0 31 2 vG G.length (pc G)
  d1 : ∀ g ∈ F, g ∉ fp vS
  d2 : ∀ g ∈ F, g ∉ fp vG
  d3 : ∀ g ∈ fp vS, g ∉ fp vG
  kp : Keeps [] w wr
  fF : ∀ g ∈ F, w.heap.size ≤ g
  fS : ∀ g ∈ fp vS, w.heap.size ≤ g
  fG : ∀ g ∈ fp vG, w.heap.size ≤ g
section
variable {w wr w1 : World} {F : List Nat} {p : Nat} {L S G L' M : List Pk} {cut cut' : Bool} {vS vG v' : Value}
theorem HW.keep (I : HW w wr F p L cut S G vS vG) (hk : Keeps [] wr w1) : HW w w1 F p L cut S G vS vG :=
  ⟨I.r.keep hk (by simp), own_keep I.oS hk (by simp), own_keep I.oG hk (by simp), I.d1, I.d2, I.d3, I.kp.trans hk (by simp), I.fF, I.fS, I.fG⟩
theorem HW.link (I : HW w wr F p L cut S G vS vG) (h : Next 53 wr w1 F p ⟨L', cut'⟩) : ∃ F', HW w w1 F' p L' cut' S G vS vG ∧ Keeps F wr w1 := by
  obtain ⟨F', h1, hk, hf⟩ := h
  exact ⟨F', ⟨h1, own_keep I.oS hk (fun g hg hx => I.d1 g hx hg), own_keep I.oG hk (fun g hg hx => I.d2 g hx hg),
    fun g hg hx => (hf g hg).elim (fun h => I.d1 g h hx) (fun h => by have := own_lt I.oS hx; omega), fun g hg hx => (hf g hg).elim (fun h => I.d2 g h hx) (fun h => by have := own_lt I.oG hx; omega), I.d3,
    I.kp.trans hk (fun g hg => .inr (I.fF g hg)), fun g hg => (hf g hg).elim (I.fF g) (fun h => Nat.le_trans I.kp.size h), I.fS, I.fG⟩, hk⟩
theorem HW.addS (I : HW w wr F p L cut S G vS vG) (ho : w1.ownsRow 0 31 2 v' M.length (pc M)) (hk : Keeps (fp vS) wr w1) (hf : ∀ g ∈ fp v', g ∈ fp vS ∨ wr.heap.size ≤ g) : HW w w1 F p L cut M G v' vG :=
  ⟨I.r.keep hk I.d1, ho, own_keep I.oG hk (fun g hg hx => I.d3 g hx hg), fun g hg hx => (hf g hx).elim (fun h => I.d1 g hg h) (fun h => by have := I.r.lt g hg; omega), I.d2,
    fun g hg hx => (hf g hg).elim (fun h => I.d3 g h hx) (fun h => by have := own_lt I.oG hx; omega),
    I.kp.trans hk (fun g hg => .inr (I.fS g hg)), I.fF, fun g hg => (hf g hg).elim (I.fS g) (fun h => Nat.le_trans I.kp.size h), I.fG⟩
theorem HW.addG (I : HW w wr F p L cut S G vS vG) (ho : w1.ownsRow 0 31 2 v' M.length (pc M)) (hk : Keeps (fp vG) wr w1) (hf : ∀ g ∈ fp v', g ∈ fp vG ∨ wr.heap.size ≤ g) : HW w w1 F p L cut S M vS v' :=
  ⟨I.r.keep hk I.d2, own_keep I.oS hk (fun g hg hx => I.d3 g hg hx), ho, I.d1, fun g hg hx => (hf g hx).elim (fun h => I.d2 g hg h) (fun h => by have := I.r.lt g hg; omega),
    fun g hg hx => (hf g hx).elim (fun h => I.d3 g hg h) (fun h => by have := own_lt I.oS hg; omega),
    I.kp.trans hk (fun g hg => .inr (I.fG g hg)), I.fF, I.fS, fun g hg => (hf g hg).elim (I.fG g) (fun h => Nat.le_trans I.kp.size h)⟩
end
end Go.Proofs.Ytipmhhhhfnpdgaa
