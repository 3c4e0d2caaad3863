/- Texts of elder seats, turned to this one. -/
import Derived.Test.YteognipfnbocpaaGreatW13
namespace Go.Proofs.YteognipfnbocpaaGreat
open Go.RowKit
open T12 (E TbRep ent mapM mapN wlkM wlkB wlkN unmM clrM lookX ents upd)
open T13 (Tl En TlRep es)

def KI (k : Tl) : Prop := k.n = 8 ∧ k.L.length ≤ 8
theorem KI.drop {k : Tl} (h : KI k) (d : En → Bool) : KI (k.drop d) := ⟨h.1, Nat.le_trans (drop_len k d) h.2⟩
theorem KI.fill {k : Tl} (h : KI k) (e : En) : KI (k.fill e) := by
  have h1 := h.1
  have e1 : k.fill e = ⟨k.n, e :: (k.L.filter (fun x => !x.is e.s e.p)).take (k.n - 1)⟩ := by
    unfold Tl.fill
    simp only []
    rw [if_neg (by omega)]
  rw [e1]
  refine ⟨h1, ?_⟩
  simp only [List.length_cons, List.length_take]
  omega
theorem look_n (k : Tl) (a b : Int) (wr : Bool) : (k.look a b wr).n = k.n := by unfold Tl.look; split <;> rfl
theorem hit_lt {k : Tl} {a b : Int} {wr : Bool} {i : Nat} (h : k.hit a b wr = some i) : ∃ hi : i < k.L.length, (k.L[i]).is a b = true ∧ (wr && !(k.L[i]).w) = false := by
  unfold Tl.hit at h
  split at h
  · cases h
  · rename_i j hj
    obtain ⟨hl, h1, _⟩ := List.findIdx?_eq_some_iff_getElem.1 hj
    split at h
    · cases h
    · rename_i hw
      injection h with h
      subst h
      refine ⟨hl, h1, ?_⟩
      have e : k.L.getD j T13.en0 = k.L[j] := by simp [List.getD_eq_getElem?_getD, List.getElem?_eq_getElem hl]
      rw [e] at hw
      simpa using hw
theorem look_mem {k : Tl} {a b : Int} {wr : Bool} : ∀ e ∈ (k.look a b wr).L, e ∈ k.L := by
  unfold Tl.look
  cases h : k.hit a b wr with
  | none => intro e he; exact he
  | some i =>
    obtain ⟨hi, _⟩ := hit_lt h
    intro e he
    rcases List.mem_cons.1 he with rfl | he
    · have e : k.L.getD i T13.en0 = k.L[i] := by simp [List.getD_eq_getElem?_getD, List.getElem?_eq_getElem hi]
      rw [e]
      exact List.getElem_mem hi
    · exact (List.eraseIdx_sublist _ _).subset he
theorem look_len (k : Tl) (a b : Int) (wr : Bool) : (k.look a b wr).L.length = k.L.length := by
  unfold Tl.look
  cases h : k.hit a b wr with
  | none => rfl
  | some i =>
    obtain ⟨hi, _⟩ := hit_lt h
    simp only [List.length_cons, List.length_eraseIdx_of_lt hi]
    omega
theorem KI.look {k : Tl} (h : KI k) (a b : Int) (wr : Bool) : KI (k.look a b wr) := ⟨by rw [look_n]; exact h.1, by rw [look_len]; exact h.2⟩
/-- Sizes, counts, keys: N operations have been done at most. -/
structure MI (N : Nat) (ks : List Int) (s : Mm) : Prop where
  c : s.C.length ≤ 8
  k : ∀ k ∈ s.C, KI k
  n0 : 0 ≤ s.n
  n1 : s.n ≤ 64 * (N : Int)
  kk : s.k ≤ N
  nd : ks.Nodup
  ki : ∀ x, (s.t x).isSome → x ∈ ks
  kl : ks.length ≤ N
theorem MI.ok {N : Nat} {ks : List Int} {s : Mm} (h : MI N ks s) (hN : N ≤ 1000) : Ok s :=
  ⟨by have := h.c; omega, fun k hk => by have := (h.k k hk).1; omega, h.n0, by have := h.n1; omega, by have := h.kk; omega⟩
theorem MI.more {N : Nat} {ks : List Int} {s : Mm} (h : MI N ks s) : MI (N + 1) ks s :=
  ⟨h.c, h.k, h.n0, by have := h.n1; omega, by have := h.kk; omega, h.nd, h.ki, by have := h.kl; omega⟩
theorem gone_bd8 {d : En → Bool} {l : List Tl} (h : ∀ k ∈ l, KI k) : 0 ≤ gone d l ∧ gone d l ≤ 8 * l.length := by
  induction l with
  | nil => simp [gone]
  | cons a r ih =>
    have h1 := ih (fun k hk => h k (by simp [hk]))
    have h2 := (h a (by simp)).2
    have h3 := drop_len a d
    simp only [gone, List.length_cons]
    omega
theorem MI.shoot {N : Nat} {ks : List Int} {s : Mm} (h : MI N ks s) (d : En → Bool) : MI (N + 1) ks (s.shoot d) := by
  have hg := gone_bd8 (d := d) h.k
  have := h.c
  have := h.n0
  have := h.n1
  refine ⟨by show (s.C.map _).length ≤ 8; rw [List.length_map]; exact h.c, fun k hk => ?_, by simp only [Mm.shoot]; omega, by simp only [Mm.shoot]; omega, by have := h.kk; simp only [Mm.shoot]; omega, h.nd, h.ki, by have := h.kl; omega⟩
  obtain ⟨k', hk', rfl⟩ := List.mem_map.1 hk
  exact (h.k k' hk').drop d
theorem setTab_isSome (s : Mm) (x : Int) (m : Pg) (y : Int) : ((s.setTab x m).t y).isSome = (s.t y).isSome := by
  cases h : s.t x with
  | none => rw [setTab_none h]
  | some m0 =>
    rw [setTab_some h]
    show (updT s.t x (some m) y).isSome = _
    unfold updT
    split
    · rename_i e; rw [e, h]; rfl
    · rfl
theorem MI.setTab {N : Nat} {ks : List Int} {s : Mm} (h : MI N ks s) (x : Int) (m : Pg) : MI N ks (s.setTab x m) :=
  ⟨by rw [setTab_C]; exact h.c, by rw [setTab_C]; exact h.k, by rw [setTab_n]; exact h.n0, by rw [setTab_n]; exact h.n1, by rw [setTab_k]; exact h.kk, h.nd, fun y hy => h.ki y (by rw [setTab_isSome] at hy; exact hy), h.kl⟩
theorem MI.cache {N : Nat} {ks : List Int} {s : Mm} (h : MI N ks s) {i : Nat} {k : Tl} (hk : KI k) : MI N ks { s with C := s.C.set i k } := by
  refine ⟨by show (s.C.set i k).length ≤ 8; rw [List.length_set]; exact h.c, fun k' hk' => ?_, h.n0, h.n1, h.kk, h.nd, h.ki, h.kl⟩
  rcases List.mem_or_eq_of_mem_set hk' with h1 | rfl
  · exact h.k k' h1
  · exact hk
theorem MI.acc {N : Nat} {ks : List Int} {s : Mm} (h : MI N ks s) (cpu x pg : Int) (wr : Bool) : MI N ks (s.acc cpu x pg wr).s := by
  unfold Mm.acc
  split
  · exact h
  · split
    · exact h
    · rename_i k hk
      have hki := h.k k (List.mem_of_getElem? hk)
      have h1 := (h.cache (i := cpu.toNat) (hki.look x pg wr)).setTab x (wlkM (s.tab x) pg wr)
      unfold accK
      split
      · exact h1
      · split
        · exact h1.cache (KI.fill (hki.look x pg wr) _)
        · exact h1
/-- The keys with one more. -/
def addK (ks : List Int) (x : Int) : List Int := if x ∈ ks then ks else x :: ks
theorem addK_nd {ks : List Int} (h : ks.Nodup) (x : Int) : (addK ks x).Nodup := by
  unfold addK
  split
  · exact h
  · rename_i hx; exact List.nodup_cons.2 ⟨hx, h⟩
theorem addK_mem {ks : List Int} {x y : Int} (h : y ∈ ks ∨ y = x) : y ∈ addK ks x := by
  unfold addK
  split
  · rename_i hx
    rcases h with h | rfl
    · exact h
    · exact hx
  · rcases h with h | rfl
    · exact List.mem_cons_of_mem _ h
    · simp
theorem addK_len (ks : List Int) (x : Int) : (addK ks x).length ≤ ks.length + 1 := by unfold addK; split <;> simp
theorem MI.key {N : Nat} {ks : List Int} {s : Mm} (h : MI N ks s) (x : Int) : MI (N + 1) (addK ks x) s :=
  ⟨h.c, h.k, h.n0, by have := h.n1; omega, by have := h.kk; omega, addK_nd h.nd x, fun y hy => addK_mem (.inl (h.ki y hy)), by have := addK_len ks x; have := h.kl; omega⟩
theorem MI.put {N : Nat} {ks : List Int} {s : Mm} (h : MI N ks s) (x : Int) (m : Pg) : MI (N + 1) (addK ks x) (s.putTab x m) := by
  refine ⟨h.c, h.k, h.n0, by have := h.n1; simp only [Mm.putTab]; omega, by have := h.kk; simp only [Mm.putTab]; omega, addK_nd h.nd x, fun y hy => ?_, by have := addK_len ks x; have := h.kl; omega⟩
  have hy' : (updT s.t x (some m) y).isSome = true := hy
  unfold updT at hy'
  split at hy'
  · rename_i e; exact addK_mem (.inr e)
  · exact addK_mem (.inl (h.ki y hy'))
theorem MI.map {N : Nat} {ks : List Int} {s : Mm} (h : MI N ks s) (x pg fr : Int) (wr : Bool) : MI (N + 2) (addK ks x) (s.map x pg fr wr) := by
  unfold Mm.map
  split
  · exact (h.put x _).shoot _
  · exact (h.key x).more
theorem MI.unmap {N : Nat} {ks : List Int} {s : Mm} (h : MI N ks s) (x pg : Int) : MI (N + 1) ks (s.unmap x pg) := (h.setTab x _).shoot _
theorem MI.lose {N : Nat} {ks : List Int} {s : Mm} (h : MI N ks s) (fr : Int) : MI (N + 1) ks (s.lose fr) := by
  have h1 : MI N ks { s with t := fun x => (s.t x).map (loseT fr) } := ⟨h.c, h.k, h.n0, h.n1, h.kk, h.nd, fun x hx => h.ki x (by simpa using hx), h.kl⟩
  exact h1.shoot _
theorem MI.end_ {N : Nat} {ks : List Int} {s : Mm} (h : MI N ks s) (x : Int) : MI (N + 1) ks (s.end_ x) := by
  have h1 : MI N ks { s with t := updT s.t x none } := ⟨h.c, h.k, h.n0, h.n1, h.kk, h.nd, fun y hy => h.ki y (by
    have hy' : (updT s.t x none y).isSome = true := hy
    unfold updT at hy'
    split at hy'
    · cases hy'
    · exact hy'), h.kl⟩
  exact h1.shoot _
theorem MI.used {N : Nat} {ks : List Int} {s : Mm} (h : MI N ks s) (x : Int) : MI N ks (s.used x) := h.setTab x _
theorem MI.op {N : Nat} {ks : List Int} {s : Mm} (h : MI N ks s) (o : Op) : MI (N + 2) (addK ks o.x) (s.op o) := by
  unfold Mm.op
  split
  · exact (h.acc ..).more.key _
  · split
    · exact h.map ..
    · split
      · exact (h.unmap ..).key _
      · split
        · exact (h.lose ..).key _
        · split
          · exact (h.end_ ..).key _
          · exact (h.used ..).more.key _
theorem MI.zero {n : Nat} (hn : n ≤ 8) : MI 0 [] (mm0 n) := by
  refine ⟨by simpa [mm0] using hn, fun k hk => ?_, by simp [mm0], by simp [mm0], by simp [mm0], List.nodup_nil, (fun x hx => by cases hx), by simp⟩
  have : k = tl0 := by simp only [mm0, List.mem_replicate] at hk; exact hk.2
  subst this
  exact ⟨rfl, by simp [tl0]⟩
theorem op_len (s : Mm) (o : Op) : (s.op o).C.length = s.C.length := by
  have hs : ∀ (s : Mm) d, (s.shoot d).C.length = s.C.length := fun s d => by simp [Mm.shoot]
  unfold Mm.op
  split
  · unfold Mm.acc
    split
    · rfl
    · split
      · rfl
      · unfold accK
        split
        · simp only [setTab_C, List.length_set]
        · split
          · simp only [setTab_C, List.length_set]
          · simp only [setTab_C, List.length_set]
  · split
    · unfold Mm.map
      split
      · rw [hs]; rfl
      · rfl
    · split
      · unfold Mm.unmap; rw [hs, setTab_C]
      · split
        · unfold Mm.lose; rw [hs]
        · split
          · unfold Mm.end_; rw [hs]
          · unfold Mm.used; rw [setTab_C]
end Go.Proofs.YteognipfnbocpaaGreat
