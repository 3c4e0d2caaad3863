/- Texts of the elder seat, turned to this one: W45. -/
import Derived.Test.YtbllmpcpfmlemaaGreatMV
namespace Go.Proofs.YtbllmpcpfmlemaaGreat
open Go.RowKit

/-- Two cells behind the blocks of a, apart; the blocks T are apart from both. -/
def Duo (a W : World) (c d : Nat) (C D : St) (T : List Nat) : Prop :=
  ∃ F G F2 G2, Cs W c F G C ∧ Cs W d F2 G2 D ∧ (∀ g ∈ F, a.heap.size ≤ g) ∧ (∀ g ∈ F2, a.heap.size ≤ g) ∧ (∀ g ∈ F, g ∉ F2 ∧ g ∉ G2) ∧ (∀ g ∈ F2, g ∉ F ∧ g ∉ G) ∧ Keeps [] a W ∧ ∀ g ∈ T, g < W.heap.size ∧ g ∉ F ∧ g ∉ F2
section
variable {a W W' : World} {c d : Nat} {C D : St} {T : List Nat} {P : List Str}
theorem Duo.k (h : Duo a W c d C D T) : Keeps [] a W := by obtain ⟨_, _, _, _, _, _, _, _, _, _, h, _⟩ := h; exact h
theorem Duo.symm (h : Duo a W c d C D T) : Duo a W d c D C T := by
  obtain ⟨F, G, F2, G2, h1, h2, h3, h4, h5, h6, h7, h8⟩ := h
  exact ⟨F2, G2, F, G, h2, h1, h4, h3, h6, h5, h7, fun g hg => ⟨(h8 g hg).1, (h8 g hg).2.2, (h8 g hg).2.1⟩⟩
theorem Duo.left (h : Duo a W c d C D T) : Own0 a W c C := by
  obtain ⟨F, G, F2, G2, h1, h2, h3, h4, h5, h6, h7, h8⟩ := h
  exact ⟨F, G, h1, h3, h7⟩
theorem Duo.right (h : Duo a W c d C D T) : Own0 a W d D := h.symm.left
theorem Duo.keep0 (h : Duo a W c d C D T) (hk : Keeps [] W W') : Duo a W' c d C D T := by
  obtain ⟨F, G, F2, G2, h1, h2, h3, h4, h5, h6, h7, h8⟩ := h
  have := hk.size
  exact ⟨F, G, F2, G2, h1.keep0 hk, h2.keep0 hk, h3, h4, h5, h6, h7.trans hk (by simp), fun g hg => ⟨by have := (h8 g hg).1; omega, (h8 g hg).2⟩⟩
theorem Duo.addRow (h : Duo a W c d C D T) {e size n : Nat} {v : Value} {xs : List Value} (ho : W.ownsRow 0 e size v n xs) (e1 : e ≠ 65) (e2 : e ≠ 77) (e3 : e ≠ 34) : Duo a W c d C D (fp v ++ T) := by
  obtain ⟨F, G, F2, G2, h1, h2, h3, h4, h5, h6, h7, h8⟩ := h
  obtain ⟨K, j1, j2, j3⟩ := h1.slim
  obtain ⟨K2, l1, l2, l3⟩ := h2.slim
  refine ⟨K, G, K2, G2, j2, l2, fun g hg => h3 g (j1 g hg), fun g hg => h4 g (l1 g hg), fun g hg => ⟨fun e => (h5 g (j1 g hg)).1 (l1 g e), (h5 g (j1 g hg)).2⟩, fun g hg => ⟨fun e => (h6 g (l1 g hg)).1 (j1 g e), (h6 g (l1 g hg)).2⟩, h7, fun g hg => ?_⟩
  rcases List.mem_append.1 hg with hg | hg
  · exact ⟨own_lt ho hg, j3 _ _ _ _ _ ho e1 e2 e3 g hg, l3 _ _ _ _ _ ho e1 e2 e3 g hg⟩
  · exact ⟨(h8 g hg).1, fun e => (h8 g hg).2.1 (j1 g e), fun e => (h8 g hg).2.2 (l1 g e)⟩
theorem Duo.calls (h : Duo a W c d C D T) {E : St} {f : Nat} {args : Array Value} {R : Ending → World → Prop} (hc : ∀ F G, Cs W c F G C → Calls Tryz.prog f args W fun e w' => R e w' ∧ Turned W w' c F G E) :
    Calls Tryz.prog f args W fun e w' => R e w' ∧ Duo a w' c d E D T ∧ Kept T W w' := by
  obtain ⟨F, G, F2, G2, h1, h2, h3, h4, h5, h6, h7, h8⟩ := h
  refine (hc F G h1).mono ?_
  rintro e w' ⟨hr, F', G', k1, k2, k3, k4⟩
  have hs := k4.size
  refine ⟨hr, ⟨F', G', F2, G2, k1, h2.keep k4 (fun g hg => (h5 g hg).1) (fun g hg => (h5 g hg).2), fun g hg => ?_, h4, fun g hg => ?_, fun g hg => ?_, h7.trans k4 (fun g hg => .inr (h3 g hg)), fun g hg => ?_⟩, F, k4, fun g hg => (h8 g hg).2.1⟩
  · rcases k2.2 g hg with h | h
    · exact h3 g h
    · exact Nat.le_trans h7.size h
  · rcases k2.2 g hg with h | h
    · exact h5 g h
    · exact ⟨fun h' => by have := h2.ltF g h'; omega, fun h' => by have := h2.ltG g h'; omega⟩
  · constructor
    · intro h'
      rcases k2.2 g h' with h | h
      · exact (h6 g hg).1 h
      · have := h2.ltF g hg; omega
    · intro h'
      rcases k3.2 g h' with h | h
      · exact (h6 g hg).2 h
      · have := h2.ltF g hg; omega
  · obtain ⟨q1, q2, q3⟩ := h8 g hg
    refine ⟨by omega, fun e => ?_, q3⟩
    rcases k2.2 g e with h | h
    · exact q2 h
    · omega
/-- A copy beside what it is a copy of. -/
theorem Sta.copy {S : List Nat} (h : Sta a W c C S T) (hW : WF P C) (hP : PoolOk P) (hl : C.length ≤ 1000000) :
    Calls Tryz.prog 33 #[.pointer (some ⟨c, 0, none⟩)] W fun e w' => ∃ c2, e = .returned (.pointer (some ⟨c2, 0, none⟩)) ∧ Duo a w' c c2 C C (S ++ T) ∧ Keeps [] W w' := by
  obtain ⟨F, G, h1, h2, h3, h4, h5⟩ := h
  refine (copy_any h1 hW hP hl).mono ?_
  rintro e w' ⟨c2, F2, rfl, k1, k2, k3⟩
  have := k3.size
  refine ⟨c2, rfl, ⟨F, G, F2, G, h1.keep0 k3, k1, h2, fun g hg => Nat.le_trans h3.size (k2 g hg), fun g hg => ⟨fun h' => ?_, fun h' => h1.off g h' hg⟩, fun g hg => ⟨fun h' => ?_, fun h' => ?_⟩, h3.trans k3 (by simp), fun g hg => ?_⟩, k3⟩
  · have := h1.ltF g hg; have := k2 g h'; omega
  · have := h1.ltF g h'; have := k2 g hg; omega
  · have := h1.ltG g h'; have := k2 g hg; omega
  · rcases List.mem_append.1 hg with hg | hg
    · exact ⟨by have := (h4 g hg).2.1; omega, (h4 g hg).2.2.1, fun h' => by have := (h4 g hg).2.1; have := k2 g h'; omega⟩
    · exact ⟨by have := (h5 g hg).1; omega, (h5 g hg).2, fun h' => by have := (h5 g hg).1; have := k2 g h'; omega⟩
/-- A copy of one of two cells; the other lies there still. -/
def Pre (W W1 : World) (x d : Nat) (C D : St) : Prop :=
  ∃ F G F2 G2, Cs W1 x F G C ∧ Cs W1 d F2 G2 D ∧ (∀ g ∈ F, W.heap.size ≤ g) ∧ (∀ g ∈ G, g < W.heap.size) ∧ (∀ g ∈ G2, g < W.heap.size) ∧ Keeps [] W W1
theorem pre_copy (h : Own0 a W c C) {a2 : World} (h2 : Own0 a2 W d D) (hW : WF P C) (hP : PoolOk P) (hl : C.length ≤ 1000000) :
    Calls Tryz.prog 33 #[.pointer (some ⟨c, 0, none⟩)] W fun e w' => ∃ x, e = .returned (.pointer (some ⟨x, 0, none⟩)) ∧ Pre W w' x d C D := by
  obtain ⟨F, G, h1, _, _⟩ := h
  obtain ⟨F2, G2, j1, _, _⟩ := h2
  refine (copy_any h1 hW hP hl).mono ?_
  rintro e w' ⟨c2, F', rfl, k1, k2, k3⟩
  exact ⟨c2, rfl, F', G, F2, G2, k1, j1.keep0 k3, k2, h1.ltG, j1.ltG, k3⟩
theorem Pre.k {x : Nat} (h : Pre W W' x d C D) : Keeps [] W W' := by obtain ⟨_, _, _, _, _, _, _, _, _, h⟩ := h; exact h
theorem Pre.copy {x : Nat} (h : Pre W W' x d C D) (hW : WF P D) (hP : PoolOk P) (hl : D.length ≤ 1000000) :
    Calls Tryz.prog 33 #[.pointer (some ⟨d, 0, none⟩)] W' fun e w' => ∃ y, e = .returned (.pointer (some ⟨y, 0, none⟩)) ∧ Duo W w' x y C D [] := by
  obtain ⟨F, G, F2, G2, h1, h2, h3, h4, h5, h6⟩ := h
  refine (copy_any h2 hW hP hl).mono ?_
  rintro e w' ⟨y, F', rfl, k1, k2, k3⟩
  have := h6.size
  refine ⟨y, rfl, F, G, F', G2, h1.keep0 k3, k1, h3, fun g hg => by have := k2 g hg; omega, fun g hg => ⟨fun h' => ?_, fun h' => ?_⟩, fun g hg => ⟨fun h' => ?_, fun h' => ?_⟩, h6.trans k3 (by simp), by simp⟩
  · have := h1.ltF g hg; have := k2 g h'; omega
  · have := h3 g hg; have := h5 g h'; omega
  · have := h1.ltF g h'; have := k2 g hg; omega
  · have := h4 g h'; have := k2 g hg; omega
end
/-- What was written down: strings at vg, lists at vl (their rows rs, in the blocks T). -/
structure Rec (a W : World) (c : Nat) (C : St) (gs : List Str) (qs : List (List Str)) (vg vl : Value) (rs : List Value) (T : List Nat) : Prop where
  sta : Sta a W c C (fp vg ++ fp vl) T
  off : ∀ g ∈ fp vg ++ fp vl, g ∉ T
  got : W.ownsRow 0 9 1 vg gs.length (vs gs)
  lst : W.ownsRow 0 29 1 vl qs.length rs
  row : ∀ j (h : j < qs.length) (h2 : j < rs.length), W.ownsRow 0 9 1 rs[j] qs[j].length (vs qs[j]) ∧ ∀ g ∈ fp rs[j], g ∈ T
theorem off_ty {W : World} {e e' s s' n n' : Nat} {v v' : Value} {xs xs' : List Value} (h : W.ownsRow 0 e s v n xs) (h' : W.ownsRow 0 e' s' v' n' xs') (hne : e ≠ e') : ∀ g ∈ fp v, g ∉ fp v' := by
  intro g hg hg'
  obtain ⟨cs, fr, h1⟩ := own_ty h g hg
  obtain ⟨cs', fr', h2⟩ := own_ty h' g hg'
  rw [h1] at h2
  injection h2 with h2
  injection h2 with _ h2
  exact hne h2
section
variable {a W W' : World} {c : Nat} {C D : St} {gs : List Str} {qs : List (List Str)} {vg vl : Value} {rs : List Value} {T : List Nat}
theorem Rec.nil (h : Own0 a W c C) : Rec a W c C [] [] (.slice none 0 0) (.slice none 0 0) [] [] := by
  have h' := Sta.of h
  refine ⟨h'.sub (fun g hg => by simp at hg) (by simp), by simp, World.ownsRow_nil _ _ _ _, World.ownsRow_nil _ _ _ _, fun j h => absurd h (by simp)⟩
theorem Rec.keep0 (h : Rec a W c C gs qs vg vl rs T) (hk : Keeps [] W W') : Rec a W' c C gs qs vg vl rs T :=
  ⟨h.sta.keep0 hk, h.off, own_keep h.got hk (by simp), own_keep h.lst hk (by simp), fun j h1 h2 => ⟨own_keep (h.row j h1 h2).1 hk (by simp), (h.row j h1 h2).2⟩⟩
theorem Rec.turn (h : Rec a W c C gs qs vg vl rs T) (hs : Sta a W' c D (fp vg ++ fp vl) T) (hk : Kept ((fp vg ++ fp vl) ++ T) W W') : Rec a W' c D gs qs vg vl rs T :=
  ⟨hs, h.off, hk.own h.got (fun g hg => by simp [hg]), hk.own h.lst (fun g hg => by simp [hg]), fun j h1 h2 => ⟨hk.own (h.row j h1 h2).1 (fun g hg => by have := (h.row j h1 h2).2 g hg; simp [this]), (h.row j h1 h2).2⟩⟩
/-- A new row beside. -/
theorem Rec.addRow (h : Rec a W c C gs qs vg vl rs T) {n : Nat} {v : Value} {xs : List Value} (ho : W.ownsRow 0 9 1 v n xs) (hv : ∀ g ∈ fp v, g ∉ fp vg ++ fp vl) : Rec a W c C gs qs vg vl rs (fp v ++ T) :=
  ⟨h.sta.addRow ho (by decide) (by decide) (by decide), fun g hg e => (List.mem_append.1 e).elim (fun e => hv g e hg) (h.off g hg), h.got, h.lst, fun j h1 h2 => ⟨(h.row j h1 h2).1, fun g hg => List.mem_append_right _ ((h.row j h1 h2).2 g hg)⟩⟩
theorem Rec.push (h : Rec a W c C gs qs vg vl rs T) {v' : Value} {s : Str} (ho : W'.ownsRow 0 9 1 v' (gs.length + 1) (vs gs ++ [sv s])) (hk : Keeps (fp vg) W W') (hf : ∀ g ∈ fp v', g ∈ fp vg ∨ W.heap.size ≤ g) : Rec a W' c C (gs ++ [s]) qs v' vl rs T := by
  have hTl : ∀ g ∈ T, g < W.heap.size := by obtain ⟨_, _, _, _, _, _, h5⟩ := h.sta; exact fun g hg => (h5 g hg).1
  refine ⟨h.sta.write hk (fun g hg => by simp [hg]) (fun g hg => ?_), fun g hg e => ?_, ?_, own_keep h.lst hk (fun g hg e => off_ty h.lst h.got (by decide) g hg e), fun j h1 h2 => ⟨own_keep (h.row j h1 h2).1 hk (fun g hg e => h.off g (by simp [e]) ((h.row j h1 h2).2 g hg)), (h.row j h1 h2).2⟩⟩
  · rcases List.mem_append.1 hg with hg | hg
    · rcases hf g hg with h' | h'
      · exact .inl (by simp [h'])
      · exact .inr ⟨h', own_lt ho hg⟩
    · exact .inl (by simp [hg])
  · rcases List.mem_append.1 hg with hg | hg
    · rcases hf g hg with h' | h'
      · exact h.off g (by simp [h']) e
      · have := hTl g e; omega
    · exact h.off g (by simp [hg]) e
  · have e : (gs ++ [s]).length = gs.length + 1 := by simp
    have e2 : vs (gs ++ [s]) = vs gs ++ [sv s] := by simp [vs]
    rw [e, e2]; exact ho
theorem Rec.pushL (h : Rec a W c C gs qs vg vl rs T) {v' v : Value} {q : List Str} (hl : rs.length = qs.length) (ho : W'.ownsRow 0 29 1 v' (qs.length + 1) (rs ++ [v])) (hv : W.ownsRow 0 9 1 v q.length (vs q)) (hT : ∀ g ∈ fp v, g ∈ T) (hk : Keeps (fp vl) W W') (hf : ∀ g ∈ fp v', g ∈ fp vl ∨ W.heap.size ≤ g) : Rec a W' c C gs (qs ++ [q]) vg v' (rs ++ [v]) T := by
  have hTl : ∀ g ∈ T, g < W.heap.size := by obtain ⟨_, _, _, _, _, _, h5⟩ := h.sta; exact fun g hg => (h5 g hg).1
  have hrow : ∀ {n : Nat} {u : Value} {xs : List Value}, W.ownsRow 0 9 1 u n xs → W'.ownsRow 0 9 1 u n xs := fun hu => own_keep hu hk (fun g hg e => off_ty hu h.lst (by decide) g hg e)
  refine ⟨h.sta.write hk (fun g hg => by simp [hg]) (fun g hg => ?_), fun g hg e => ?_, hrow h.got, ?_, fun j h1 h2 => ?_⟩
  · rcases List.mem_append.1 hg with hg | hg
    · exact .inl (by simp [hg])
    · rcases hf g hg with h' | h'
      · exact .inl (by simp [h'])
      · exact .inr ⟨h', own_lt ho hg⟩
  · rcases List.mem_append.1 hg with hg | hg
    · exact h.off g (by simp [hg]) e
    · rcases hf g hg with h' | h'
      · exact h.off g (by simp [h']) e
      · have := hTl g e; omega
  · have e : (qs ++ [q]).length = qs.length + 1 := by simp
    rw [e]; exact ho
  · by_cases hj : j < qs.length
    · have hj2 : j < rs.length := by omega
      rw [List.getElem_append_left hj, List.getElem_append_left hj2]
      exact ⟨hrow (h.row j hj hj2).1, (h.row j hj hj2).2⟩
    · obtain rfl : j = qs.length := by simp at h1; omega
      have e1 : (qs ++ [q])[qs.length] = q := by simp
      have e2 : (rs ++ [v])[qs.length] = v := by simp [← hl]
      rw [e1, e2]
      exact ⟨hrow hv, hT⟩
end
end Go.Proofs.YtbllmpcpfmlemaaGreat
