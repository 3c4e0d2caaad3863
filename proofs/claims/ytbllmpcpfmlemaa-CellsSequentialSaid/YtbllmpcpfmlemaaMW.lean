/- The texts W45, W46a in one. -/
import Derived.Test.YtbllmpcpfmlemaaOpsm
namespace Go.Proofs.Ytbllmpcpfmlemaa
open Go.RowKit

/-- Two cells behind the blocks of a, apart; the blocks T are apart from both. -/
def Duo (a W : World) (c d : Nat) (C D : St) (T : List Nat) : Prop :=
  ∃ F G F2 G2, Cs W c F G C ∧ Cs W d F2 G2 D ∧ (∀ g ∈ F, a.heap.size ≤ g) ∧ (∀ g ∈ F2, a.heap.size ≤ g) ∧ (∀ g ∈ F, g ∉ F2 ∧ g ∉ G2) ∧ (∀ g ∈ F2, g ∉ F ∧ g ∉ G) ∧ Keeps [] a W ∧ ∀ g ∈ T, g < W.heap.size ∧ g ∉ F ∧ g ∉ F2
section
variable {a W W' : World} {c d : Nat} {C D : St} {T : List Nat} {P : List Str}
theorem Duo.k (h : Duo a W c d C D T) : Keeps [] a W := by obtain ⟨_, _, _, _, _, _, _, _, _, _, h, _⟩ := h; exact h
theorem Duo.symm (h : Duo a W c d C D T) : Duo a W d c D C T := by
  obtain ⟨F, G, F2, G2, h1, h2, h3, h4, h5, h6, h7, h8⟩ := h
  exact ⟨F2, G2, F, G, h2, h1, h4, h3, h6, h5, h7, fun g hg => ⟨(h8 g hg).1, (h8 g hg).2.2, (h8 g hg).2.1⟩⟩
theorem Duo.left (h : Duo a W c d C D T) : Own0 a W c C := by
  obtain ⟨F, G, F2, G2, h1, h2, h3, h4, h5, h6, h7, h8⟩ := h
  exact ⟨F, G, h1, h3, h7⟩
theorem Duo.right (h : Duo a W c d C D T) : Own0 a W d D := h.symm.left
theorem Duo.keep0 (h : Duo a W c d C D T) (hk : Keeps [] W W') : Duo a W' c d C D T := by
  obtain ⟨F, G, F2, G2, h1, h2, h3, h4, h5, h6, h7, h8⟩ := h
  have := hk.size
  exact ⟨F, G, F2, G2, h1.keep0 hk, h2.keep0 hk, h3, h4, h5, h6, h7.trans hk (by simp), fun g hg => ⟨by have := (h8 g hg).1; omega, (h8 g hg).2⟩⟩
theorem Duo.addRow (h : Duo a W c d C D T) {e size n : Nat} {v : Value} {xs : List Value} (ho : W.ownsRow 0 e size v n xs) (e1 : e ≠ 59) (e2 : e ≠ 77) (e3 : e ≠ 32) : Duo a W c d C D (fp v ++ T) := by
  obtain ⟨F, G, F2, G2, h1, h2, h3, h4, h5, h6, h7, h8⟩ := h
  obtain ⟨K, j1, j2, j3⟩ := h1.slim
  obtain ⟨K2, l1, l2, l3⟩ := h2.slim
  refine ⟨K, G, K2, G2, j2, l2, fun g hg => h3 g (j1 g hg), fun g hg => h4 g (l1 g hg), fun g hg => ⟨fun e => (h5 g (j1 g hg)).1 (l1 g e), (h5 g (j1 g hg)).2⟩, fun g hg => ⟨fun e => (h6 g (l1 g hg)).1 (j1 g e), (h6 g (l1 g hg)).2⟩, h7, fun g hg => ?_⟩
  rcases List.mem_append.1 hg with hg | hg
  · exact ⟨own_lt ho hg, j3 _ _ _ _ _ ho e1 e2 e3 g hg, l3 _ _ _ _ _ ho e1 e2 e3 g hg⟩
  · exact ⟨(h8 g hg).1, fun e => (h8 g hg).2.1 (j1 g e), fun e => (h8 g hg).2.2 (l1 g e)⟩
theorem Duo.calls (h : Duo a W c d C D T) {E : St} {f : Nat} {args : Array Value} {R : Ending → World → Prop} (hc : ∀ F G, Cs W c F G C → Calls Try.prog f args W fun e w' => R e w' ∧ Turned W w' c F G E) :
    Calls Try.prog f args W fun e w' => R e w' ∧ Duo a w' c d E D T ∧ Kept T W w' := by
  obtain ⟨F, G, F2, G2, h1, h2, h3, h4, h5, h6, h7, h8⟩ := h
  refine (hc F G h1).mono ?_
  rintro e w' ⟨hr, F', G', k1, k2, k3, k4⟩
  have hs := k4.size
  refine ⟨hr, ⟨F', G', F2, G2, k1, h2.keep k4 (fun g hg => (h5 g hg).1) (fun g hg => (h5 g hg).2), fun g hg => ?_, h4, fun g hg => ?_, fun g hg => ?_, h7.trans k4 (fun g hg => .inr (h3 g hg)), fun g hg => ?_⟩, F, k4, fun g hg => (h8 g hg).2.1⟩
  · rcases k2.2 g hg with h | h
    · exact h3 g h
    · exact Nat.le_trans h7.size h
  · rcases k2.2 g hg with h | h
    · exact h5 g h
    · exact ⟨fun h' => by have := h2.ltF g h'; omega, fun h' => by have := h2.ltG g h'; omega⟩
  · constructor
    · intro h'
      rcases k2.2 g h' with h | h
      · exact (h6 g hg).1 h
      · have := h2.ltF g hg; omega
    · intro h'
      rcases k3.2 g h' with h | h
      · exact (h6 g hg).2 h
      · have := h2.ltF g hg; omega
  · obtain ⟨q1, q2, q3⟩ := h8 g hg
    refine ⟨by omega, fun e => ?_, q3⟩
    rcases k2.2 g e with h | h
    · exact q2 h
    · omega
/-- A copy beside what it is a copy of. -/
theorem Sta.copy {S : List Nat} (h : Sta a W c C S T) (hW : WF P C) (hP : PoolOk P) (hl : C.length ≤ 1000000) :
    Calls Try.prog 19 #[.pointer (some ⟨c, 0, none⟩)] W fun e w' => ∃ c2, e = .returned (.pointer (some ⟨c2, 0, none⟩)) ∧ Duo a w' c c2 C C (S ++ T) ∧ Keeps [] W w' := by
  obtain ⟨F, G, h1, h2, h3, h4, h5⟩ := h
  refine (copy_any h1 hW hP hl).mono ?_
  rintro e w' ⟨c2, F2, rfl, k1, k2, k3⟩
  have := k3.size
  refine ⟨c2, rfl, ⟨F, G, F2, G, h1.keep0 k3, k1, h2, fun g hg => Nat.le_trans h3.size (k2 g hg), fun g hg => ⟨fun h' => ?_, fun h' => h1.off g h' hg⟩, fun g hg => ⟨fun h' => ?_, fun h' => ?_⟩, h3.trans k3 (by simp), fun g hg => ?_⟩, k3⟩
  · have := h1.ltF g hg; have := k2 g h'; omega
  · have := h1.ltF g h'; have := k2 g hg; omega
  · have := h1.ltG g h'; have := k2 g hg; omega
  · rcases List.mem_append.1 hg with hg | hg
    · exact ⟨by have := (h4 g hg).2.1; omega, (h4 g hg).2.2.1, fun h' => by have := (h4 g hg).2.1; have := k2 g h'; omega⟩
    · exact ⟨by have := (h5 g hg).1; omega, (h5 g hg).2, fun h' => by have := (h5 g hg).1; have := k2 g h'; omega⟩
/-- A copy of one of two cells; the other lies there still. -/
def Pre (W W1 : World) (x d : Nat) (C D : St) : Prop :=
  ∃ F G F2 G2, Cs W1 x F G C ∧ Cs W1 d F2 G2 D ∧ (∀ g ∈ F, W.heap.size ≤ g) ∧ (∀ g ∈ G, g < W.heap.size) ∧ (∀ g ∈ G2, g < W.heap.size) ∧ Keeps [] W W1
theorem pre_copy (h : Own0 a W c C) {a2 : World} (h2 : Own0 a2 W d D) (hW : WF P C) (hP : PoolOk P) (hl : C.length ≤ 1000000) :
    Calls Try.prog 19 #[.pointer (some ⟨c, 0, none⟩)] W fun e w' => ∃ x, e = .returned (.pointer (some ⟨x, 0, none⟩)) ∧ Pre W w' x d C D := by
  obtain ⟨F, G, h1, _, _⟩ := h
  obtain ⟨F2, G2, j1, _, _⟩ := h2
  refine (copy_any h1 hW hP hl).mono ?_
  rintro e w' ⟨c2, F', rfl, k1, k2, k3⟩
  exact ⟨c2, rfl, F', G, F2, G2, k1, j1.keep0 k3, k2, h1.ltG, j1.ltG, k3⟩
theorem Pre.k {x : Nat} (h : Pre W W' x d C D) : Keeps [] W W' := by obtain ⟨_, _, _, _, _, _, _, _, _, h⟩ := h; exact h
theorem Pre.copy {x : Nat} (h : Pre W W' x d C D) (hW : WF P D) (hP : PoolOk P) (hl : D.length ≤ 1000000) :
    Calls Try.prog 19 #[.pointer (some ⟨d, 0, none⟩)] W' fun e w' => ∃ y, e = .returned (.pointer (some ⟨y, 0, none⟩)) ∧ Duo W w' x y C D [] := by
  obtain ⟨F, G, F2, G2, h1, h2, h3, h4, h5, h6⟩ := h
  refine (copy_any h2 hW hP hl).mono ?_
  rintro e w' ⟨y, F', rfl, k1, k2, k3⟩
  have := h6.size
  refine ⟨y, rfl, F, G, F', G2, h1.keep0 k3, k1, h3, fun g hg => by have := k2 g hg; omega, fun g hg => ⟨fun h' => ?_, fun h' => ?_⟩, fun g hg => ⟨fun h' => ?_, fun h' => ?_⟩, h6.trans k3 (by simp), by simp⟩
  · have := h1.ltF g hg; have := k2 g h'; omega
  · have := h3 g hg; have := h5 g h'; omega
  · have := h1.ltF g h'; have := k2 g hg; omega
  · have := h4 g h'; have := k2 g hg; omega
end
/-- What was written down: strings at vg, lists at vl (their rows rs, in the blocks T). -/
structure Rec (a W : World) (c : Nat) (C : St) (gs : List Str) (qs : List (List Str)) (vg vl : Value) (rs : List Value) (T : List Nat) : Prop where
  sta : Sta a W c C (fp vg ++ fp vl) T
  off : ∀ g ∈ fp vg ++ fp vl, g ∉ T
  got : W.ownsRow 0 9 1 vg gs.length (vs gs)
  lst : W.ownsRow 0 27 1 vl qs.length rs
  row : ∀ j (h : j < qs.length) (h2 : j < rs.length), W.ownsRow 0 9 1 rs[j] qs[j].length (vs qs[j]) ∧ ∀ g ∈ fp rs[j], g ∈ T
theorem off_ty {W : World} {e e' s s' n n' : Nat} {v v' : Value} {xs xs' : List Value} (h : W.ownsRow 0 e s v n xs) (h' : W.ownsRow 0 e' s' v' n' xs') (hne : e ≠ e') : ∀ g ∈ fp v, g ∉ fp v' := by
  intro g hg hg'
  obtain ⟨cs, fr, h1⟩ := own_ty h g hg
  obtain ⟨cs', fr', h2⟩ := own_ty h' g hg'
  rw [h1] at h2
  injection h2 with h2
  injection h2 with _ h2
  exact hne h2
section
variable {a W W' : World} {c : Nat} {C D : St} {gs : List Str} {qs : List (List Str)} {vg vl : Value} {rs : List Value} {T : List Nat}
theorem Rec.nil (h : Own0 a W c C) : Rec a W c C [] [] (.slice none 0 0) (.slice none 0 0) [] [] := by
  have h' := Sta.of h
  refine ⟨h'.sub (fun g hg => by simp at hg) (by simp), by simp, World.ownsRow_nil _ _ _ _, World.ownsRow_nil _ _ _ _, fun j h => absurd h (by simp)⟩
theorem Rec.keep0 (h : Rec a W c C gs qs vg vl rs T) (hk : Keeps [] W W') : Rec a W' c C gs qs vg vl rs T :=
  ⟨h.sta.keep0 hk, h.off, own_keep h.got hk (by simp), own_keep h.lst hk (by simp), fun j h1 h2 => ⟨own_keep (h.row j h1 h2).1 hk (by simp), (h.row j h1 h2).2⟩⟩
theorem Rec.turn (h : Rec a W c C gs qs vg vl rs T) (hs : Sta a W' c D (fp vg ++ fp vl) T) (hk : Kept ((fp vg ++ fp vl) ++ T) W W') : Rec a W' c D gs qs vg vl rs T :=
  ⟨hs, h.off, hk.own h.got (fun g hg => by simp [hg]), hk.own h.lst (fun g hg => by simp [hg]), fun j h1 h2 => ⟨hk.own (h.row j h1 h2).1 (fun g hg => by have := (h.row j h1 h2).2 g hg; simp [this]), (h.row j h1 h2).2⟩⟩
/-- A new row beside. -/
theorem Rec.addRow (h : Rec a W c C gs qs vg vl rs T) {n : Nat} {v : Value} {xs : List Value} (ho : W.ownsRow 0 9 1 v n xs) (hv : ∀ g ∈ fp v, g ∉ fp vg ++ fp vl) : Rec a W c C gs qs vg vl rs (fp v ++ T) :=
  ⟨h.sta.addRow ho (by decide) (by decide) (by decide), fun g hg e => (List.mem_append.1 e).elim (fun e => hv g e hg) (h.off g hg), h.got, h.lst, fun j h1 h2 => ⟨(h.row j h1 h2).1, fun g hg => List.mem_append_right _ ((h.row j h1 h2).2 g hg)⟩⟩
theorem Rec.push (h : Rec a W c C gs qs vg vl rs T) {v' : Value} {s : Str} (ho : W'.ownsRow 0 9 1 v' (gs.length + 1) (vs gs ++ [sv s])) (hk : Keeps (fp vg) W W') (hf : ∀ g ∈ fp v', g ∈ fp vg ∨ W.heap.size ≤ g) : Rec a W' c C (gs ++ [s]) qs v' vl rs T := by
  have hTl : ∀ g ∈ T, g < W.heap.size := by obtain ⟨_, _, _, _, _, _, h5⟩ := h.sta; exact fun g hg => (h5 g hg).1
  refine ⟨h.sta.write hk (fun g hg => by simp [hg]) (fun g hg => ?_), fun g hg e => ?_, ?_, own_keep h.lst hk (fun g hg e => off_ty h.lst h.got (by decide) g hg e), fun j h1 h2 => ⟨own_keep (h.row j h1 h2).1 hk (fun g hg e => h.off g (by simp [e]) ((h.row j h1 h2).2 g hg)), (h.row j h1 h2).2⟩⟩
  · rcases List.mem_append.1 hg with hg | hg
    · rcases hf g hg with h' | h'
      · exact .inl (by simp [h'])
      · exact .inr ⟨h', own_lt ho hg⟩
    · exact .inl (by simp [hg])
  · rcases List.mem_append.1 hg with hg | hg
    · rcases hf g hg with h' | h'
      · exact h.off g (by simp [h']) e
      · have := hTl g e; omega
    · exact h.off g (by simp [hg]) e
  · have e : (gs ++ [s]).length = gs.length + 1 := by simp
    have e2 : vs (gs ++ [s]) = vs gs ++ [sv s] := by simp [vs]
    rw [e, e2]; exact ho
theorem Rec.pushL (h : Rec a W c C gs qs vg vl rs T) {v' v : Value} {q : List Str} (hl : rs.length = qs.length) (ho : W'.ownsRow 0 27 1 v' (qs.length + 1) (rs ++ [v])) (hv : W.ownsRow 0 9 1 v q.length (vs q)) (hT : ∀ g ∈ fp v, g ∈ T) (hk : Keeps (fp vl) W W') (hf : ∀ g ∈ fp v', g ∈ fp vl ∨ W.heap.size ≤ g) : Rec a W' c C gs (qs ++ [q]) vg v' (rs ++ [v]) T := by
  have hTl : ∀ g ∈ T, g < W.heap.size := by obtain ⟨_, _, _, _, _, _, h5⟩ := h.sta; exact fun g hg => (h5 g hg).1
  have hrow : ∀ {n : Nat} {u : Value} {xs : List Value}, W.ownsRow 0 9 1 u n xs → W'.ownsRow 0 9 1 u n xs := fun hu => own_keep hu hk (fun g hg e => off_ty hu h.lst (by decide) g hg e)
  refine ⟨h.sta.write hk (fun g hg => by simp [hg]) (fun g hg => ?_), fun g hg e => ?_, hrow h.got, ?_, fun j h1 h2 => ?_⟩
  · rcases List.mem_append.1 hg with hg | hg
    · exact .inl (by simp [hg])
    · rcases hf g hg with h' | h'
      · exact .inl (by simp [h'])
      · exact .inr ⟨h', own_lt ho hg⟩
  · rcases List.mem_append.1 hg with hg | hg
    · exact h.off g (by simp [hg]) e
    · rcases hf g hg with h' | h'
      · exact h.off g (by simp [h']) e
      · have := hTl g e; omega
  · have e : (qs ++ [q]).length = qs.length + 1 := by simp
    rw [e]; exact ho
  · by_cases hj : j < qs.length
    · have hj2 : j < rs.length := by omega
      rw [List.getElem_append_left hj, List.getElem_append_left hj2]
      exact ⟨hrow (h.row j hj hj2).1, (h.row j hj hj2).2⟩
    · obtain rfl : j = qs.length := by simp at h1; omega
      have e1 : (qs ++ [q])[qs.length] = q := by simp
      have e2 : (rs ++ [v])[qs.length] = v := by simp [← hl]
      rw [e1, e2]
      exact ⟨hrow hv, hT⟩
end
end Go.Proofs.Ytbllmpcpfmlemaa
namespace Go.Proofs.Ytbllmpcpfmlemaa
open Go.RowKit

section
variable {a W : World} {c d n : Nat} {C D : St} {T : List Nat} {P : List Str}
theorem duo_get2 (h : Duo a W c d C D T) (hf : Fit P n C) (hP : PoolOk P) {i : Int} (hi : I64 i) (k : Str) (hk : k ∈ P) {s : Str} {C1 : St} (hs : sees (askP C i k) i k = s) (h1 : askP C i k = C1) :
    Calls Try.prog 11 #[.pointer (some ⟨c, 0, none⟩), .int .i64 i, sv k] W fun e w' => e = .returned (sv s) ∧ Duo a w' c d C1 D T ∧ Kept T W w' := by
  subst hs h1
  exact h.calls (fun _ _ hC => get_any hC hf.wf hP hi k hk)
theorem duo_keys2 (h : Duo a W c d C D T) (hf : Fit P n C) (hP : PoolOk P) {i : Int} (hi : I64 i) (k : Str) (hk : k ∈ P) {q : List Str} {C1 : St} (hs : seesKeys (askKP C i k) i k = q) (h1 : askKP C i k = C1) :
    Calls Try.prog 12 #[.pointer (some ⟨c, 0, none⟩), .int .i64 i, sv k] W fun e w' =>
      (∃ v, e = .returned v ∧ w'.ownsRow 0 9 1 v q.length (vs q)) ∧ Duo a w' c d C1 D T ∧ Kept T W w' := by
  subst hs h1
  refine h.calls (fun F G hC => ?_)
  refine (keysOp_any hC hf.wf hP hi k hk).mono ?_
  rintro e w' ⟨v, h1, h2, -, h4⟩
  exact ⟨⟨v, h1, h2⟩, h4⟩
theorem own_logs2 (h : Own0 a W c C) {i : Int} (hi : I64 i) (k : Str) (hok : kS.ok k) {g : Str} (hg : logsP C i k = g) :
    Calls Try.prog 47 #[.pointer (some ⟨c, 0, none⟩), .int .i64 i, sv k] W fun e w' => e = .returned (sv g) ∧ w' = W := by
  subst hg
  obtain ⟨F, G, h1, _⟩ := h
  exact logs_any h1 hi k hok
theorem same_eq {v v' : Value} {q : List Str} (h : W.ownsRow 0 9 1 v q.length (vs q)) (h' : W.ownsRow 0 9 1 v' q.length (vs q)) (hl : q.length ≤ 1000000) :
    Calls Try.prog 15 #[v, v'] W fun e w' => e = .returned (.bool true) ∧ Keeps [] W w' := by
  obtain ⟨B, d, rfl, -, -, -⟩ := own_shape h
  obtain ⟨B', d', rfl, -, -, -⟩ := own_shape h'
  have h1 := same_any W B B' q q d d' (AtS.of_own h hl) (AtS.of_own h' hl)
  rw [decide_eq_true (rfl : q = q)] at h1
  exact h1
end
noncomputable def sees12C : Code := ((Try.f22.body.bind (theRegion 12)).getD .skip)
set_option maxRecDepth 1000000 in
set_option maxHeartbeats 1600000 in
set_option linter.unusedSimpArgs false in
theorem sees12_any (w : World) (a : World) (x y bl off zb zo ln cc m d2 k j n : Nat) (z : Int) (ky : Str) (P : List Str) (C C1 C2 : St) (s g : Str) (q : List Str) (K : Exit → Act → World → Prop)
    (h0 : Duo a w x y C C []) (hf : Fit P n C) (hP : PoolOk P) (hz : I64 z) (hky : ky ∈ P)
    (hg1 : sees (askP C z ky) z ky = s) (hc1 : askP C z ky = C1) (hq : seesKeys (askKP C1 z ky) z ky = q) (hc2 : askKP C1 z ky = C2) (hg : logsP C2 z ky = g)
    (hS : ∀ W, Keeps [] a W → W.cell? ⟨zb, zo + j, none⟩ = some (.int .i64 z) ∧ W.cell? ⟨bl, off + k * 9 + 3, none⟩ = some (sv ky))
    (i0 : (0 : Int) ≤ (k : Int)) (i1 : (k : Int) < (ln : Int)) (j0 : (0 : Int) ≤ (j : Int)) (j1 : (j : Int) < (m : Int))
    (u0 u1 u2 u4 u5 u6 u7 u8 u14 u15 u16 u17 u18 u19 u20 u21 u22 u23 u24 u25 u26 u27 u28 u29 u30 u31 u32 u33 u34 u35 u36 u37 u38 u39 u40 u41 u42 u43 u44 u45 u46 u47 u48 u49 u50 u51 u52 u53 u54 u55 u56 u57 u58 u59 u60 u61 u62 u63 u64 u65 u66 u67 u68 u69 u70 u71 u72 u73 u74 u75 u76 u77 u78 u79 u80 u81 u82 u83 u84 u85 u86 u87 u88 u89 u90 u91 u92 u93 u94 u95 u96 u97 u98 u99 u100 u101 u102 u103 u104 u105 u106 u107 u108 u109 u110 u111 u112 u113 u114 u115 u116 u117 u118 u119 u120 u121 u122 u123 u124 u125 u126 u127 u128 u129 : Value)
    (hK : ∀ (v40 v41 v42 v43 v44 v45 v46 v47 v48 v49 v50 v51 v52 v53 v54 v55 v56 v57 v58 v59 v60 v61 v62 v63 v64 v65 v66 v67 v68 v69 v70 v71 v72 v73 v74 v75 v76 v77 v78 v79 v80 v81 v82 v83 v84 v85 v86 v87 v88 v89 v90 v91 v92 v93 v94 v95 v96 v97 v98 v99 v100 v101 v102 v103 v104 v105 v106 v107 v108 v109 v110 v111 v112 : Value) (W : World), Keeps [] a W → K .normal ⟨#[u0, u1, u2, .slice (some ⟨bl, off, none⟩) ln cc, u4, u5, u6, u7, u8, .slice (some ⟨zb, zo, none⟩) m d2, .int .i64 (k : Nat), .int .i64 (j : Nat), .pointer (some ⟨x, 0, none⟩), .pointer (some ⟨y, 0, none⟩), u14, u15, u16, u17, u18, u19, u20, u21, u22, u23, u24, u25, u26, u27, u28, u29, u30, u31, u32, u33, u34, u35, u36, u37, u38, u39, v40, v41, v42, v43, v44, v45, v46, v47, v48, v49, v50, v51, v52, v53, v54, v55, v56, v57, v58, v59, v60, v61, v62, v63, v64, v65, v66, v67, v68, v69, v70, v71, v72, v73, v74, v75, v76, v77, v78, v79, v80, v81, v82, v83, v84, v85, v86, v87, v88, v89, v90, v91, v92, v93, v94, v95, v96, v97, v98, v99, v100, v101, v102, v103, v104, v105, v106, v107, v108, v109, v110, v111, v112, .bool false, u114, u115, u116, u117, u118, u119, u120, u121, u122, u123, u124, u125, u126, u127, u128, u129], []⟩ W) :
    Code.wp Try.prog sees12C K ⟨#[u0, u1, u2, .slice (some ⟨bl, off, none⟩) ln cc, u4, u5, u6, u7, u8, .slice (some ⟨zb, zo, none⟩) m d2, .int .i64 (k : Nat), .int .i64 (j : Nat), .pointer (some ⟨x, 0, none⟩), .pointer (some ⟨y, 0, none⟩), u14, u15, u16, u17, u18, u19, u20, u21, u22, u23, u24, u25, u26, u27, u28, u29, u30, u31, u32, u33, u34, u35, u36, u37, u38, u39, u40, u41, u42, u43, u44, u45, u46, u47, u48, u49, u50, u51, u52, u53, u54, u55, u56, u57, u58, u59, u60, u61, u62, u63, u64, u65, u66, u67, u68, u69, u70, u71, u72, u73, u74, u75, u76, u77, u78, u79, u80, u81, u82, u83, u84, u85, u86, u87, u88, u89, u90, u91, u92, u93, u94, u95, u96, u97, u98, u99, u100, u101, u102, u103, u104, u105, u106, u107, u108, u109, u110, u111, u112, u113, u114, u115, u116, u117, u118, u119, u120, u121, u122, u123, u124, u125, u126, u127, u128, u129], []⟩ w := by
  have HS := Lib.hid hS
  have HF := Lib.hid hf
  have HP := Lib.hid hP
  have HZ := Lib.hid hz
  have HKY := Lib.hid hky
  have HG1 := Lib.hid hg1
  have HC1 := Lib.hid hc1
  have HQ := Lib.hid hq
  have HC2 := Lib.hid hc2
  have HG := Lib.hid hg
  have HF1 : Hid (Fit P n C1) := Lib.hid (by rw [← hc1]; exact hf.ask z hky)
  have HQL : Hid (q.length ≤ 1000000) := Lib.hid (by rw [← hq]; exact seesKeys_len (HF1.out.askK z hky).wf hP z ky)
  clear hS hf hP hz hky hg1 hc1 hq hc2 hg
  conv => arg 2; whnf
  try dsimp only at hK ⊢
  refine wp_region_noPanic ?_
  refine wp_region_held_drew (S := fun W => W.cell? ⟨zb, zo + j, none⟩ = some (.int .i64 z) ∧ W.cell? ⟨bl, off + k * 9 + 3, none⟩ = some (sv ky)) (by kernel_rfl) (HS.out _ ((h0.keep0 (Keeps.refl [] w).drew).k)) (fun hHeld => ?_)
  obtain ⟨w0, hw0⟩ : ∃ w0, w.drew = w0 := ⟨_, rfl⟩
  rw [hw0] at hHeld
  rw [hw0]
  have D0 := h0.keep0 ((Keeps.refl [] w).drew)
  rw [hw0] at D0
  clear hw0 h0
  refine wpAnyH_take (i := 0) (oi := ⟨some 40, Op.move (Operand.tmp 12), 24, _, _, none⟩) (v := ?vq1) rfl (by kernel_rfl) (by kernel_rfl) (by kernel_rfl) (fun _ _ _ h => h) (Or.inl ⟨by rfl, fun W hW => ?_⟩) (by assumption) ?_
  rotate_left
  · go_simp
    with_reducible rfl
  try simp only [Act.put, List.setIfInBounds_toArray, List.set_cons_zero, List.set_cons_succ]
  refine wpAnyH_take (i := 1) (oi := ⟨some 41, Op.move (Operand.tmp 9), 36, _, _, none⟩) (v := ?vq2) rfl (by kernel_rfl) (by kernel_rfl) (by kernel_rfl) (fun _ _ _ h => h) (Or.inl ⟨by rfl, fun W hW => ?_⟩) (by assumption) ?_
  rotate_left
  · go_simp
    with_reducible rfl
  try simp only [Act.put, List.setIfInBounds_toArray, List.set_cons_zero, List.set_cons_succ]
  refine wpAnyH_take (i := 2) (oi := ⟨some 42, Op.move (Operand.tmp 11), 3, _, _, none⟩) (v := ?vq3) rfl (by kernel_rfl) (by kernel_rfl) (by kernel_rfl) (fun _ _ _ h => h) (Or.inl ⟨by rfl, fun W hW => ?_⟩) (by assumption) ?_
  rotate_left
  · go_simp
    with_reducible rfl
  try simp only [Act.put, List.setIfInBounds_toArray, List.set_cons_zero, List.set_cons_succ]
  refine wpAnyH_take (i := 3) (oi := ⟨some 43, Op.indexAddr 36 (Operand.tmp 41) (Operand.tmp 42), 0, _, _, none⟩) (v := ?vq4) rfl (by kernel_rfl) (by kernel_rfl) (by kernel_rfl) (fun _ _ _ h => h) (Or.inl ⟨by rfl, fun W hW => ?_⟩) (by assumption) ?_
  rotate_left
  · go_simp
    with_reducible rfl
  try simp only [Act.put, List.setIfInBounds_toArray, List.set_cons_zero, List.set_cons_succ]
  refine wpAnyH_take (i := 4) (oi := ⟨some 44, Op.load 3 (Operand.tmp 43), 3, _, _, none⟩) (v := .int .i64 z) rfl (by kernel_rfl) (by kernel_rfl) (by kernel_rfl) (fun _ _ _ h => h) (Or.inl ⟨by rfl, fun W hW => ?_⟩) (by assumption) ?_
  · (obtain ⟨a0, a1⟩ := hW; go_simp)
  try simp only [Act.put, List.setIfInBounds_toArray, List.set_cons_zero, List.set_cons_succ]
  refine wpAnyH_take (i := 5) (oi := ⟨some 45, Op.move (Operand.tmp 3), 22, _, _, none⟩) (v := ?vq5) rfl (by kernel_rfl) (by kernel_rfl) (by kernel_rfl) (fun _ _ _ h => h) (Or.inl ⟨by rfl, fun W hW => ?_⟩) (by assumption) ?_
  rotate_left
  · go_simp
    with_reducible rfl
  try simp only [Act.put, List.setIfInBounds_toArray, List.set_cons_zero, List.set_cons_succ]
  refine wpAnyH_take (i := 6) (oi := ⟨some 46, Op.move (Operand.tmp 10), 3, _, _, none⟩) (v := ?vq6) rfl (by kernel_rfl) (by kernel_rfl) (by kernel_rfl) (fun _ _ _ h => h) (Or.inl ⟨by rfl, fun W hW => ?_⟩) (by assumption) ?_
  rotate_left
  · go_simp
    with_reducible rfl
  try simp only [Act.put, List.setIfInBounds_toArray, List.set_cons_zero, List.set_cons_succ]
  refine wpAnyH_take (i := 7) (oi := ⟨some 47, Op.indexAddr 22 (Operand.tmp 45) (Operand.tmp 46), 0, _, _, none⟩) (v := ?vq7) rfl (by kernel_rfl) (by kernel_rfl) (by kernel_rfl) (fun _ _ _ h => h) (Or.inl ⟨by rfl, fun W hW => ?_⟩) (by assumption) ?_
  rotate_left
  · go_simp
    with_reducible rfl
  try simp only [Act.put, List.setIfInBounds_toArray, List.set_cons_zero, List.set_cons_succ]
  refine wpAnyH_take (i := 8) (oi := ⟨some 48, Op.fieldAddr 34 (Operand.tmp 47) 3, 0, _, _, none⟩) (v := ?vq8) rfl (by kernel_rfl) (by kernel_rfl) (by kernel_rfl) (fun _ _ _ h => h) (Or.inl ⟨by rfl, fun W hW => ?_⟩) (by assumption) ?_
  rotate_left
  · go_simp
    with_reducible rfl
  try simp only [Act.put, List.setIfInBounds_toArray, List.set_cons_zero, List.set_cons_succ]
  refine wpAnyH_take (i := 9) (oi := ⟨some 49, Op.load 9 (Operand.tmp 48), 9, _, _, none⟩) (v := sv ky) rfl (by kernel_rfl) (by kernel_rfl) (by kernel_rfl) (fun _ _ _ h => h) (Or.inl ⟨by rfl, fun W hW => ?_⟩) (by assumption) ?_
  · (obtain ⟨a0, a1⟩ := hW; go_simp)
  try simp only [Act.put, List.setIfInBounds_toArray, List.set_cons_zero, List.set_cons_succ]
  refine wpAnyH_take (i := 11) (oi := ⟨some 51, Op.move (Operand.tmp 13), 24, _, _, none⟩) (v := ?vq9) rfl (by kernel_rfl) (by kernel_rfl) (by kernel_rfl) (fun _ _ _ h => h) (Or.inl ⟨by rfl, fun W hW => ?_⟩) (by assumption) ?_
  rotate_left
  · go_simp
    with_reducible rfl
  try simp only [Act.put, List.setIfInBounds_toArray, List.set_cons_zero, List.set_cons_succ]
  refine wpAnyH_take (i := 12) (oi := ⟨some 52, Op.move (Operand.tmp 9), 36, _, _, none⟩) (v := ?vq10) rfl (by kernel_rfl) (by kernel_rfl) (by kernel_rfl) (fun _ _ _ h => h) (Or.inl ⟨by rfl, fun W hW => ?_⟩) (by assumption) ?_
  rotate_left
  · go_simp
    with_reducible rfl
  try simp only [Act.put, List.setIfInBounds_toArray, List.set_cons_zero, List.set_cons_succ]
  refine wpAnyH_take (i := 13) (oi := ⟨some 53, Op.move (Operand.tmp 11), 3, _, _, none⟩) (v := ?vq11) rfl (by kernel_rfl) (by kernel_rfl) (by kernel_rfl) (fun _ _ _ h => h) (Or.inl ⟨by rfl, fun W hW => ?_⟩) (by assumption) ?_
  rotate_left
  · go_simp
    with_reducible rfl
  try simp only [Act.put, List.setIfInBounds_toArray, List.set_cons_zero, List.set_cons_succ]
  refine wpAnyH_take (i := 14) (oi := ⟨some 54, Op.indexAddr 36 (Operand.tmp 52) (Operand.tmp 53), 0, _, _, none⟩) (v := ?vq12) rfl (by kernel_rfl) (by kernel_rfl) (by kernel_rfl) (fun _ _ _ h => h) (Or.inl ⟨by rfl, fun W hW => ?_⟩) (by assumption) ?_
  rotate_left
  · go_simp
    with_reducible rfl
  try simp only [Act.put, List.setIfInBounds_toArray, List.set_cons_zero, List.set_cons_succ]
  refine wpAnyH_take (i := 15) (oi := ⟨some 55, Op.load 3 (Operand.tmp 54), 3, _, _, none⟩) (v := .int .i64 z) rfl (by kernel_rfl) (by kernel_rfl) (by kernel_rfl) (fun _ _ _ h => h) (Or.inl ⟨by rfl, fun W hW => ?_⟩) (by assumption) ?_
  · (obtain ⟨a0, a1⟩ := hW; go_simp)
  try simp only [Act.put, List.setIfInBounds_toArray, List.set_cons_zero, List.set_cons_succ]
  refine wpAnyH_take (i := 16) (oi := ⟨some 56, Op.move (Operand.tmp 3), 22, _, _, none⟩) (v := ?vq13) rfl (by kernel_rfl) (by kernel_rfl) (by kernel_rfl) (fun _ _ _ h => h) (Or.inl ⟨by rfl, fun W hW => ?_⟩) (by assumption) ?_
  rotate_left
  · go_simp
    with_reducible rfl
  try simp only [Act.put, List.setIfInBounds_toArray, List.set_cons_zero, List.set_cons_succ]
  refine wpAnyH_take (i := 17) (oi := ⟨some 57, Op.move (Operand.tmp 10), 3, _, _, none⟩) (v := ?vq14) rfl (by kernel_rfl) (by kernel_rfl) (by kernel_rfl) (fun _ _ _ h => h) (Or.inl ⟨by rfl, fun W hW => ?_⟩) (by assumption) ?_
  rotate_left
  · go_simp
    with_reducible rfl
  try simp only [Act.put, List.setIfInBounds_toArray, List.set_cons_zero, List.set_cons_succ]
  refine wpAnyH_take (i := 18) (oi := ⟨some 58, Op.indexAddr 22 (Operand.tmp 56) (Operand.tmp 57), 0, _, _, none⟩) (v := ?vq15) rfl (by kernel_rfl) (by kernel_rfl) (by kernel_rfl) (fun _ _ _ h => h) (Or.inl ⟨by rfl, fun W hW => ?_⟩) (by assumption) ?_
  rotate_left
  · go_simp
    with_reducible rfl
  try simp only [Act.put, List.setIfInBounds_toArray, List.set_cons_zero, List.set_cons_succ]
  refine wpAnyH_take (i := 19) (oi := ⟨some 59, Op.fieldAddr 34 (Operand.tmp 58) 3, 0, _, _, none⟩) (v := ?vq16) rfl (by kernel_rfl) (by kernel_rfl) (by kernel_rfl) (fun _ _ _ h => h) (Or.inl ⟨by rfl, fun W hW => ?_⟩) (by assumption) ?_
  rotate_left
  · go_simp
    with_reducible rfl
  try simp only [Act.put, List.setIfInBounds_toArray, List.set_cons_zero, List.set_cons_succ]
  refine wpAnyH_take (i := 20) (oi := ⟨some 60, Op.load 9 (Operand.tmp 59), 9, _, _, none⟩) (v := sv ky) rfl (by kernel_rfl) (by kernel_rfl) (by kernel_rfl) (fun _ _ _ h => h) (Or.inl ⟨by rfl, fun W hW => ?_⟩) (by assumption) ?_
  · (obtain ⟨a0, a1⟩ := hW; go_simp)
  try simp only [Act.put, List.setIfInBounds_toArray, List.set_cons_zero, List.set_cons_succ]
  refine wpAnyH_ready (rs := [10]) (by kernel_rfl) (by simp) ?_
  refine AllReadyH.cons (o := ⟨some 50, Op.call { callee := Callee.value (Operand.func 11), args := #[Operand.tmp 40, Operand.tmp 44, Operand.tmp 49], argTypes := #[24, 3, 9] }, 9, _, _, none⟩) rfl (fun KK hKK => ?_) AllReadyH.nil
  refine step_callW (by rfl) 11 _ _ rfl #[.pointer (some ⟨x, 0, none⟩), .int .i64 z, sv ky] (by first | (simp [Act.eval]; done) | (simp [Act.eval, Act.put]; done)) (enters_of Try.func11 (by kernel_rfl) rfl) (duo_get2 D0 HF.out HP.out HZ.out ky HKY.out HG1.out HC1.out) ?_
  rintro e W17 ⟨rfl, hd18, -⟩
  refine ⟨_, rfl, ?_⟩
  refine hKK.out _ _ (HS.out _ hd18.k) (fun hHeld => ?_)
  clear hKK KK
  try simp only [Act.put, List.setIfInBounds_toArray, List.set_cons_zero, List.set_cons_succ]
  refine wpAnyH_ready (rs := [21]) (by kernel_rfl) (by simp) ?_
  refine AllReadyH.cons (o := ⟨some 61, Op.call { callee := Callee.value (Operand.func 11), args := #[Operand.tmp 51, Operand.tmp 55, Operand.tmp 60], argTypes := #[24, 3, 9] }, 9, _, _, none⟩) rfl (fun KK hKK => ?_) AllReadyH.nil
  refine step_callW (by rfl) 11 _ _ rfl #[.pointer (some ⟨y, 0, none⟩), .int .i64 z, sv ky] (by first | (simp [Act.eval]; done) | (simp [Act.eval, Act.put]; done)) (enters_of Try.func11 (by kernel_rfl) rfl) (duo_get2 hd18.symm HF.out HP.out HZ.out ky HKY.out HG1.out HC1.out) ?_
  rintro e W19 ⟨rfl, hd20, -⟩
  refine ⟨_, rfl, ?_⟩
  have hd21 := hd20.symm
  refine hKK.out _ _ (HS.out _ hd21.k) (fun hHeld => ?_)
  clear hKK KK
  try simp only [Act.put, List.setIfInBounds_toArray, List.set_cons_zero, List.set_cons_succ]
  refine wpAnyH_take (i := 22) (oi := ⟨some 62, Op.binOp BinOp.neq 9 (Operand.tmp 50) (Operand.tmp 61) 9, 4, _, _, none⟩) (v := .bool false) rfl (by kernel_rfl) (by kernel_rfl) (by kernel_rfl) (fun _ _ _ h => h) (Or.inl ⟨by rfl, fun W hW => ?_⟩) (by assumption) ?_
  · go_simp
  try simp only [Act.put, List.setIfInBounds_toArray, List.set_cons_zero, List.set_cons_succ]
  refine wpAnyH_take (i := 23) (oi := ⟨some 63, Op.move (Operand.tmp 62), 4, _, _, none⟩) (v := .bool false) rfl (by kernel_rfl) (by kernel_rfl) (by kernel_rfl) (fun _ _ _ h => h) (Or.inl ⟨by rfl, fun W hW => ?_⟩) (by assumption) ?_
  · go_simp
  try simp only [Act.put, List.setIfInBounds_toArray, List.set_cons_zero, List.set_cons_succ]
  refine wpAnyH_take (i := 24) (oi := ⟨some 64, Op.move (Operand.tmp 12), 24, _, _, some (23, false)⟩) (v := ?vq22) rfl (by kernel_rfl) (by kernel_rfl) (by kernel_rfl) (fun _ _ _ h => h) (Or.inl ⟨by rfl, fun W hW => ?_⟩) (by assumption) ?_
  rotate_left
  · go_simp
    with_reducible rfl
  try simp only [Act.put, List.setIfInBounds_toArray, List.set_cons_zero, List.set_cons_succ]
  refine wpAnyH_take (i := 25) (oi := ⟨some 65, Op.move (Operand.tmp 9), 36, _, _, some (23, false)⟩) (v := ?vq23) rfl (by kernel_rfl) (by kernel_rfl) (by kernel_rfl) (fun _ _ _ h => h) (Or.inl ⟨by rfl, fun W hW => ?_⟩) (by assumption) ?_
  rotate_left
  · go_simp
    with_reducible rfl
  try simp only [Act.put, List.setIfInBounds_toArray, List.set_cons_zero, List.set_cons_succ]
  refine wpAnyH_take (i := 26) (oi := ⟨some 66, Op.move (Operand.tmp 11), 3, _, _, some (23, false)⟩) (v := ?vq24) rfl (by kernel_rfl) (by kernel_rfl) (by kernel_rfl) (fun _ _ _ h => h) (Or.inl ⟨by rfl, fun W hW => ?_⟩) (by assumption) ?_
  rotate_left
  · go_simp
    with_reducible rfl
  try simp only [Act.put, List.setIfInBounds_toArray, List.set_cons_zero, List.set_cons_succ]
  refine wpAnyH_take (i := 27) (oi := ⟨some 67, Op.indexAddr 36 (Operand.tmp 65) (Operand.tmp 66), 0, _, _, some (23, false)⟩) (v := ?vq25) rfl (by kernel_rfl) (by kernel_rfl) (by kernel_rfl) (fun _ _ _ h => h) (Or.inl ⟨by rfl, fun W hW => ?_⟩) (by assumption) ?_
  rotate_left
  · go_simp
    with_reducible rfl
  try simp only [Act.put, List.setIfInBounds_toArray, List.set_cons_zero, List.set_cons_succ]
  refine wpAnyH_take (i := 28) (oi := ⟨some 68, Op.load 3 (Operand.tmp 67), 3, _, _, some (23, false)⟩) (v := .int .i64 z) rfl (by kernel_rfl) (by kernel_rfl) (by kernel_rfl) (fun _ _ _ h => h) (Or.inl ⟨by rfl, fun W hW => ?_⟩) (by assumption) ?_
  · (obtain ⟨a0, a1⟩ := hW; go_simp)
  try simp only [Act.put, List.setIfInBounds_toArray, List.set_cons_zero, List.set_cons_succ]
  refine wpAnyH_take (i := 29) (oi := ⟨some 69, Op.move (Operand.tmp 3), 22, _, _, some (23, false)⟩) (v := ?vq26) rfl (by kernel_rfl) (by kernel_rfl) (by kernel_rfl) (fun _ _ _ h => h) (Or.inl ⟨by rfl, fun W hW => ?_⟩) (by assumption) ?_
  rotate_left
  · go_simp
    with_reducible rfl
  try simp only [Act.put, List.setIfInBounds_toArray, List.set_cons_zero, List.set_cons_succ]
  refine wpAnyH_take (i := 30) (oi := ⟨some 70, Op.move (Operand.tmp 10), 3, _, _, some (23, false)⟩) (v := ?vq27) rfl (by kernel_rfl) (by kernel_rfl) (by kernel_rfl) (fun _ _ _ h => h) (Or.inl ⟨by rfl, fun W hW => ?_⟩) (by assumption) ?_
  rotate_left
  · go_simp
    with_reducible rfl
  try simp only [Act.put, List.setIfInBounds_toArray, List.set_cons_zero, List.set_cons_succ]
  refine wpAnyH_take (i := 31) (oi := ⟨some 71, Op.indexAddr 22 (Operand.tmp 69) (Operand.tmp 70), 0, _, _, some (23, false)⟩) (v := ?vq28) rfl (by kernel_rfl) (by kernel_rfl) (by kernel_rfl) (fun _ _ _ h => h) (Or.inl ⟨by rfl, fun W hW => ?_⟩) (by assumption) ?_
  rotate_left
  · go_simp
    with_reducible rfl
  try simp only [Act.put, List.setIfInBounds_toArray, List.set_cons_zero, List.set_cons_succ]
  refine wpAnyH_take (i := 32) (oi := ⟨some 72, Op.fieldAddr 34 (Operand.tmp 71) 3, 0, _, _, some (23, false)⟩) (v := ?vq29) rfl (by kernel_rfl) (by kernel_rfl) (by kernel_rfl) (fun _ _ _ h => h) (Or.inl ⟨by rfl, fun W hW => ?_⟩) (by assumption) ?_
  rotate_left
  · go_simp
    with_reducible rfl
  try simp only [Act.put, List.setIfInBounds_toArray, List.set_cons_zero, List.set_cons_succ]
  refine wpAnyH_take (i := 33) (oi := ⟨some 73, Op.load 9 (Operand.tmp 72), 9, _, _, some (23, false)⟩) (v := sv ky) rfl (by kernel_rfl) (by kernel_rfl) (by kernel_rfl) (fun _ _ _ h => h) (Or.inl ⟨by rfl, fun W hW => ?_⟩) (by assumption) ?_
  · (obtain ⟨a0, a1⟩ := hW; go_simp)
  try simp only [Act.put, List.setIfInBounds_toArray, List.set_cons_zero, List.set_cons_succ]
  refine wpAnyH_take (i := 35) (oi := ⟨some 75, Op.move (Operand.tmp 13), 24, _, _, some (23, false)⟩) (v := ?vq30) rfl (by kernel_rfl) (by kernel_rfl) (by kernel_rfl) (fun _ _ _ h => h) (Or.inl ⟨by rfl, fun W hW => ?_⟩) (by assumption) ?_
  rotate_left
  · go_simp
    with_reducible rfl
  try simp only [Act.put, List.setIfInBounds_toArray, List.set_cons_zero, List.set_cons_succ]
  refine wpAnyH_take (i := 36) (oi := ⟨some 76, Op.move (Operand.tmp 9), 36, _, _, some (23, false)⟩) (v := ?vq31) rfl (by kernel_rfl) (by kernel_rfl) (by kernel_rfl) (fun _ _ _ h => h) (Or.inl ⟨by rfl, fun W hW => ?_⟩) (by assumption) ?_
  rotate_left
  · go_simp
    with_reducible rfl
  try simp only [Act.put, List.setIfInBounds_toArray, List.set_cons_zero, List.set_cons_succ]
  refine wpAnyH_take (i := 37) (oi := ⟨some 77, Op.move (Operand.tmp 11), 3, _, _, some (23, false)⟩) (v := ?vq32) rfl (by kernel_rfl) (by kernel_rfl) (by kernel_rfl) (fun _ _ _ h => h) (Or.inl ⟨by rfl, fun W hW => ?_⟩) (by assumption) ?_
  rotate_left
  · go_simp
    with_reducible rfl
  try simp only [Act.put, List.setIfInBounds_toArray, List.set_cons_zero, List.set_cons_succ]
  refine wpAnyH_take (i := 38) (oi := ⟨some 78, Op.indexAddr 36 (Operand.tmp 76) (Operand.tmp 77), 0, _, _, some (23, false)⟩) (v := ?vq33) rfl (by kernel_rfl) (by kernel_rfl) (by kernel_rfl) (fun _ _ _ h => h) (Or.inl ⟨by rfl, fun W hW => ?_⟩) (by assumption) ?_
  rotate_left
  · go_simp
    with_reducible rfl
  try simp only [Act.put, List.setIfInBounds_toArray, List.set_cons_zero, List.set_cons_succ]
  refine wpAnyH_take (i := 39) (oi := ⟨some 79, Op.load 3 (Operand.tmp 78), 3, _, _, some (23, false)⟩) (v := .int .i64 z) rfl (by kernel_rfl) (by kernel_rfl) (by kernel_rfl) (fun _ _ _ h => h) (Or.inl ⟨by rfl, fun W hW => ?_⟩) (by assumption) ?_
  · (obtain ⟨a0, a1⟩ := hW; go_simp)
  try simp only [Act.put, List.setIfInBounds_toArray, List.set_cons_zero, List.set_cons_succ]
  refine wpAnyH_take (i := 40) (oi := ⟨some 80, Op.move (Operand.tmp 3), 22, _, _, some (23, false)⟩) (v := ?vq34) rfl (by kernel_rfl) (by kernel_rfl) (by kernel_rfl) (fun _ _ _ h => h) (Or.inl ⟨by rfl, fun W hW => ?_⟩) (by assumption) ?_
  rotate_left
  · go_simp
    with_reducible rfl
  try simp only [Act.put, List.setIfInBounds_toArray, List.set_cons_zero, List.set_cons_succ]
  refine wpAnyH_take (i := 41) (oi := ⟨some 81, Op.move (Operand.tmp 10), 3, _, _, some (23, false)⟩) (v := ?vq35) rfl (by kernel_rfl) (by kernel_rfl) (by kernel_rfl) (fun _ _ _ h => h) (Or.inl ⟨by rfl, fun W hW => ?_⟩) (by assumption) ?_
  rotate_left
  · go_simp
    with_reducible rfl
  try simp only [Act.put, List.setIfInBounds_toArray, List.set_cons_zero, List.set_cons_succ]
  refine wpAnyH_take (i := 42) (oi := ⟨some 82, Op.indexAddr 22 (Operand.tmp 80) (Operand.tmp 81), 0, _, _, some (23, false)⟩) (v := ?vq36) rfl (by kernel_rfl) (by kernel_rfl) (by kernel_rfl) (fun _ _ _ h => h) (Or.inl ⟨by rfl, fun W hW => ?_⟩) (by assumption) ?_
  rotate_left
  · go_simp
    with_reducible rfl
  try simp only [Act.put, List.setIfInBounds_toArray, List.set_cons_zero, List.set_cons_succ]
  refine wpAnyH_take (i := 43) (oi := ⟨some 83, Op.fieldAddr 34 (Operand.tmp 82) 3, 0, _, _, some (23, false)⟩) (v := ?vq37) rfl (by kernel_rfl) (by kernel_rfl) (by kernel_rfl) (fun _ _ _ h => h) (Or.inl ⟨by rfl, fun W hW => ?_⟩) (by assumption) ?_
  rotate_left
  · go_simp
    with_reducible rfl
  try simp only [Act.put, List.setIfInBounds_toArray, List.set_cons_zero, List.set_cons_succ]
  refine wpAnyH_take (i := 44) (oi := ⟨some 84, Op.load 9 (Operand.tmp 83), 9, _, _, some (23, false)⟩) (v := sv ky) rfl (by kernel_rfl) (by kernel_rfl) (by kernel_rfl) (fun _ _ _ h => h) (Or.inl ⟨by rfl, fun W hW => ?_⟩) (by assumption) ?_
  · (obtain ⟨a0, a1⟩ := hW; go_simp)
  try simp only [Act.put, List.setIfInBounds_toArray, List.set_cons_zero, List.set_cons_succ]
  refine wpAnyH_ready (rs := [34]) (by kernel_rfl) (by simp) ?_
  refine AllReadyH.cons (o := ⟨some 74, Op.call { callee := Callee.value (Operand.func 12), args := #[Operand.tmp 64, Operand.tmp 68, Operand.tmp 73], argTypes := #[24, 3, 9] }, 27, _, _, some (23, false)⟩) rfl (fun KK hKK => ?_) AllReadyH.nil
  refine step_callW (by rfl) 12 _ _ rfl #[.pointer (some ⟨x, 0, none⟩), .int .i64 z, sv ky] (by first | (simp [Act.eval]; done) | (simp [Act.eval, Act.put]; done)) (enters_of Try.func12 (by kernel_rfl) rfl) (duo_keys2 hd21 HF1.out HP.out HZ.out ky HKY.out HQ.out HC2.out) ?_
  rintro e W38 ⟨⟨v39, rfl, o40⟩, hd41, -⟩
  refine ⟨_, rfl, ?_⟩
  have hd42 := hd41.addRow o40 (by decide) (by decide) (by decide)
  refine hKK.out _ _ (HS.out _ hd42.k) (fun hHeld => ?_)
  clear hKK KK
  try simp only [Act.put, List.setIfInBounds_toArray, List.set_cons_zero, List.set_cons_succ]
  refine wpAnyH_ready (rs := [45]) (by kernel_rfl) (by simp) ?_
  refine AllReadyH.cons (o := ⟨some 85, Op.call { callee := Callee.value (Operand.func 12), args := #[Operand.tmp 75, Operand.tmp 79, Operand.tmp 84], argTypes := #[24, 3, 9] }, 27, _, _, some (23, false)⟩) rfl (fun KK hKK => ?_) AllReadyH.nil
  refine step_callW (by rfl) 12 _ _ rfl #[.pointer (some ⟨y, 0, none⟩), .int .i64 z, sv ky] (by first | (simp [Act.eval]; done) | (simp [Act.eval, Act.put]; done)) (enters_of Try.func12 (by kernel_rfl) rfl) (duo_keys2 hd42.symm HF1.out HP.out HZ.out ky HKY.out HQ.out HC2.out) ?_
  rintro e W43 ⟨⟨v44, rfl, o45⟩, hd46, kp48⟩
  refine ⟨_, rfl, ?_⟩
  have hd47 := hd46.symm
  have o49 := kp48.own o40 (fun g hg => by simp [hg])
  refine hKK.out _ _ (HS.out _ hd47.k) (fun hHeld => ?_)
  clear hKK KK
  try simp only [Act.put, List.setIfInBounds_toArray, List.set_cons_zero, List.set_cons_succ]
  refine wpAnyH_ready (rs := [46]) (by kernel_rfl) (by simp) ?_
  refine AllReadyH.cons (o := ⟨some 86, Op.call { callee := Callee.value (Operand.func 15), args := #[Operand.tmp 74, Operand.tmp 85], argTypes := #[27, 27] }, 4, _, _, some (23, false)⟩) rfl (fun KK hKK => ?_) AllReadyH.nil
  refine step_callW (by rfl) 15 _ _ rfl #[v39, v44] (by first | (simp [Act.eval]; done) | (simp [Act.eval, Act.put]; done)) (enters_of Try.func15 (by kernel_rfl) rfl) (same_eq o49 o45 HQL.out) ?_
  rintro e W50 ⟨rfl, k51⟩
  refine ⟨_, rfl, ?_⟩
  have hd52 := hd47.keep0 k51
  refine hKK.out _ _ (HS.out _ hd52.k) (fun hHeld => ?_)
  clear hKK KK
  try simp only [Act.put, List.setIfInBounds_toArray, List.set_cons_zero, List.set_cons_succ]
  refine wpAnyH_take (i := 47) (oi := ⟨some 87, Op.unOp UnOp.not 4 (Operand.tmp 86), 4, _, _, some (23, false)⟩) (v := .bool false) rfl (by kernel_rfl) (by kernel_rfl) (by kernel_rfl) (fun _ _ _ h => h) (Or.inl ⟨by rfl, fun W hW => ?_⟩) (by assumption) ?_
  · go_simp
  try simp only [Act.put, List.setIfInBounds_toArray, List.set_cons_zero, List.set_cons_succ]
  refine wpAnyH_take (i := 48) (oi := ⟨some 88, Op.pick (Operand.tmp 63) (Operand.const (Value.bool true)) (Operand.tmp 87), 4, _, _, none⟩) (v := .bool false) rfl (by kernel_rfl) (by kernel_rfl) (by kernel_rfl) (fun _ _ _ h => h) (Or.inl ⟨by rfl, fun W hW => ?_⟩) (by assumption) ?_
  · go_simp
  try simp only [Act.put, List.setIfInBounds_toArray, List.set_cons_zero, List.set_cons_succ]
  refine wpAnyH_take (i := 49) (oi := ⟨some 89, Op.move (Operand.tmp 88), 4, _, _, none⟩) (v := .bool false) rfl (by kernel_rfl) (by kernel_rfl) (by kernel_rfl) (fun _ _ _ h => h) (Or.inl ⟨by rfl, fun W hW => ?_⟩) (by assumption) ?_
  · go_simp
  try simp only [Act.put, List.setIfInBounds_toArray, List.set_cons_zero, List.set_cons_succ]
  refine wpAnyH_take (i := 50) (oi := ⟨some 90, Op.move (Operand.tmp 12), 24, _, _, some (49, false)⟩) (v := ?vq53) rfl (by kernel_rfl) (by kernel_rfl) (by kernel_rfl) (fun _ _ _ h => h) (Or.inl ⟨by rfl, fun W hW => ?_⟩) (by assumption) ?_
  rotate_left
  · go_simp
    with_reducible rfl
  try simp only [Act.put, List.setIfInBounds_toArray, List.set_cons_zero, List.set_cons_succ]
  refine wpAnyH_take (i := 51) (oi := ⟨some 91, Op.move (Operand.tmp 9), 36, _, _, some (49, false)⟩) (v := ?vq54) rfl (by kernel_rfl) (by kernel_rfl) (by kernel_rfl) (fun _ _ _ h => h) (Or.inl ⟨by rfl, fun W hW => ?_⟩) (by assumption) ?_
  rotate_left
  · go_simp
    with_reducible rfl
  try simp only [Act.put, List.setIfInBounds_toArray, List.set_cons_zero, List.set_cons_succ]
  refine wpAnyH_take (i := 52) (oi := ⟨some 92, Op.move (Operand.tmp 11), 3, _, _, some (49, false)⟩) (v := ?vq55) rfl (by kernel_rfl) (by kernel_rfl) (by kernel_rfl) (fun _ _ _ h => h) (Or.inl ⟨by rfl, fun W hW => ?_⟩) (by assumption) ?_
  rotate_left
  · go_simp
    with_reducible rfl
  try simp only [Act.put, List.setIfInBounds_toArray, List.set_cons_zero, List.set_cons_succ]
  refine wpAnyH_take (i := 53) (oi := ⟨some 93, Op.indexAddr 36 (Operand.tmp 91) (Operand.tmp 92), 0, _, _, some (49, false)⟩) (v := ?vq56) rfl (by kernel_rfl) (by kernel_rfl) (by kernel_rfl) (fun _ _ _ h => h) (Or.inl ⟨by rfl, fun W hW => ?_⟩) (by assumption) ?_
  rotate_left
  · go_simp
    with_reducible rfl
  try simp only [Act.put, List.setIfInBounds_toArray, List.set_cons_zero, List.set_cons_succ]
  refine wpAnyH_take (i := 54) (oi := ⟨some 94, Op.load 3 (Operand.tmp 93), 3, _, _, some (49, false)⟩) (v := .int .i64 z) rfl (by kernel_rfl) (by kernel_rfl) (by kernel_rfl) (fun _ _ _ h => h) (Or.inl ⟨by rfl, fun W hW => ?_⟩) (by assumption) ?_
  · (obtain ⟨a0, a1⟩ := hW; go_simp)
  try simp only [Act.put, List.setIfInBounds_toArray, List.set_cons_zero, List.set_cons_succ]
  refine wpAnyH_take (i := 55) (oi := ⟨some 95, Op.move (Operand.tmp 3), 22, _, _, some (49, false)⟩) (v := ?vq57) rfl (by kernel_rfl) (by kernel_rfl) (by kernel_rfl) (fun _ _ _ h => h) (Or.inl ⟨by rfl, fun W hW => ?_⟩) (by assumption) ?_
  rotate_left
  · go_simp
    with_reducible rfl
  try simp only [Act.put, List.setIfInBounds_toArray, List.set_cons_zero, List.set_cons_succ]
  refine wpAnyH_take (i := 56) (oi := ⟨some 96, Op.move (Operand.tmp 10), 3, _, _, some (49, false)⟩) (v := ?vq58) rfl (by kernel_rfl) (by kernel_rfl) (by kernel_rfl) (fun _ _ _ h => h) (Or.inl ⟨by rfl, fun W hW => ?_⟩) (by assumption) ?_
  rotate_left
  · go_simp
    with_reducible rfl
  try simp only [Act.put, List.setIfInBounds_toArray, List.set_cons_zero, List.set_cons_succ]
  refine wpAnyH_take (i := 57) (oi := ⟨some 97, Op.indexAddr 22 (Operand.tmp 95) (Operand.tmp 96), 0, _, _, some (49, false)⟩) (v := ?vq59) rfl (by kernel_rfl) (by kernel_rfl) (by kernel_rfl) (fun _ _ _ h => h) (Or.inl ⟨by rfl, fun W hW => ?_⟩) (by assumption) ?_
  rotate_left
  · go_simp
    with_reducible rfl
  try simp only [Act.put, List.setIfInBounds_toArray, List.set_cons_zero, List.set_cons_succ]
  refine wpAnyH_take (i := 58) (oi := ⟨some 98, Op.fieldAddr 34 (Operand.tmp 97) 3, 0, _, _, some (49, false)⟩) (v := ?vq60) rfl (by kernel_rfl) (by kernel_rfl) (by kernel_rfl) (fun _ _ _ h => h) (Or.inl ⟨by rfl, fun W hW => ?_⟩) (by assumption) ?_
  rotate_left
  · go_simp
    with_reducible rfl
  try simp only [Act.put, List.setIfInBounds_toArray, List.set_cons_zero, List.set_cons_succ]
  refine wpAnyH_take (i := 59) (oi := ⟨some 99, Op.load 9 (Operand.tmp 98), 9, _, _, some (49, false)⟩) (v := sv ky) rfl (by kernel_rfl) (by kernel_rfl) (by kernel_rfl) (fun _ _ _ h => h) (Or.inl ⟨by rfl, fun W hW => ?_⟩) (by assumption) ?_
  · (obtain ⟨a0, a1⟩ := hW; go_simp)
  try simp only [Act.put, List.setIfInBounds_toArray, List.set_cons_zero, List.set_cons_succ]
  refine wpAnyH_take (i := 61) (oi := ⟨some 101, Op.move (Operand.tmp 13), 24, _, _, some (49, false)⟩) (v := ?vq61) rfl (by kernel_rfl) (by kernel_rfl) (by kernel_rfl) (fun _ _ _ h => h) (Or.inl ⟨by rfl, fun W hW => ?_⟩) (by assumption) ?_
  rotate_left
  · go_simp
    with_reducible rfl
  try simp only [Act.put, List.setIfInBounds_toArray, List.set_cons_zero, List.set_cons_succ]
  refine wpAnyH_take (i := 62) (oi := ⟨some 102, Op.move (Operand.tmp 9), 36, _, _, some (49, false)⟩) (v := ?vq62) rfl (by kernel_rfl) (by kernel_rfl) (by kernel_rfl) (fun _ _ _ h => h) (Or.inl ⟨by rfl, fun W hW => ?_⟩) (by assumption) ?_
  rotate_left
  · go_simp
    with_reducible rfl
  try simp only [Act.put, List.setIfInBounds_toArray, List.set_cons_zero, List.set_cons_succ]
  refine wpAnyH_take (i := 63) (oi := ⟨some 103, Op.move (Operand.tmp 11), 3, _, _, some (49, false)⟩) (v := ?vq63) rfl (by kernel_rfl) (by kernel_rfl) (by kernel_rfl) (fun _ _ _ h => h) (Or.inl ⟨by rfl, fun W hW => ?_⟩) (by assumption) ?_
  rotate_left
  · go_simp
    with_reducible rfl
  try simp only [Act.put, List.setIfInBounds_toArray, List.set_cons_zero, List.set_cons_succ]
  refine wpAnyH_take (i := 64) (oi := ⟨some 104, Op.indexAddr 36 (Operand.tmp 102) (Operand.tmp 103), 0, _, _, some (49, false)⟩) (v := ?vq64) rfl (by kernel_rfl) (by kernel_rfl) (by kernel_rfl) (fun _ _ _ h => h) (Or.inl ⟨by rfl, fun W hW => ?_⟩) (by assumption) ?_
  rotate_left
  · go_simp
    with_reducible rfl
  try simp only [Act.put, List.setIfInBounds_toArray, List.set_cons_zero, List.set_cons_succ]
  refine wpAnyH_take (i := 65) (oi := ⟨some 105, Op.load 3 (Operand.tmp 104), 3, _, _, some (49, false)⟩) (v := .int .i64 z) rfl (by kernel_rfl) (by kernel_rfl) (by kernel_rfl) (fun _ _ _ h => h) (Or.inl ⟨by rfl, fun W hW => ?_⟩) (by assumption) ?_
  · (obtain ⟨a0, a1⟩ := hW; go_simp)
  try simp only [Act.put, List.setIfInBounds_toArray, List.set_cons_zero, List.set_cons_succ]
  refine wpAnyH_take (i := 66) (oi := ⟨some 106, Op.move (Operand.tmp 3), 22, _, _, some (49, false)⟩) (v := ?vq65) rfl (by kernel_rfl) (by kernel_rfl) (by kernel_rfl) (fun _ _ _ h => h) (Or.inl ⟨by rfl, fun W hW => ?_⟩) (by assumption) ?_
  rotate_left
  · go_simp
    with_reducible rfl
  try simp only [Act.put, List.setIfInBounds_toArray, List.set_cons_zero, List.set_cons_succ]
  refine wpAnyH_take (i := 67) (oi := ⟨some 107, Op.move (Operand.tmp 10), 3, _, _, some (49, false)⟩) (v := ?vq66) rfl (by kernel_rfl) (by kernel_rfl) (by kernel_rfl) (fun _ _ _ h => h) (Or.inl ⟨by rfl, fun W hW => ?_⟩) (by assumption) ?_
  rotate_left
  · go_simp
    with_reducible rfl
  try simp only [Act.put, List.setIfInBounds_toArray, List.set_cons_zero, List.set_cons_succ]
  refine wpAnyH_take (i := 68) (oi := ⟨some 108, Op.indexAddr 22 (Operand.tmp 106) (Operand.tmp 107), 0, _, _, some (49, false)⟩) (v := ?vq67) rfl (by kernel_rfl) (by kernel_rfl) (by kernel_rfl) (fun _ _ _ h => h) (Or.inl ⟨by rfl, fun W hW => ?_⟩) (by assumption) ?_
  rotate_left
  · go_simp
    with_reducible rfl
  try simp only [Act.put, List.setIfInBounds_toArray, List.set_cons_zero, List.set_cons_succ]
  refine wpAnyH_take (i := 69) (oi := ⟨some 109, Op.fieldAddr 34 (Operand.tmp 108) 3, 0, _, _, some (49, false)⟩) (v := ?vq68) rfl (by kernel_rfl) (by kernel_rfl) (by kernel_rfl) (fun _ _ _ h => h) (Or.inl ⟨by rfl, fun W hW => ?_⟩) (by assumption) ?_
  rotate_left
  · go_simp
    with_reducible rfl
  try simp only [Act.put, List.setIfInBounds_toArray, List.set_cons_zero, List.set_cons_succ]
  refine wpAnyH_take (i := 70) (oi := ⟨some 110, Op.load 9 (Operand.tmp 109), 9, _, _, some (49, false)⟩) (v := sv ky) rfl (by kernel_rfl) (by kernel_rfl) (by kernel_rfl) (fun _ _ _ h => h) (Or.inl ⟨by rfl, fun W hW => ?_⟩) (by assumption) ?_
  · (obtain ⟨a0, a1⟩ := hW; go_simp)
  try simp only [Act.put, List.setIfInBounds_toArray, List.set_cons_zero, List.set_cons_succ]
  refine wpAnyH_ready (rs := [60]) (by kernel_rfl) (by simp) ?_
  refine AllReadyH.cons (o := ⟨some 100, Op.call { callee := Callee.value (Operand.func 47), args := #[Operand.tmp 90, Operand.tmp 94, Operand.tmp 99], argTypes := #[24, 3, 9] }, 9, _, _, some (49, false)⟩) rfl (fun KK hKK => ?_) AllReadyH.nil
  refine step_callW (by rfl) 47 _ _ rfl #[.pointer (some ⟨x, 0, none⟩), .int .i64 z, sv ky] (by first | (simp [Act.eval]; done) | (simp [Act.eval, Act.put]; done)) (enters_of Try.func47 (by kernel_rfl) rfl) (own_logs2 hd52.left HZ.out ky (HP.out.k ky HKY.out) HG.out) ?_
  rintro e W69 ⟨rfl, hw70⟩
  refine ⟨_, rfl, ?_⟩
  have hd71 := hd52
  rw [← hw70] at hd71
  refine hKK.out _ _ (HS.out _ hd71.k) (fun hHeld => ?_)
  clear hKK KK
  try simp only [Act.put, List.setIfInBounds_toArray, List.set_cons_zero, List.set_cons_succ]
  refine wpAnyH_ready (rs := [71]) (by kernel_rfl) (by simp) ?_
  refine AllReadyH.cons (o := ⟨some 111, Op.call { callee := Callee.value (Operand.func 47), args := #[Operand.tmp 101, Operand.tmp 105, Operand.tmp 110], argTypes := #[24, 3, 9] }, 9, _, _, some (49, false)⟩) rfl (fun KK hKK => ?_) AllReadyH.nil
  refine step_callW (by rfl) 47 _ _ rfl #[.pointer (some ⟨y, 0, none⟩), .int .i64 z, sv ky] (by first | (simp [Act.eval]; done) | (simp [Act.eval, Act.put]; done)) (enters_of Try.func47 (by kernel_rfl) rfl) (own_logs2 hd71.right HZ.out ky (HP.out.k ky HKY.out) HG.out) ?_
  rintro e W72 ⟨rfl, hw73⟩
  refine ⟨_, rfl, ?_⟩
  have hd74 := hd71
  rw [← hw73] at hd74
  refine hKK.out _ _ (HS.out _ hd74.k) (fun hHeld => ?_)
  clear hKK KK
  try simp only [Act.put, List.setIfInBounds_toArray, List.set_cons_zero, List.set_cons_succ]
  refine wpAnyH_take (i := 72) (oi := ⟨some 112, Op.binOp BinOp.neq 9 (Operand.tmp 100) (Operand.tmp 111) 9, 4, _, _, some (49, false)⟩) (v := .bool false) rfl (by kernel_rfl) (by kernel_rfl) (by kernel_rfl) (fun _ _ _ h => h) (Or.inl ⟨by rfl, fun W hW => ?_⟩) (by assumption) ?_
  · go_simp
  try simp only [Act.put, List.setIfInBounds_toArray, List.set_cons_zero, List.set_cons_succ]
  refine wpAnyH_take (i := 73) (oi := ⟨some 113, Op.pick (Operand.tmp 89) (Operand.const (Value.bool true)) (Operand.tmp 112), 4, _, _, none⟩) (v := .bool false) rfl (by kernel_rfl) (by kernel_rfl) (by kernel_rfl) (fun _ _ _ h => h) (Or.inl ⟨by rfl, fun W hW => ?_⟩) (by assumption) ?_
  · go_simp
  try simp only [Act.put, List.setIfInBounds_toArray, List.set_cons_zero, List.set_cons_succ]
  refine wpAnyH_done (by kernel_rfl) ?_ _
  refine NoPanic.normal ?_
  exact hK _ _ _ _ _ _ _ _ _ _ _ _ _ _ _ _ _ _ _ _ _ _ _ _ _ _ _ _ _ _ _ _ _ _ _ _ _ _ _ _ _ _ _ _ _ _ _ _ _ _ _ _ _ _ _ _ _ _ _ _ _ _ _ _ _ _ _ _ _ _ _ _ _ _ hd74.k
end Go.Proofs.Ytbllmpcpfmlemaa
