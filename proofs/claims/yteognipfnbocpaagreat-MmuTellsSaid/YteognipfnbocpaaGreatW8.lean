/- Texts of elder seats, turned to this one. -/
import Derived.Test.YteognipfnbocpaaGreatW7
namespace Go.Proofs.YteognipfnbocpaaGreat
open Go.RowKit
open T12 (E TbRep ent mapM mapN wlkM wlkB wlkN unmM clrM clrB lookX ents cells5 c5)
open T13 (Tl En TlRep es)

/-- Used on a table: the list of entries taken one by one. -/
def usedM : List (Nat × E) → Pg → Pg
  | [], m => m
  | a :: r, m => usedM r (clrM m a.1)
def usedL : List (Nat × E) → Pg → List Int
  | [], _ => []
  | a :: r, m => cond (clrB m a.1) [a.2.fr] [] ++ usedL r (clrM m a.1)
theorem usedM_snoc (l : List (Nat × E)) (a : Nat × E) (m : Pg) : usedM (l ++ [a]) m = clrM (usedM l m) a.1 := by
  induction l generalizing m with
  | nil => rfl
  | cons b r ih => simp only [List.cons_append, usedM, ih]
theorem usedL_snoc (l : List (Nat × E)) (a : Nat × E) (m : Pg) : usedL (l ++ [a]) m = usedL l m ++ cond (clrB (usedM l m) a.1) [a.2.fr] [] := by
  induction l generalizing m with
  | nil => simp [usedL, usedM]
  | cons b r ih => simp only [List.cons_append, usedL, usedM, ih, List.append_assoc]
theorem usedL_len (l : List (Nat × E)) (m : Pg) : (usedL l m).length ≤ l.length := by
  induction l generalizing m with
  | nil => simp [usedL]
  | cons b r ih =>
    have := ih (clrM m b.1)
    simp only [usedL, List.length_append, List.length_cons]
    cases clrB m b.1 <;> simp <;> omega
def iv (l : List Int) : List Value := l.map (.int .i64)
theorem info3i : (Tryz.prog.info? 3).map (fun i => (i.zero, i.size, i.bytes)) = some (some (.int .i64 0), 1, 8) := by kernel_rfl
theorem updT_twice (t : Int → Option Pg) (x : Int) (a b : Option Pg) : updT (updT t x a) x b = updT t x b := by
  funext y
  unfold updT
  split <;> rfl
theorem setTab_twice (s : Mm) (x : Int) (a b : Pg) : (s.setTab x a).setTab x b = s.setTab x b := by
  cases h : s.t x with
  | none => rw [setTab_none h, setTab_none h]
  | some m =>
    have h2 : ({ s with t := updT s.t x (some a) } : Mm).t x = some a := by simp [updT]
    rw [setTab_some h, setTab_some h, setTab_some h2, updT_twice]
theorem FocN.entries {c : List Nat} {w0 w : World} {F0 : List Nat} {p : Nat} {s : Mm} {x : Int} {r : Nat} {m : Pg} (h : FocN c w0 F0 w p s x r m) :
    Calls Tryz.prog 39 #[.pointer (some ⟨r, 0, none⟩)] w fun e w' => ∃ v, e = .returned v ∧ w'.ownsRow 0 42 5 v (ents m 256).length (cells5 (ents m 256)) ∧ FocN c w0 F0 w' p s x r m ∧ Keeps [] w w' ∧ ∀ g ∈ fp v, w.heap.size ≤ g := by
  have hh := h
  obtain ⟨F, G, h, hk, hF, hG⟩ := h
  have ht : TbRep w G r m := by obtain ⟨L, b, nb, q, A, cap, _, _, h0, _⟩ := h; exact h0
  refine (T12.entries_any w G r m ht).mono ?_
  rintro e w1 ⟨v, rfl, o1, k1, f1⟩
  exact ⟨v, rfl, o1, hh.same k1, k1, f1⟩
def Mm.used (s : Mm) (x : Int) : Mm := s.setTab x (usedM (ents (s.tab x) 256) (s.tab x))
def Mm.usedL (s : Mm) (x : Int) : List Int := YteognipfnbocpaaGreat.usedL (ents (s.tab x) 256) (s.tab x)
theorem c5_len (a : Nat × E) : (c5 a).length = 5 := rfl
theorem cells5_at {l : List (Nat × E)} {i j : Nat} (hi : i < l.length) (hj : j < 5) : (cells5 l)[i * 5 + j]? = (c5 l[i])[j]? := by
  induction l generalizing i with
  | nil => simp at hi
  | cons a r ih =>
    show (c5 a ++ cells5 r)[i * 5 + j]? = _
    cases i with
    | zero => rw [List.getElem?_append_left (by rw [c5_len]; omega)]; simp
    | succ i =>
      rw [List.getElem?_append_right (by rw [c5_len]; omega), c5_len, show (i + 1) * 5 + j - 5 = i * 5 + j by omega]
      exact ih (by simpa using hi)
theorem ents_bd (m : Pg) : (ents m 256).length ≤ 256 := T12.ents_len m 256
theorem ents_pg (m : Pg) (n : Nat) : ∀ a ∈ ents m n, a.1 < n := by
  induction n with
  | zero => intro a h; simp [ents] at h
  | succ n ih =>
    intro a h
    cases hm : m n with
    | none => rw [T12.ents_none hm] at h; have := ih a h; omega
    | some e =>
      rw [T12.ents_some hm] at h
      rcases List.mem_append.1 h with h | h
      · have := ih a h; omega
      · simp at h; subst h; exact Nat.lt_succ_self _
/-- Used under way: k entries are done, l has come out. -/
structure UI (c : List Nat) (w0 : World) (F0 : List Nat) (p : Nat) (s : Mm) (x : Int) (r : Nat) (m : Pg) (E0 : List (Nat × E)) (Ve : Value) (k : Nat) (l : List Int) (v : Value) (F G : List Nat) (w : World) : Prop where
  f : Foc c w F p (s.setTab x (usedM (E0.take k) m)) x G r (usedM (E0.take k) m)
  k : Keeps F0 w0 w
  hF : ∀ g ∈ F, g ∈ F0 ∨ w0.heap.size ≤ g
  hG : ∀ g ∈ G, g ∈ F0 ∨ w0.heap.size ≤ g
  oe : w.ownsRow 0 42 5 Ve E0.length (cells5 E0)
  ov : w.ownsRow 0 3 1 v l.length (iv l)
  de : ∀ g ∈ fp Ve, g ∉ F ∧ g ∉ G
  dv : ∀ g ∈ fp v, g ∉ F ∧ g ∉ G ∧ w0.heap.size ≤ g
section
variable {c : List Nat} {w0 w w' : World} {F0 F G : List Nat} {p : Nat} {s : Mm} {x : Int} {r : Nat} {m : Pg} {E0 : List (Nat × E)} {Ve v : Value} {k : Nat} {l : List Int}
theorem Foc.off {w w' : World} (h : Foc c w F p s x G r m) {H : List Nat} (hk : Keeps H w w') (hH : ∀ g ∈ H, g ∉ F ∧ g ∉ G) : Foc c w' F p s x G r m := by
  obtain ⟨L, b, nb, q, A, cap, h, hn, h0, h1⟩ := h
  exact ⟨L, b, nb, q, A, cap, h.keep hk (fun g l hl h2 => (hH g h2).1 (h.inF g l hl)), hn, h0.keep hk (fun g hg h2 => (hH g h2).2 hg), h1⟩
theorem Foc.tb (h : Foc c w F p s x G r m) : TbRep w G r m := by obtain ⟨L, b, nb, q, A, cap, _, _, h0, _⟩ := h; exact h0
theorem Foc.fl (h : Foc c w F p s x G r m) : ∀ g ∈ F, g < w.heap.size := by obtain ⟨L, b, nb, q, A, cap, h, _⟩ := h; exact h.fl
theorem UI.same (h : UI c w0 F0 p s x r m E0 Ve k l v F G w) (hk : Keeps [] w w') : UI c w0 F0 p s x r m E0 Ve k l v F G w' :=
  ⟨h.f.same hk, h.k.trans hk (by simp), h.hF, h.hG, own_keep h.oe hk (by simp), own_keep h.ov hk (by simp), h.de, h.dv⟩
theorem UI.clear (h : UI c w0 F0 p s x r m E0 Ve k l v F G w) (hk : k < E0.length) (hp : ∀ a ∈ E0, a.1 < 256) :
    Calls Tryz.prog 58 #[.pointer (some ⟨r, 0, none⟩), .int .i64 (E0[k].1 : Nat)] w fun e w' => e = .returned (.bool (clrB (usedM (E0.take k) m) E0[k].1)) ∧ Keeps G w w' ∧ ∃ F', UI c w0 F0 p s x r m E0 Ve (k + 1) l v F' G w' := by
  have hb := hp _ (List.getElem_mem hk)
  refine (T12.clear_any w G r _ (E0[k].1 : Nat) h.f.tb (by omega) (by omega)).mono ?_
  rintro e w1 ⟨rfl, t1, k1⟩
  obtain ⟨F', f1, f2⟩ := h.f.turn k1 t1 (fun g hg => .inl hg)
  have e1 : E0.take (k + 1) = E0.take k ++ [E0[k]] := List.take_succ_eq_append_getElem hk
  rw [setTab_twice, ← usedM_snoc, ← e1] at f1
  refine ⟨rfl, k1, F', f1, h.k.trans k1 h.hG, fun g hg => (f2 g hg).elim (h.hF g) (h.hG g), h.hG, own_keep h.oe k1 (fun g hg => (h.de g hg).2), own_keep h.ov k1 (fun g hg => (h.dv g hg).2.1), fun g hg => ⟨fun h1 => ?_, (h.de g hg).2⟩, fun g hg => ⟨fun h1 => ?_, (h.dv g hg).2.1, (h.dv g hg).2.2⟩⟩
  · exact (f2 g h1).elim (h.de g hg).1 (h.de g hg).2
  · exact (f2 g h1).elim (h.dv g hg).1 (h.dv g hg).2.1
theorem UI.app (h : UI c w0 F0 p s x r m E0 Ve k l v F G w) {f : Int} {v' : Value} {N : Nat} (o : w'.ownsRow 0 3 1 v' (l.length + 1) (iv l ++ [.int .i64 f])) (hk : Keeps (fp v) (w.alloc (.cells #[.int .i64 f] 3)) w') (hf : ∀ g ∈ fp v', g ∈ fp v ∨ N ≤ g) (hN : w.heap.size ≤ N) :
    UI c w0 F0 p s x r m E0 Ve k (l ++ [f]) v' F G w' := by
  have h1 := h.same ((Keeps.refl [] w).alloc (.cells #[.int .i64 f] 3))
  have hne : ∀ g ∈ fp Ve, g ∉ fp v := fun g hg h2 => by
    obtain ⟨_, _, rfl, _, _, hA⟩ := own_shape h.oe
    rcases h.oe.2 with ⟨e, _⟩ | ⟨g', cap, cur, e, _, hh, _⟩
    · rw [e] at hg; simp at hg
    · rw [e] at hg
      simp at hg
      subst hg
      exact own_blk_off (e := 3) h.ov (g := g) (t := 42) (cs := cur) hh (by omega) h2
  refine ⟨h1.f.off hk (fun g hg => ⟨(h.dv g hg).1, (h.dv g hg).2.1⟩), h1.k.trans hk (fun g hg => .inr (h.dv g hg).2.2), h.hF, h.hG, own_keep h1.oe hk hne, ?_, h.de, fun g hg => ?_⟩
  · rw [List.length_append]
    unfold iv at o ⊢
    rw [List.map_append]
    exact o
  · rcases hf g hg with h2 | h2
    · exact h.dv g h2
    · have := h.k.size
      refine ⟨fun h3 => ?_, fun h3 => ?_, by omega⟩
      · have := h.f.fl g h3; omega
      · have := h.f.tb.lt g h3; omega
end
set_option maxRecDepth 100000 in
set_option maxHeartbeats 3200000 in
theorem used_any (w : World) (F : List Nat) (p : Nat) (s : Mm) (h : MmRep w F p s) (x : Int) (h1 : -9223372036854775808 ≤ x) (h2 : x ≤ 9223372036854775807) :
    Calls Tryz.prog 30 #[.pointer (some ⟨p, 0, none⟩), .int .i64 x] w fun e w' => ∃ v, e = .returned v ∧ w'.ownsRow 0 3 1 v (s.usedL x).length (iv (s.usedL x)) ∧ MmNext w w' F p (s.used x) ∧ ∀ g ∈ fp v, w.heap.size ≤ g := by
  obtain ⟨L, b, nb, q, A, cap, c, h, hn⟩ := h
  have HT := Lib.hid (table_foc w h hn x h1 h2)
  have HI3 := Lib.hid info3i
  clear h
  unfold Mm.used Mm.usedL
  generalize hm : s.tab x = m at *
  have HM := Lib.hid hm
  clear hm
  have hl := ents_bd m
  have HPG := Lib.hid (ents_pg m 256)
  generalize hE : ents m 256 = E0 at *
  have HE := Lib.hid hE
  clear hE
  go_enter Tryz.func30, Tryz.ntmps30
  go_wp2_with fail
  refine HT.out.mono ?_
  rintro e w1 ⟨r, rfl, f1, -⟩
  obtain ⟨F1, G1, f1, k1, hF1, hG1⟩ := f1
  have E1 := T12.entries_any w1 G1 r m f1.tb
  rw [HE.out] at E1
  have E2 := Lib.hid E1
  have HF1 := Lib.hid f1
  have HK1 := Lib.hid (And.intro k1 (And.intro hF1 hG1))
  clear E1 f1 HT k1 hF1 hG1
  go_wp2_with fail
  refine E2.out.mono ?_
  rintro e w2 ⟨v, rfl, o2, k2, v2⟩
  obtain ⟨Ae, ce, rfl, -, -, hA⟩ := own_shape o2
  have HU : Hid (UI c w F p s x r m E0 (.slice Ae E0.length ce) 0 (YteognipfnbocpaaGreat.usedL (E0.take 0) m) (.slice none 0 0) F1 G1 w2) := Lib.hid (by
    refine ⟨?_, HK1.out.1.trans k2 (by simp), HK1.out.2.1, HK1.out.2.2, o2, World.ownsRow_nil _ _ _ _, fun g hg => ⟨fun h => ?_, fun h => ?_⟩, by simp⟩
    · show Foc c w2 F1 p (s.setTab x m) x G1 r m
      rw [← HM.out, setTab_same, HM.out]
      exact HF1.out.same k2
    · have := HF1.out.fl g h; have := v2 g hg; omega
    · have := HF1.out.tb.lt g h; have := v2 g hg; omega)
  clear E2 HF1 HK1 o2 k2 v2
  go_wp2_with fail
  go_loopw [5, 15] (fun v i wr => ∃ (j : Nat) (F1 G1 : List Nat), j ≤ E0.length ∧ i = .int .i64 j ∧ UI c w F p s x r m E0 (.slice Ae E0.length ce) j (YteognipfnbocpaaGreat.usedL (E0.take j) m) v F1 G1 wr) (fun _ i _ => E0.length - (intOf i).toNat)
  case atStart => exact ⟨0, _, _, by omega, rfl, HU.out⟩
  case round =>
    obtain ⟨j, F1, G1, hj, rfl, I⟩ := hrel
    obtain ⟨Av, cv, rfl, -, -, -⟩ := own_shape I.ov
    have hul := usedL_len (E0.take j) m
    have htl : (E0.take j).length ≤ E0.length := by rw [List.length_take]; omega
    by_cases hlt : j < E0.length
    · obtain ⟨g, rfl⟩ := hA (by omega)
      have y0 := own_cell I.oe (j := j * 5) (u := .int .i64 (E0[j].1 : Nat)) (by rw [show j * 5 = j * 5 + 0 by omega, cells5_at hlt (by omega)]; rfl)
      have y1 := own_cell I.oe (j := j * 5 + 1) (u := .int .i64 E0[j].2.fr) (by rw [cells5_at hlt (by omega)]; rfl)
      have y2 := own_cell I.oe (j := j * 5 + 2) (u := .bool E0[j].2.wr) (by rw [cells5_at hlt (by omega)]; rfl)
      have y3 := own_cell I.oe (j := j * 5 + 3) (u := .bool E0[j].2.ac) (by rw [cells5_at hlt (by omega)]; rfl)
      have y4 := own_cell I.oe (j := j * 5 + 4) (u := .bool E0[j].2.di) (by rw [cells5_at hlt (by omega)]; rfl)
      have hpb := HPG.out _ (List.getElem_mem hlt)
      have HC := Lib.hid ((I.same ((Keeps.refl [] wr).alloc (.cells #[.int .i64 (E0[j].1 : Nat), .int .i64 E0[j].2.fr, .bool E0[j].2.wr, .bool E0[j].2.ac, .bool E0[j].2.di] 42))).clear hlt HPG.out)
      have b0 := Blk.new wr 42 #[.int .i64 (E0[j].1 : Nat), .int .i64 E0[j].2.fr, .bool E0[j].2.wr, .bool E0[j].2.ac, .bool E0[j].2.di]
      have HS : Hid (YteognipfnbocpaaGreat.usedL (E0.take (j + 1)) m = YteognipfnbocpaaGreat.usedL (E0.take j) m ++ cond (clrB (usedM (E0.take j) m) E0[j].1) [E0[j].2.fr] []) := Lib.hid (by rw [List.take_succ_eq_append_getElem hlt, usedL_snoc])
      have hiF : wr.heap.size ∉ F1 ∧ wr.heap.size ∉ G1 := ⟨fun h => by have := I.f.fl _ h; omega, fun h => by have := I.f.tb.lt _ h; omega⟩
      have HB := Lib.hid b0
      clear I b0
      generalize YteognipfnbocpaaGreat.usedL (E0.take j) m = l at *
      generalize clrB (usedM (E0.take j) m) E0[j].1 = bc at *
      go_wp2_with fail
      refine HC.out.mono ?_
      rintro e w4 ⟨rfl, k4, F4, I4⟩
      have b4 := HB.out.keep k4 hiF.2
      have z1 := b4.cell 1
      cases bc with
      | false =>
        have HI4 : Hid (UI c w F p s x r m E0 (.slice (some ⟨g, 0, none⟩) E0.length ce) (j + 1) (YteognipfnbocpaaGreat.usedL (E0.take (j + 1)) m) (.slice Av l.length cv) F4 G1 w4) := Lib.hid (by rw [HS.out]; simpa using I4)
        clear I4 HC b4 k4
        go_wp2_with fail
        go_roundw
        case rel => exact ⟨j + 1, F4, G1, by omega, by go_num, HI4.out⟩
        case measure => simp [intOf]; omega
      | true =>
        have HO := Lib.hid (own_keep I4.ov ((Keeps.refl [] _).alloc (.cells #[.int .i64 E0[j].2.fr] 3)) (by simp))
        have HI4 := Lib.hid I4
        clear I4 HC b4 k4
        go_wp2_with (at_builtin; refine wpList_app _ rfl (.tmp 23) (.tmp 26) _ rfl 3 (.int .i64 0) 1 8 Tryz.underlying30 HI3.out rfl (by omega) (.slice Av l.length cv) _ _ rfl HO.out _ _ _ _ [.int .i64 E0[j].2.fr] rfl (reads_one _ _ 3) (by simp [Value.oneCell']) (by unfold maxLen; omega) (by omega) ?_)
        intro v6 w6 o6 k6 f6
        have HF : Hid (UI c w F p s x r m E0 (.slice (some ⟨g, 0, none⟩) E0.length ce) (j + 1) (YteognipfnbocpaaGreat.usedL (E0.take (j + 1)) m) v6 F4 G1 w6) := Lib.hid (by rw [HS.out]; exact HI4.out.app o6 k6 f6 (by first | exact Nat.le_succ _ | (simp; done)))
        clear o6 k6 f6 HO HI4
        go_wp2_with fail
        go_roundw
        case rel => exact ⟨j + 1, F4, G1, by omega, by go_num, HF.out⟩
        case measure => simp [intOf]; omega
    · obtain rfl : j = E0.length := by omega
      generalize hT : E0.take E0.length = T at *
      obtain rfl : E0 = T := by rw [← hT, List.take_length]
      have HI := Lib.hid I
      clear I hT
      go_wp2
      go_ret
      have I := HI.out
      refine ⟨_, rfl, I.ov, ⟨F1, ?_, I.k, I.hF⟩, fun g hg => (I.dv g hg).2.2⟩
      have If := I.f
      rw [List.take_length] at If
      obtain ⟨L, b, nb, q, A, cap, h, hn, _⟩ := If
      exact ⟨L, b, nb, q, A, cap, c, h, hn⟩
end Go.Proofs.YteognipfnbocpaaGreat
