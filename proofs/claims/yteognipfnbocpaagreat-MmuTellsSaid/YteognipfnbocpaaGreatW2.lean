/- Texts of elder seats, turned to this one. -/
import Derived.Test.YteognipfnbocpaaGreatW1
namespace Go.Proofs.YteognipfnbocpaaGreat
open Go.RowKit
open T12 (E TbRep)
open T13 (Tl En TlRep es)

/-- What is asked of a function that removes entries: a function value. F: what may have turned since w. -/
def RB (F : List Nat) (g : Nat) (lb : Array Value) (d : En → Bool) (w : World) : Prop :=
  ∀ (W : World) (G : List Nat) (r : Nat) (k : Tl), Keeps F w W → TlRep 95 W G r k → k.n ≤ 1000 →
    Calls Tryz.prog g (#[.pointer (some ⟨r, 0, none⟩)] ++ lb) W fun e w' => e = .returned (.int .i64 ((k.L.length : Int) - (k.drop d).L.length)) ∧ TlRep 95 w' G r (k.drop d) ∧ Keeps G W w'
theorem enters47 : ∀ (args : Array Value) (w : World), (callFunc 47 args).run Tryz.prog w = .ok (.enter 47 args) w := enters_of Tryz.func47 (by kernel_rfl) rfl
theorem enters55 : ∀ (args : Array Value) (w : World), (callFunc 55 args).run Tryz.prog w = .ok (.enter 55 args) w := enters_of Tryz.func55 (by kernel_rfl) rfl
theorem enters53 : ∀ (args : Array Value) (w : World), (callFunc 53 args).run Tryz.prog w = .ok (.enter 53 args) w := enters_of Tryz.func53 (by kernel_rfl) rfl
theorem enters56 : ∀ (args : Array Value) (w : World), (callFunc 56 args).run Tryz.prog w = .ok (.enter 56 args) w := enters_of Tryz.func56 (by kernel_rfl) rfl
theorem map_rb (F : List Nat) (w : World) (b1 b2 : Nat) (s p : Int) (h1 : Blk w b1 3 #[.int .i64 s]) (h2 : Blk w b2 3 #[.int .i64 p]) (n1 : b1 ∉ F) (n2 : b2 ∉ F) :
    RB F 47 #[.pointer (some ⟨b1, 0, none⟩), .pointer (some ⟨b2, 0, none⟩)] (fun e => e.is s p) w := by
  intro W G r k hW ht hk
  have c1 : W.cell? ⟨b1, 0, none⟩ = some (.int .i64 s) := (h1.keep hW n1).cell 0
  have c2 : W.cell? ⟨b2, 0, none⟩ = some (.int .i64 p) := (h2.keep hW n2).cell 0
  have HD := Lib.hid (T13.drop_any W G r k s p hk ht)
  show Calls Tryz.prog 47 #[.pointer (some ⟨r, 0, none⟩), .pointer (some ⟨b1, 0, none⟩), .pointer (some ⟨b2, 0, none⟩)] W _
  clear h1 h2 hW ht
  go_enter Tryz.func47, Tryz.ntmps47
  go_wp2_with fail
  refine HD.out.mono ?_
  rintro e w1 ⟨rfl, t1, k1⟩
  go_wp2
  go_ret
  exact ⟨rfl, t1, k1⟩
theorem unmap_rb (F : List Nat) (w : World) (b1 b2 : Nat) (s p : Int) (h1 : Blk w b1 3 #[.int .i64 s]) (h2 : Blk w b2 3 #[.int .i64 p]) (n1 : b1 ∉ F) (n2 : b2 ∉ F) :
    RB F 55 #[.pointer (some ⟨b1, 0, none⟩), .pointer (some ⟨b2, 0, none⟩)] (fun e => e.is s p) w := by
  intro W G r k hW ht hk
  have c1 : W.cell? ⟨b1, 0, none⟩ = some (.int .i64 s) := (h1.keep hW n1).cell 0
  have c2 : W.cell? ⟨b2, 0, none⟩ = some (.int .i64 p) := (h2.keep hW n2).cell 0
  have HD := Lib.hid (T13.drop_any W G r k s p hk ht)
  show Calls Tryz.prog 55 #[.pointer (some ⟨r, 0, none⟩), .pointer (some ⟨b1, 0, none⟩), .pointer (some ⟨b2, 0, none⟩)] W _
  clear h1 h2 hW ht
  go_enter Tryz.func55, Tryz.ntmps55
  go_wp2_with fail
  refine HD.out.mono ?_
  rintro e w1 ⟨rfl, t1, k1⟩
  go_wp2
  go_ret
  exact ⟨rfl, t1, k1⟩
theorem lose_rb (F : List Nat) (w : World) (b1 : Nat) (s : Int) (h1 : Blk w b1 3 #[.int .i64 s]) (n1 : b1 ∉ F) :
    RB F 53 #[.pointer (some ⟨b1, 0, none⟩)] (fun e => e.f == s) w := by
  intro W G r k hW ht hk
  have c1 : W.cell? ⟨b1, 0, none⟩ = some (.int .i64 s) := (h1.keep hW n1).cell 0
  have HD := Lib.hid (T13.dropFrame_any W G r k s hk ht)
  show Calls Tryz.prog 53 #[.pointer (some ⟨r, 0, none⟩), .pointer (some ⟨b1, 0, none⟩)] W _
  clear h1 hW ht
  go_enter Tryz.func53, Tryz.ntmps53
  go_wp2_with fail
  refine HD.out.mono ?_
  rintro e w1 ⟨rfl, t1, k1⟩
  go_wp2
  go_ret
  exact ⟨rfl, t1, k1⟩
theorem end_rb (F : List Nat) (w : World) (b1 : Nat) (s : Int) (h1 : Blk w b1 3 #[.int .i64 s]) (n1 : b1 ∉ F) :
    RB F 56 #[.pointer (some ⟨b1, 0, none⟩)] (fun e => e.s == s) w := by
  intro W G r k hW ht hk
  have c1 : W.cell? ⟨b1, 0, none⟩ = some (.int .i64 s) := (h1.keep hW n1).cell 0
  have HD := Lib.hid (T13.flush_any W G r k s hk ht)
  show Calls Tryz.prog 56 #[.pointer (some ⟨r, 0, none⟩), .pointer (some ⟨b1, 0, none⟩)] W _
  clear h1 hW ht
  go_enter Tryz.func56, Tryz.ntmps56
  go_wp2_with fail
  refine HD.out.mono ?_
  rintro e w1 ⟨rfl, t1, k1⟩
  go_wp2
  go_ret
  exact ⟨rfl, t1, k1⟩

/-- How many entries go. -/
def gone (d : En → Bool) : List Tl → Int
  | [] => 0
  | k :: r => ((k.L.length : Int) - (k.drop d).L.length) + gone d r
theorem gone_snoc (d : En → Bool) (l : List Tl) (k : Tl) : gone d (l ++ [k]) = gone d l + ((k.L.length : Int) - (k.drop d).L.length) := by
  induction l with
  | nil => simp [gone]
  | cons a r ih => simp only [List.cons_append, gone, ih]; omega
theorem drop_len (k : Tl) (d : En → Bool) : (k.drop d).L.length ≤ k.L.length := List.length_filter_le _ _
theorem gone_bd {d : En → Bool} {l : List Tl} (h : ∀ k ∈ l, k.L.length ≤ 1000) : 0 ≤ gone d l ∧ gone d l ≤ 1000 * l.length := by
  induction l with
  | nil => simp [gone]
  | cons a r ih =>
    have h1 := ih (fun k hk => h k (by simp [hk]))
    have h2 := h a (by simp)
    have h3 := drop_len a d
    simp only [gone, List.length_cons]
    omega
def Mm.shoot (s : Mm) (d : En → Bool) : Mm := { s with C := s.C.map (·.drop d), n := s.n + gone d s.C }
/-- The Mmu when the first j caches are done. -/
def Mm.part (s : Mm) (d : En → Bool) (j : Nat) : Mm := { s with C := (s.C.take j).map (·.drop d) ++ s.C.drop j, n := s.n + gone d (s.C.take j) }
theorem part_zero (s : Mm) (d : En → Bool) : s.part d 0 = s := by simp [Mm.part, gone]
theorem part_all (s : Mm) (d : En → Bool) : s.part d s.C.length = s.shoot d := by simp [Mm.part, Mm.shoot]
theorem part_len (s : Mm) (d : En → Bool) (j : Nat) : (s.part d j).C.length = s.C.length := by simp [Mm.part]; omega
theorem part_at {s : Mm} {d : En → Bool} {j : Nat} {k : Tl} (h : s.C[j]? = some k) : (s.part d j).C[j]? = some k := by
  have hj := (List.getElem?_eq_some_iff.1 h).1
  show ((s.C.take j).map (·.drop d) ++ s.C.drop j)[j]? = some k
  rw [List.getElem?_append_right (by simp; omega)]
  simp only [List.length_map, List.length_take, Nat.min_eq_left (by omega : j ≤ s.C.length), Nat.sub_self, List.getElem?_drop, Nat.add_zero]
  exact h
theorem part_succ {s : Mm} {d : En → Bool} {j : Nat} {k : Tl} (h : s.C[j]? = some k) :
    s.part d (j + 1) = { s.part d j with C := (s.part d j).C.set j (k.drop d), n := (s.part d j).n + ((k.L.length : Int) - (k.drop d).L.length) } := by
  obtain ⟨hj, hk⟩ := List.getElem?_eq_some_iff.1 h
  have h1 : s.C.take (j + 1) = s.C.take j ++ [k] := by rw [List.take_succ_eq_append_getElem hj, hk]
  have h2 : s.C.drop j = k :: s.C.drop (j + 1) := by rw [List.drop_eq_getElem_cons hj, hk]
  unfold Mm.part
  simp only [h1, gone_snoc, Mm.mk.injEq, true_and, and_true]
  refine ⟨?_, by omega⟩
  rw [h2, List.set_append_right _ _ (by simp; omega)]
  simp [Nat.min_eq_left (by omega : j ≤ s.C.length)]
/-- All that is asked of the Mmu: few caches, each of bounded size. -/
structure Ok (s : Mm) : Prop where
  c : s.C.length ≤ 64
  k : ∀ k ∈ s.C, k.n ≤ 1000
  n0 : 0 ≤ s.n
  n1 : s.n ≤ 1000000000
  kk : s.k ≤ 1000000

set_option maxRecDepth 100000 in
set_option maxHeartbeats 3200000 in
theorem shoot_any (w : World) (F : List Nat) (p : Nat) (s : Mm) (h : MmRep w F p s) (ok : Ok s) (g : Nat) (lb : Array Value) (d : En → Bool) (eg : ∀ args w, (callFunc g args).run Tryz.prog w = .ok (.enter g args) w) (hr : RB F g lb d w) :
    Calls Tryz.prog 46 #[.pointer (some ⟨p, 0, none⟩), .func (.func g) #[] lb] w fun e w' => e = .returned (.tuple #[]) ∧ MmNext w w' F p (s.shoot d) := by
  obtain ⟨L, b, nb, q, A, cap, c, h, hn⟩ := h
  have c1 := h.bp.cell 1
  have hC := ok.c
  obtain ⟨A', cap', hv, -, -, hA⟩ := own_shape h.bo
  obtain ⟨rfl, -, rfl⟩ : A = _ ∧ s.C.length = _ ∧ cap = _ := by injection hv with h1 h2 h3; exact ⟨h1, rfl, h3⟩
  clear hv
  have HL : Hid (∀ k ∈ s.C, k.L.length ≤ 1000) := Lib.hid (fun k hk => by
    obtain ⟨i, hi, rfl⟩ := List.getElem_of_mem hk
    obtain ⟨G, r, _, ht, _⟩ := h.cs i _ (List.getElem?_eq_getElem hi)
    have := ht.len
    have := ok.k _ hk
    omega)
  have H0 := Lib.hid h
  have OK := Lib.hid ok
  clear h ok
  go_enter Tryz.func46, Tryz.ntmps46
  go_wp2
  go_loopw [11] (fun i wr => ∃ (j : Nat) (Fj : List Nat) (Lj : Nat → Option Lb), j ≤ s.C.length ∧ i = .int .i64 j ∧ MmAt wr Fj p (s.part d j) Lj b nb q A cap c ∧ Keeps F w wr ∧ (∀ x ∈ Fj, x ∈ F)) (fun i _ => s.C.length - (intOf i).toNat)
  case atStart => exact ⟨0, F, L, by omega, rfl, by rw [part_zero]; exact H0.out, Keeps.refl _ _, fun _ h => h⟩
  case round =>
    obtain ⟨j, Fj, Lj, hj, rfl, I, kp, hF⟩ := hrel
    by_cases hlt : j < s.C.length
    · obtain ⟨a, rfl⟩ := hA (by omega)
      obtain ⟨k, hjs⟩ : ∃ k, s.C[j]? = some k := ⟨_, List.getElem?_eq_getElem hlt⟩
      have hkm := List.mem_of_getElem? hjs
      obtain ⟨G, r, hcr, ht, hG⟩ := I.cs j _ (part_at hjs)
      have ow := I.bo
      rw [part_len] at ow
      have x0 := own_cell ow (j := j) (u := .pointer (some ⟨r, 0, none⟩)) (by rw [List.getElem?_map, hcr]; rfl)
      have c2 := I.bp.cell 2
      have f2 := I.bp.frozen 2
      have hkn := OK.out.k _ hkm
      have hcall := hr wr.drew G r _ kp.drew (ht.keep ((Keeps.refl [] wr).drew) (by simp)) hkn
      have hgb := gone_bd (d := d) (l := s.C.take j) (fun k hk => HL.out k (List.mem_of_mem_take hk))
      have hdl := drop_len k d
      have hkl := HL.out _ hkm
      have hn0 := OK.out.n0
      have hn1 := OK.out.n1
      have htl : (s.C.take j).length ≤ 64 := by rw [List.length_take]; omega
      have hpn : (s.part d j).n = s.n + gone d (s.C.take j) := rfl
      have hb1 : 0 ≤ (s.part d j).n := by omega
      have hb2 : (s.part d j).n ≤ 1000064000 := by omega
      have HS := Lib.hid (part_succ (d := d) hjs)
      obtain ⟨y, hy⟩ : ∃ y : Int, y = (k.L.length : Int) - (k.drop d).L.length := ⟨_, rfl⟩
      have hy1 : 0 ≤ y := by omega
      have hy2 : y ≤ 1000 := by omega
      rw [← hy] at hcall HS
      have hpG : p ∉ G := fun hx => by have h1 := hG p hx; rw [I.lp] at h1; cases h1
      have HB := Lib.hid I.bp.drew
      have HC := Lib.hid hcall
      have HI := Lib.hid I
      have HT := Lib.hid (And.intro hjs (And.intro hcr hG))
      clear hgb hdl hkl hpn hcall I ow ht hjs hcr hG hy hr hkm
      generalize (s.part d j).n = N at *
      go_wp2_with fail
      go_region_with ((refine HC.out.mono ?_; rintro e w2 ⟨rfl, t2, k2⟩; have b2 := HB.out.keep k2 hpG; have d2 : w2.cell? ⟨p, 2, none⟩ = some (.int .i64 N) := b2.cell 2; have g2 := b2.frozen 2))
      all_goals
        have IJ := (HI.out.keep ((Keeps.refl [] wr).drew) (by simp)).cache (part_at HT.out.1) HT.out.2.1 HT.out.2.2 k2 t2 (fun x hx => .inl hx)
        have IC := IJ.count (N + y)
        have kk := (kp.drew.trans k2 (fun x hx => .inl (hF x (HI.out.inF _ _ (HT.out.2.2 x hx))))).setCell (p := ⟨p, 2, none⟩) (.inl (hF p (HI.out.inF _ _ HI.out.lp))) (.int .i64 (N + y))
        have HIC := Lib.hid IC
        clear IJ IC t2 b2
        go_wp2
        go_roundw
        case rel =>
          refine ⟨j + 1, G ++ Fj, relab Lj G (.cl j), by omega, by go_num, ?_, kk, fun x hx => (List.mem_append.1 hx).elim (fun h1 => hF x (HI.out.inF _ _ (HT.out.2.2 x h1))) (hF x)⟩
          rw [HS.out]
          exact HIC.out
        case measure => simp [intOf]; omega
    · obtain rfl : j = s.C.length := by omega
      rw [part_all] at I
      go_wp2
      go_end0
      exact ⟨rfl, Fj, ⟨Lj, b, nb, q, A, cap, c, I, hn⟩, kp, fun x hx => .inl (hF x hx)⟩
def tl0 : Tl := ⟨8, []⟩
/-- A new Mmu. -/
def mm0 (n : Nat) : Mm := ⟨fun _ => none, List.replicate n tl0, 0, 0⟩
theorem mm0_succ (n : Nat) : (mm0 (n + 1)).C = (mm0 n).C ++ [tl0] := by simp [mm0, List.replicate_succ']
theorem getElem?_snoc {α : Type} (l : List α) (x : α) (i : Nat) (y : α) (h : (l ++ [x])[i]? = some y) : l[i]? = some y ∨ (i = l.length ∧ y = x) := by
  rw [List.getElem?_append] at h
  split at h
  · exact .inl h
  · right
    have h1 := (List.getElem?_eq_some_iff.1 h).1
    simp only [List.length_singleton] at h1
    have h2 : i - l.length = 0 := by omega
    rw [h2] at h
    exact ⟨by omega, by simpa using h.symm⟩
/-- One more cache. -/
theorem MmAt.more {w w' : World} {F : List Nat} {p n : Nat} {L : Nat → Option Lb} {b nb : Nat} {q : Int → Option Nat} {A A' : Option Addr} {cap cap' : Nat} {c G : List Nat} {r : Nat} (h : MmAt w F p (mm0 n) L b nb q A cap c)
    (hp : Blk w' p 60 #[.map (some b), .slice A' (n + 1) cap', .int .i64 0]) (hk : Keeps (p :: fp (.slice A n cap)) w w') (hG : ∀ g ∈ G, L g = none) (hGA : ∀ g ∈ G, g ∉ fp (.slice A' (n + 1) cap')) (ht : TlRep 95 w' G r tl0) (ho : w'.ownsRow 0 61 1 (.slice A' (n + 1) cap') (n + 1) ((c ++ [r]).map pv)) (hA' : ∀ g ∈ fp (.slice A' (n + 1) cap'), g ∈ fp (.slice A n cap) ∨ L g = none) :
    MmAt w' (G ++ (fp (.slice A' (n + 1) cap') ++ F)) p (mm0 (n + 1)) (relab (relab L (fp (.slice A' (n + 1) cap')) .me) G (.cl n)) b nb q A' cap' (c ++ [r]) := by
  have hlen : (mm0 n).C.length = n := by simp [mm0]
  have hlen1 : (mm0 (n + 1)).C.length = n + 1 := by simp [mm0]
  have hcl := h.clen
  rw [hlen] at hcl
  have hlA := h.lA
  rw [hlen] at hlA
  have h1 : ∀ g ∈ fp (.slice A' (n + 1) cap'), L g = some .me ∨ L g = none := fun g hg => (hA' g hg).elim (fun h => .inl (hlA g h)) .inr
  have h2 : ∀ g ∈ G, relab L (fp (.slice A' (n + 1) cap')) .me g = some (.cl n) ∨ relab L (fp (.slice A' (n + 1) cap')) .me g = none := fun g hg => by
    right
    unfold relab
    rw [if_neg (hGA g hg)]
    exact hG g hg
  have off : ∀ g l, L g = some l → l ≠ .me → g ∉ p :: fp (.slice A n cap) := fun g l h3 h4 h5 => by
    have : L g = some .me := by
      rcases List.mem_cons.1 h5 with rfl | h5
      · exact h.lp
      · exact hlA g h5
    rw [this] at h3
    injection h3 with h3
    exact h4 h3.symm
  have old : ∀ g l, L g = some l → relab (relab L (fp (.slice A' (n + 1) cap')) .me) G (.cl n) g = some l := fun g l h3 => relab_old h2 (relab_old h1 h3)
  have hbA := h.b_A
  rw [hlen] at hbA
  have hbk : b ∉ p :: fp (.slice A n cap) := fun h5 => by
    rcases List.mem_cons.1 h5 with e | h5
    · exact h.p_b e
    · exact hbA h5
  have hpA' : ∀ g ∈ fp (.slice A' (n + 1) cap'), g < w'.heap.size := fun g hg => own_lt ho hg
  refine ⟨fun g l hg => ?_, fun g l hg => ?_, by rw [hlen1]; exact hp, h.bm.keep hk hbk, by rw [hlen1]; exact ho, old _ _ h.lp, old _ _ h.lb, ?_, fun _ _ => h.qn _ rfl, (fun x m hx => by cases hx), fun i k hi => ?_, h.ix, fun g hg => ?_⟩
  · unfold relab at hg
    split at hg
    · rename_i h3; exact ht.lt g h3
    · split at hg
      · rename_i h3; exact hpA' g h3
      · exact Nat.lt_of_lt_of_le (h.lt g l hg) hk.size
  · unfold relab at hg
    split at hg
    · rename_i h3; exact List.mem_append_left _ h3
    · split at hg
      · rename_i h3; exact List.mem_append_right _ (List.mem_append_left _ h3)
      · exact List.mem_append_right _ (List.mem_append_right _ (h.inF g l hg))
  · rw [hlen1]
    exact fun g hg => relab_old h2 (relab_in hg)
  · rw [mm0_succ] at hi
    rcases getElem?_snoc _ _ _ _ hi with h3 | ⟨h3, rfl⟩
    · obtain ⟨G1, r1, g1, g2, g3⟩ := h.cs i k h3
      refine ⟨G1, r1, ?_, g2.keep hk (fun g hg => off g _ (g3 g hg) (by simp)), fun g hg => old _ _ (g3 g hg)⟩
      rw [List.getElem?_append_left (List.getElem?_eq_some_iff.1 g1).1]
      exact g1
    · rw [hlen] at h3
      subst h3
      refine ⟨G, r, ?_, ht, fun g hg => relab_in hg⟩
      rw [List.getElem?_append_right (by omega), hcl]
      simp
  · rcases List.mem_append.1 hg with h3 | h3
    · exact ht.lt g h3
    · rcases List.mem_append.1 h3 with h3 | h3
      · exact hpA' g h3
      · exact Nat.lt_of_lt_of_le (h.fl g h3) hk.size
end Go.Proofs.YteognipfnbocpaaGreat
