/- Texts of elder seats, turned to this one. -/
import Derived.Test.YteognipfnbocpaaGreatW3
import Derived.Deep.RegionHeld3
namespace Go.Proofs.YteognipfnbocpaaGreat
open Go.RowKit
open T12 (E TbRep ent mapM mapN wlkM wlkB wlkN unmM clrM clrB lookX)
open T13 (Tl En TlRep es)

/-- The table of a space that has one is turned. -/
def Mm.setTab (s : Mm) (x : Int) (m : Pg) : Mm := match s.t x with
  | none => s
  | some _ => { s with t := updT s.t x (some m) }
theorem setTab_none {s : Mm} {x : Int} (h : s.t x = none) (m : Pg) : s.setTab x m = s := by unfold Mm.setTab; rw [h]
theorem setTab_some {s : Mm} {x : Int} {m : Pg} (h : s.t x = some m) (m' : Pg) : s.setTab x m' = { s with t := updT s.t x (some m') } := by unfold Mm.setTab; rw [h]
theorem setTab_C (s : Mm) (x : Int) (m : Pg) : (s.setTab x m).C = s.C := by unfold Mm.setTab; split <;> rfl
theorem setTab_k (s : Mm) (x : Int) (m : Pg) : (s.setTab x m).k = s.k := by unfold Mm.setTab; split <;> rfl
theorem setTab_n (s : Mm) (x : Int) (m : Pg) : (s.setTab x m).n = s.n := by unfold Mm.setTab; split <;> rfl
/-- The table m of space x lies at r, blocks G; it belongs to the Mmu, or lies by itself. -/
def Foc (c : List Nat) (w : World) (F : List Nat) (p : Nat) (s : Mm) (x : Int) (G : List Nat) (r : Nat) (m : Pg) : Prop :=
  ∃ L b nb q A cap, MmAt w F p s L b nb q A cap c ∧ nb ≤ s.k ∧ TbRep w G r m ∧ ((s.t x = some m ∧ q x = some r ∧ ∀ g ∈ G, L g = some (.tb x)) ∨ (s.t x = none ∧ ∀ g ∈ G, g ∉ F))
section
variable {c : List Nat} {w w' : World} {F : List Nat} {p : Nat} {s : Mm} {x : Int} {G : List Nat} {r : Nat} {m : Pg}
theorem Foc.turn (h : Foc c w F p s x G r m) {G' : List Nat} {m' : Pg} (hk : Keeps G w w') (ht : TbRep w' G' r m') (hG' : ∀ g ∈ G', g ∈ G ∨ w.heap.size ≤ g) :
    ∃ F', Foc c w' F' p (s.setTab x m') x G' r m' ∧ ∀ g ∈ F', g ∈ F ∨ g ∈ G' := by
  obtain ⟨L, b, nb, q, A, cap, h, hn, h0, ⟨hx, hq, hG⟩ | ⟨hx, hG⟩⟩ := h
  · rw [setTab_some hx]
    refine ⟨G' ++ F, ⟨_, b, nb, q, A, cap, h.table hx hq hG hk ht hG', hn, ht, .inl ⟨by simp [updT], hq, fun g hg => relab_in hg⟩⟩, fun g hg => ?_⟩
    rcases List.mem_append.1 hg with h1 | h1
    · exact .inr h1
    · exact .inl h1
  · rw [setTab_none hx]
    refine ⟨F, ⟨L, b, nb, q, A, cap, h.keep hk (fun g l hl h1 => hG g h1 (h.inF g l hl)), hn, ht, .inr ⟨hx, fun g hg h1 => ?_⟩⟩, fun g hg => .inl hg⟩
    rcases hG' g hg with h2 | h2
    · exact hG g h2 h1
    · have := h.fl g h1; omega
theorem Foc.cache (h : Foc c w F p s x G r m) {i : Nat} {k k' : Tl} {H H' : List Nat} {rc : Nat} (hi : s.C[i]? = some k) (hr : c[i]? = some rc) (hH : ∀ L b nb q A cap, MmAt w F p s L b nb q A cap c → ∀ g ∈ H, L g = some (.cl i)) (hk : Keeps H w w') (ht : TlRep 95 w' H' rc k') (hH' : ∀ g ∈ H', g ∈ H ∨ w.heap.size ≤ g) :
    Foc c w' (H' ++ F) p { s with C := s.C.set i k' } x G r m := by
  obtain ⟨L, b, nb, q, A, cap, h, hn, h0, h1⟩ := h
  have hl := hH L b nb q A cap h
  refine ⟨_, b, nb, q, A, cap, h.cache hi hr hl hk ht hH', hn, ?_, ?_⟩
  · refine h0.keep hk (fun g hg h2 => ?_)
    rcases h1 with ⟨_, _, hG⟩ | ⟨_, hG⟩
    · have e1 := hG g hg
      rw [hl g h2] at e1
      cases e1
    · exact hG g hg (h.inF _ _ (hl g h2))
  · rcases h1 with ⟨hx, hq, hG⟩ | ⟨hx, hG⟩
    · refine .inl ⟨hx, hq, fun g hg => ?_⟩
      refine relab_old (fun g hg => ?_) (hG g hg)
      rcases hH' g hg with h2 | h2
      · exact .inl (hl g h2)
      · right
        cases hL : L g with
        | none => rfl
        | some l => have := h.lt g l hL; omega
    · refine .inr ⟨hx, fun g hg h2 => ?_⟩
      rcases List.mem_append.1 h2 with h2 | h2
      · rcases hH' g h2 with h3 | h3
        · exact hG g hg (h.inF _ _ (hl g h3))
        · have := h0.lt g hg; omega
      · exact hG g hg h2
theorem Foc.same (h : Foc c w F p s x G r m) (hk : Keeps [] w w') : Foc c w' F p s x G r m := by
  obtain ⟨L, b, nb, q, A, cap, h, hn, h0, h1⟩ := h
  exact ⟨L, b, nb, q, A, cap, h.keep hk (by simp), hn, h0.keep hk (by simp), h1⟩
end
/-- .. told from where a method began (w0, F0). -/
def FocN (c : List Nat) (w0 : World) (F0 : List Nat) (w : World) (p : Nat) (s : Mm) (x : Int) (r : Nat) (m : Pg) : Prop :=
  ∃ F G, Foc c w F p s x G r m ∧ Keeps F0 w0 w ∧ (∀ g ∈ F, g ∈ F0 ∨ w0.heap.size ≤ g) ∧ ∀ g ∈ G, g ∈ F0 ∨ w0.heap.size ≤ g
section
variable {c : List Nat} {w0 w w' : World} {F0 : List Nat} {p : Nat} {s : Mm} {x : Int} {r : Nat} {m : Pg}
theorem FocN.next (h : FocN c w0 F0 w p s x r m) : MmNext w0 w F0 p s := by
  obtain ⟨F, G, ⟨L, b, nb, q, A, cap, h, hn, _⟩, hk, hF, _⟩ := h
  exact ⟨F, ⟨L, b, nb, q, A, cap, c, h, hn⟩, hk, hF⟩
theorem FocN.same (h : FocN c w0 F0 w p s x r m) (hk : Keeps [] w w') : FocN c w0 F0 w' p s x r m := by
  obtain ⟨F, G, h, h1, h2, h3⟩ := h
  exact ⟨F, G, h.same hk, h1.trans hk (by simp), h2, h3⟩
theorem FocN.walk (h : FocN c w0 F0 w p s x r m) (pg : Int) (wr : Bool) (h1 : -9223372036854775808 ≤ pg) (h2 : pg ≤ 9223372036854775807) :
    Calls Tryz.prog 50 #[.pointer (some ⟨r, 0, none⟩), .int .i64 pg, .bool wr] w fun e w' => e = .returned (.tuple #[.int .i64 (wlkN m pg wr), .bool (wlkB m pg wr)]) ∧ FocN c w0 F0 w' p (s.setTab x (wlkM m pg wr)) x r (wlkM m pg wr) := by
  obtain ⟨F, G, h, hk, hF, hG⟩ := h
  have ht : TbRep w G r m := by obtain ⟨L, b, nb, q, A, cap, _, _, h0, _⟩ := h; exact h0
  refine (T12.walk_any w G r m pg wr ht h1 h2).mono ?_
  rintro e w1 ⟨rfl, t1, k1⟩
  obtain ⟨F', f1, f2⟩ := h.turn k1 t1 (fun g hg => .inl hg)
  exact ⟨rfl, F', G, f1, hk.trans k1 hG, fun g hg => (f2 g hg).elim (hF g) (hG g), hG⟩
theorem FocN.unmap (h : FocN c w0 F0 w p s x r m) (pg : Int) (h1 : -9223372036854775808 ≤ pg) (h2 : pg ≤ 9223372036854775807) :
    Calls Tryz.prog 52 #[.pointer (some ⟨r, 0, none⟩), .int .i64 pg] w fun e w' => e = .returned (.bool (ent m pg).isSome) ∧ FocN c w0 F0 w' p (s.setTab x (unmM m pg)) x r (unmM m pg) := by
  obtain ⟨F, G, h, hk, hF, hG⟩ := h
  have ht : TbRep w G r m := by obtain ⟨L, b, nb, q, A, cap, _, _, h0, _⟩ := h; exact h0
  refine (T12.unmap_any w G r m pg ht h1 h2).mono ?_
  rintro e w1 ⟨rfl, t1, k1⟩
  obtain ⟨F', f1, f2⟩ := h.turn k1 t1 (fun g hg => .inl hg)
  exact ⟨rfl, F', G, f1, hk.trans k1 hG, fun g hg => (f2 g hg).elim (hF g) (hG g), hG⟩
theorem FocN.clear (h : FocN c w0 F0 w p s x r m) (pg : Int) (h1 : -9223372036854775808 ≤ pg) (h2 : pg ≤ 9223372036854775807) :
    Calls Tryz.prog 58 #[.pointer (some ⟨r, 0, none⟩), .int .i64 pg] w fun e w' => e = .returned (.bool (clrB m pg)) ∧ FocN c w0 F0 w' p (s.setTab x (clrM m pg)) x r (clrM m pg) := by
  obtain ⟨F, G, h, hk, hF, hG⟩ := h
  have ht : TbRep w G r m := by obtain ⟨L, b, nb, q, A, cap, _, _, h0, _⟩ := h; exact h0
  refine (T12.clear_any w G r m pg ht h1 h2).mono ?_
  rintro e w1 ⟨rfl, t1, k1⟩
  obtain ⟨F', f1, f2⟩ := h.turn k1 t1 (fun g hg => .inl hg)
  exact ⟨rfl, F', G, f1, hk.trans k1 hG, fun g hg => (f2 g hg).elim (hF g) (hG g), hG⟩
theorem FocN.tlook (h : FocN c w0 F0 w p s x r m) (pg : Int) (h1 : -9223372036854775808 ≤ pg) (h2 : pg ≤ 9223372036854775807) :
    Calls Tryz.prog 41 #[.pointer (some ⟨r, 0, none⟩), .int .i64 pg] w fun e w' => e = .returned (.tuple #[pteV (lookX m pg), .bool (ent m pg).isSome]) ∧ FocN c w0 F0 w' p s x r m ∧ Keeps [] w w' := by
  have hh := h
  obtain ⟨F, G, h, hk, hF, hG⟩ := h
  have ht : TbRep w G r m := by obtain ⟨L, b, nb, q, A, cap, _, _, h0, _⟩ := h; exact h0
  refine (T12.look_any2 w G r m pg ht h1 h2).mono ?_
  rintro e w1 ⟨rfl, t1, k1⟩
  exact ⟨rfl, hh.same k1, k1⟩
theorem FocN.cacheRep (h : FocN c w0 F0 w p s x r m) {i : Nat} {k : Tl} (hi : s.C[i]? = some k) : ∃ H rc, c[i]? = some rc ∧ TlRep 95 w H rc k ∧ ∀ F, ∀ L b nb q A cap, MmAt w F p s L b nb q A cap c → (∀ g ∈ H, L g = some (.cl i)) := by
  obtain ⟨F, G, ⟨L, b, nb, q, A, cap, h, hn, _⟩, hk, hF, _⟩ := h
  obtain ⟨H, rc, h1, h2, h3⟩ := h.cs i k hi
  refine ⟨H, rc, h1, h2, fun F' L' b' nb' q' A' cap' h' => ?_⟩
  obtain ⟨H', rc', h1', h2', h3'⟩ := h'.cs i k hi
  rw [h1] at h1'
  injection h1' with e
  subst e
  obtain ⟨A1, cap1, a1⟩ := h2
  obtain ⟨A2, cap2, a2⟩ := h2'
  have e := a1.b.eq_ a2.b
  injection e with e
  injection e with _ e
  injection e with e _
  injection e with e1 _ e2
  subst e1 e2
  have : H = H' := by rw [a1.f, a2.f]
  rw [this]
  exact h3'
theorem FocN.cturn (h : FocN c w0 F0 w p s x r m) {i : Nat} {k k' : Tl} {H : List Nat} {rc : Nat} (hi : s.C[i]? = some k) (hr : c[i]? = some rc) (hH : ∀ F, ∀ L b nb q A cap, MmAt w F p s L b nb q A cap c → ∀ g ∈ H, L g = some (.cl i)) (hn : T13.Next 95 w w' H rc k') :
    FocN c w0 F0 w' p { s with C := s.C.set i k' } x r m := by
  obtain ⟨F, G, h, hk, hF, hG⟩ := h
  obtain ⟨H', ht, k1, hH'⟩ := hn
  have hs := hk.size
  have hHF : ∀ g ∈ H, g ∈ F := by
    obtain ⟨L, b, nb, q, A, cap, h, _⟩ := h
    exact fun g hg => h.inF _ _ (hH F L b nb q A cap h g hg)
  refine ⟨H' ++ F, G, h.cache hi hr (hH F) k1 ht hH', hk.trans k1 (fun g hg => hF g (hHF g hg)), fun g hg => ?_, hG⟩
  rcases List.mem_append.1 hg with h1 | h1
  · rcases hH' g h1 with h2 | h2
    · exact hF g (hHF g h2)
    · right; omega
  · exact hF g h1
theorem FocN.clook (h : FocN c w0 F0 w p s x r m) {i : Nat} {k : Tl} {rc : Nat} (hi : s.C[i]? = some k) (hr : c[i]? = some rc) (hk : k.n ≤ 1000) (a b : Int) (wr : Bool) :
    Calls Tryz.prog 49 #[.pointer (some ⟨rc, 0, none⟩), .int .i64 a, .int .i64 b, .bool wr] w fun e w' => e = .returned (.tuple #[.int .i64 (k.lookR a b wr).1, .bool (k.lookR a b wr).2]) ∧ FocN c w0 F0 w' p { s with C := s.C.set i (k.look a b wr) } x r m := by
  obtain ⟨H, rc', h1, h2, h3⟩ := h.cacheRep hi
  rw [hr] at h1
  injection h1 with e
  subst e
  refine (T13.look_any w H rc k a b wr hk h2).mono ?_
  rintro e w1 ⟨rfl, n1⟩
  exact ⟨rfl, h.cturn hi hr h3 n1⟩
theorem FocN.cfill (h : FocN c w0 F0 w p s x r m) {i : Nat} {k : Tl} {rc : Nat} (hi : s.C[i]? = some k) (hr : c[i]? = some rc) (hk : k.n ≤ 1000) (en : En) :
    Calls Tryz.prog 51 #[.pointer (some ⟨rc, 0, none⟩), .int .i64 en.s, .int .i64 en.p, .int .i64 en.f, .bool en.w] w fun e w' => e = .returned (.tuple #[]) ∧ FocN c w0 F0 w' p { s with C := s.C.set i (k.fill en) } x r m := by
  obtain ⟨H, rc', h1, h2, h3⟩ := h.cacheRep hi
  rw [hr] at h1
  injection h1 with e
  subst e
  refine (T13.fill_any w H rc k en hk h2).mono ?_
  rintro e w1 ⟨rfl, n1⟩
  exact ⟨rfl, h.cturn hi hr h3 n1⟩
end
/-- table, with the table in the hand. -/
theorem table_foc {c : List Nat} {F : List Nat} {p : Nat} {s : Mm} {L : Nat → Option Lb} {b nb : Nat} {q : Int → Option Nat} {A : Option Addr} {cap : Nat} (w : World) (h : MmAt w F p s L b nb q A cap c) (hn : nb ≤ s.k) (x : Int) (h1 : -9223372036854775808 ≤ x) (h2 : x ≤ 9223372036854775807) :
    Calls Tryz.prog 40 #[.pointer (some ⟨p, 0, none⟩), .int .i64 x] w fun e w' => ∃ r, e = .returned (.pointer (some ⟨r, 0, none⟩)) ∧ FocN c w F w' p s x r (s.tab x) ∧ Keeps [] w w' := by
  cases hx : s.t x with
  | none =>
    refine (table_none w h x (h.qn x hx) h1 h2).mono ?_
    rintro e w1 ⟨G, r, rfl, h3, h4, h5⟩
    have et : s.tab x = pg0 := by unfold Mm.tab; rw [hx]; rfl
    rw [et]
    exact ⟨r, rfl, ⟨F, G, ⟨L, b, nb, q, A, cap, h.keep h4 (by simp), hn, h3, .inr ⟨hx, fun g hg hf => by have := h.fl g hf; have := h5 g hg; omega⟩⟩, h4.mono (by simp), fun g hg => .inl hg, fun g hg => .inr (h5 g hg)⟩, h4⟩
  | some m =>
    obtain ⟨G, r, hr, ht, hl⟩ := h.qs x m hx
    refine (table_some w h x r hr h1 h2).mono ?_
    rintro e w1 ⟨rfl, rfl⟩
    have et : s.tab x = m := by unfold Mm.tab; rw [hx]; rfl
    rw [et]
    exact ⟨r, rfl, ⟨F, G, ⟨L, b, nb, q, A, cap, h, hn, ht, .inl ⟨hx, hr, hl⟩⟩, Keeps.refl _ _, fun g hg => .inl hg, fun g hg => .inl (h.inF _ _ (hl g hg))⟩, Keeps.refl _ _⟩
end Go.Proofs.YteognipfnbocpaaGreat
