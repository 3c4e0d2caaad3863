/- Texts of elder seats, turned to this one. -/
import Derived.Test.YteognipfnbocpaaGreatP2
namespace Go.Proofs.YteognipfnbocpaaGreat
open Go.RowKit
open T12 (E TbRep ent unmM ents upd cells5 c5)
open T13 (Tl En TlRep es)

theorem wpList_next_p (w : World) {ops : Array Oper} {rest : List Oper} {o : Oper} {a : Act} {Q : Exit → Act → World → Prop} (hg : o.guard = none) (it : Operand) (hop : o.op = Op.next it false) (b r n : Nat) (f : Int → Option Nat) (left : Int → Bool) (cnt : Nat)
    (hit : a.eval it = .pointer (some ⟨r, 0, none⟩)) (h : PRange w b r n f left cnt) (hDone : (∀ x, left x = false) → wpList Tryz.prog ops Q rest (a.put o.dst (.tuple #[.bool false])) w)
    (hMore : ∀ x p w' cnt', left x = true → f x = some p → PRange w' b r n f (fun y => left y && !decide (y = x)) cnt' → cnt' < cnt → Keeps [r] w w' → w'.heap.size = w.heap.size →
      (Instr.entry (.pointer (some ⟨r, 0, none⟩))).run Tryz.prog w' = .ok (.tuple #[.int .i64 x, .pointer (some ⟨p, 0, none⟩)]) w' → wpList Tryz.prog ops Q rest (a.put o.dst (.tuple #[.bool true, .int .i64 x, .pointer (some ⟨p, 0, none⟩)])) w') :
    wpList Tryz.prog ops Q (o :: rest) a w := by
  refine wpList_plain hg fun K' hK' => ?_
  unfold Oper.wp
  rcases h.next o.type with ⟨h0, hrun⟩ | ⟨x, p, w', cnt', hl, hf, hrun, hr, hlt, hk, hs, hen, _⟩
  · simp [execOp, hop, hit, hrun, Result.andThen]
    exact hK' _ _ (hDone h0)
  · simp [execOp, hop, hit, hrun, Result.andThen]
    exact hK' _ _ (hMore x p w' cnt' hl hf hr hlt hk hs hen)

theorem MmAt.qsome {w : World} {F : List Nat} {p : Nat} {s : Mm} {L : Nat → Option Lb} {b nb : Nat} {q : Int → Option Nat} {A : Option Addr} {cap : Nat} {c : List Nat} (h : MmAt w F p s L b nb q A cap c) (x : Int) : (q x).isSome = (s.t x).isSome := by
  cases hx : s.t x with
  | none => rw [h.qn x hx]; rfl
  | some m => obtain ⟨G, r, h1, _⟩ := h.qs x m hx; rw [h1]; rfl
/-- The range over the tables under way. -/
structure LI (c : List Nat) (w0 : World) (F0 : List Nat) (p : Nat) (s : Mm) (fr : Int) (b nb : Nat) (q : Int → Option Nat) (A : Option Addr) (cap ri : Nat) (left : Int → Bool) (cnt : Nat) (L : Nat → Option Lb) (F : List Nat) (w : World) : Prop where
  ha : MmAt w F p { s with t := loseS fr s.t left } L b nb q A cap c
  hk : Keeps F0 w0 w
  hf : ∀ g ∈ F, g ∈ F0
  hr : PRange w b ri nb q left cnt
  hl : ∀ x, left x = true → (s.t x).isSome
/-- The entries of a table. -/
structure EL (m : Pg) (E0 : List (Nat × E)) : Prop where
  mem : ∀ a ∈ E0, a.1 < 256 ∧ m a.1 = some a.2
  fresh : ∀ j (h : j < E0.length), ∀ a ∈ E0.take j, a.1 ≠ E0[j].1
  all : ∀ fr, (∀ k, 256 ≤ k → m k = none) → loseJ fr m E0 = loseT fr m
  len : E0.length ≤ 256
theorem EL_ents (m : Pg) (n : Nat) (hn : n = 256) : EL m (ents m n) :=
  ⟨fun a ha => by have := ents_mem.1 ha; exact ⟨by omega, this.2⟩, fun j h => ents_fresh h, fun fr h => by subst hn; exact loseJ_all h, by subst hn; exact ents_bd m⟩
/-- One table under way: j of its entries are done. -/
structure LJ (c : List Nat) (w0 : World) (F0 : List Nat) (p : Nat) (s : Mm) (fr : Int) (b nb : Nat) (q : Int → Option Nat) (A : Option Addr) (cap ri : Nat) (left : Int → Bool) (cnt : Nat) (x : Int) (r : Nat) (m : Pg) (E0 : List (Nat × E)) (Ve : Value) (j : Nat) (L : Nat → Option Lb) (F G : List Nat) (w : World) : Prop where
  ha : MmAt w F p { s with t := updT (loseS fr s.t left) x (some (loseJ fr m (E0.take j))) } L b nb q A cap c
  hk : Keeps F0 w0 w
  hf : ∀ g ∈ F, g ∈ F0
  hr : PRange w b ri nb q (fun y => left y && !decide (y = x)) cnt
  hl : ∀ x, left x = true → (s.t x).isSome
  hq : q x = some r
  ht : TbRep w G r (loseJ fr m (E0.take j))
  hg : ∀ g ∈ G, L g = some (.tb x)
  oe : w.ownsRow 0 42 5 Ve E0.length (cells5 E0)
  de : ∀ g ∈ fp Ve, g ∉ F
section
variable {c : List Nat} {w0 w w' : World} {F0 F G : List Nat} {p : Nat} {s : Mm} {fr : Int} {b nb : Nat} {q : Int → Option Nat} {A : Option Addr} {cap ri : Nat} {left : Int → Bool} {cnt : Nat} {x : Int} {r : Nat} {m : Pg} {E0 : List (Nat × E)} {Ve : Value} {j : Nat} {L : Nat → Option Lb}
theorem LJ.same (h : LJ c w0 F0 p s fr b nb q A cap ri left cnt x r m E0 Ve j L F G w) (hk : Keeps [] w w') : LJ c w0 F0 p s fr b nb q A cap ri left cnt x r m E0 Ve j L F G w' :=
  ⟨h.ha.keep hk (by simp), h.hk.trans hk (by simp), h.hf, h.hr.keep hk (by simp) (by simp), h.hl, h.hq, h.ht.keep hk (by simp), h.hg, own_keep h.oe hk (by simp), h.de⟩
theorem LJ.miss (el : EL m E0) (h : LJ c w0 F0 p s fr b nb q A cap ri left cnt x r m E0 Ve j L F G w) (hj : j < E0.length) (hn : (E0[j]).2.fr ≠ fr) : LJ c w0 F0 p s fr b nb q A cap ri left cnt x r m E0 Ve (j + 1) L F G w := by
  have hm := (el.mem _ (List.getElem_mem hj)).2
  have e : loseJ fr m (E0.take (j + 1)) = loseJ fr m (E0.take j) := by
    rw [List.take_succ_eq_append_getElem hj, loseJ_snoc_ne hm (el.fresh j hj) hn]
  exact ⟨by rw [e]; exact h.ha, h.hk, h.hf, h.hr, h.hl, h.hq, by rw [e]; exact h.ht, h.hg, h.oe, h.de⟩
theorem LJ.hit (el : EL m E0) (h : LJ c w0 F0 p s fr b nb q A cap ri left cnt x r m E0 Ve j L F G w) (hri : ri ∉ F0) (hj : j < E0.length) (hn : (E0[j]).2.fr = fr) :
    Calls Tryz.prog 52 #[.pointer (some ⟨r, 0, none⟩), .int .i64 (E0[j]).1] w fun e w' => e = .returned (.bool true) ∧ Keeps F w w' ∧ ∃ L' F', LJ c w0 F0 p s fr b nb q A cap ri left cnt x r m E0 Ve (j + 1) L' F' G w' := by
  have hmem := el.mem _ (List.getElem_mem hj)
  have hm := hmem.2
  have hb := hmem.1
  have e : loseJ fr m (E0.take (j + 1)) = unmM (loseJ fr m (E0.take j)) (E0[j]).1 := by
    rw [List.take_succ_eq_append_getElem hj, loseJ_snoc_eq hm (el.fresh j hj) hn]
  have he : (ent (loseJ fr m (E0.take j)) (E0[j]).1).isSome = true := by
    rw [T12.ent_nat, loseJ_at (el.fresh j hj), hm]; rfl
  have hc := T12.unmap_any w G r _ ((E0[j]).1 : Nat) h.ht (by omega) (by omega)
  rw [he, ← e] at hc
  refine hc.mono ?_
  rintro e1 w1 ⟨rfl, t1, k1⟩
  have hGF : ∀ g ∈ G, g ∈ F := fun g hg => h.ha.inF _ _ (h.hg g hg)
  have htb := h.ha.table (x := x) (m := loseJ fr m (E0.take j)) (by simp [updT]) h.hq h.hg k1 t1 (fun g hg => .inl hg)
  simp only [updT_twice] at htb
  have hbG : b ∉ G := fun hg => by have h1 := h.hg b hg; rw [h.ha.lb] at h1; cases h1
  exact ⟨rfl, k1.mono hGF, _, G ++ F, htb, h.hk.trans k1 (fun g hg => .inl (h.hf g (hGF g hg))), fun g hg => (List.mem_append.1 hg).elim (fun h1 => h.hf g (hGF g h1)) (h.hf g), h.hr.keep k1 hbG (fun hg => hri (h.hf _ (hGF _ hg))), h.hl, h.hq, t1, fun g hg => relab_in hg, own_keep h.oe k1 (fun g hg h1 => h.de g hg (hGF g h1)), fun g hg h1 => (List.mem_append.1 h1).elim (fun h2 => h.de g hg (hGF g h2)) (h.de g hg)⟩
theorem LJ.done (el : EL m E0) (h : LJ c w0 F0 p s fr b nb q A cap ri left cnt x r m E0 Ve E0.length L F G w) (hm : s.t x = some m) (ho : ∀ k, 256 ≤ k → m k = none) : LI c w0 F0 p s fr b nb q A cap ri (fun y => left y && !decide (y = x)) cnt L F w := by
  have ha := h.ha
  rw [List.take_length, el.all _ ho, loseS_step hm] at ha
  exact ⟨ha, h.hk, h.hf, h.hr, fun y hy => h.hl y (by simp at hy; exact hy.1)⟩
end
end Go.Proofs.YteognipfnbocpaaGreat
