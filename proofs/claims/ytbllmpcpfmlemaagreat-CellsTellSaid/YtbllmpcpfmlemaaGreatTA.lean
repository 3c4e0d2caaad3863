/- The texts T1, T2, T3, T4, T5 in one. -/
import Derived.Test.YtbllmpcpfmlemaaGreatZB
import Derived.Test.YtbllmpcpfmlemaaGreatSh
namespace Go.Proofs.YtbllmpcpfmlemaaGreat
open Go.RowKit
/-- The place of the first that p holds of, or -1. -/
def fi {α : Type} (p : α → Bool) (l : List α) : Int := match l.findIdx? p with
  | some i => i
  | none => -1
theorem fi_at {α : Type} {p : α → Bool} {l : List α} {i : Nat} (h : i < l.length) (hp : p l[i] = true) (hlt : ∀ j (hj : j < l.length), j < i → p l[j] = false) : fi p l = i := by
  unfold fi
  have : l.findIdx? p = some i := by
    rw [List.findIdx?_eq_some_iff_getElem]
    exact ⟨h, hp, fun j hj => by simp [hlt j (by omega) hj]⟩
  rw [this]
theorem fi_none {α : Type} {p : α → Bool} {l : List α} (h : ∀ j (hj : j < l.length), p l[j] = false) : fi p l = -1 := by
  unfold fi
  have : l.findIdx? p = none := by
    rw [List.findIdx?_eq_none_iff]
    intro x hx
    obtain ⟨j, hj, rfl⟩ := List.mem_iff_getElem.1 hx
    exact h j hj
  rw [this]
theorem mget_at {wr : List (Str × Str)} {k : Str} {i : Nat} (h : i < wr.length) (hp : wr[i].1 = k) (hlt : ∀ j (hj : j < wr.length), j < i → wr[j].1 ≠ k) : mget wr k = some wr[i].2 := by
  induction wr generalizing i with
  | nil => simp at h
  | cons e r ih =>
    obtain ⟨a, v⟩ := e
    rw [mget]
    cases i with
    | zero => rw [if_pos (by simpa using hp)]; rfl
    | succ i =>
      rw [if_neg (show ¬ a = k from hlt 0 (by simp) (by omega))]
      exact ih (by simpa using h) (by simpa using hp) (fun j hj hji => hlt (j + 1) (by simpa using hj) (by omega))
theorem mget_no {wr : List (Str × Str)} {k : Str} (h : ∀ j (hj : j < wr.length), wr[j].1 ≠ k) : mget wr k = none := by
  rw [mget_none]
  intro hm
  obtain ⟨e, he, rfl⟩ := List.mem_map.1 hm
  obtain ⟨j, hj, rfl⟩ := List.mem_iff_getElem.1 he
  exact h j hj rfl
/-- The place of a read, or -1. -/
def rdP (kd : Int) (k : Str) (r : Rd) : Bool := decide (kindR r = kd) && decide (keyR r = k)
def rdIx (kd : Int) (k : Str) (l : List Rd) : Int := fi (rdP kd k) l
theorem fi_cons {α : Type} (p : α → Bool) (x : α) (l : List α) : fi p (x :: l) = if p x = true then 0 else if fi p l = -1 then -1 else fi p l + 1 := by
  unfold fi
  rw [List.findIdx?_cons]
  by_cases hx : p x = true
  · rw [if_pos hx, if_pos hx]; rfl
  · rw [if_neg hx, if_neg hx]
    cases h : l.findIdx? p with
    | none => rfl
    | some i =>
      simp
      try omega
theorem fi_range {α : Type} (p : α → Bool) (l : List α) : fi p l = -1 ∨ (0 ≤ fi p l ∧ fi p l < l.length) := by
  unfold fi
  cases h : l.findIdx? p with
  | none => exact .inl rfl
  | some i =>
    rw [List.findIdx?_eq_some_iff_getElem] at h
    obtain ⟨h, _⟩ := h
    exact .inr ⟨by simp, by simp; exact h⟩
theorem rdIx_cell (k : Str) (l : List Rd) : (cellOf l k = none ∧ rdIx 0 k l = -1) ∨ ∃ i, ∃ h : i < l.length, rdIx 0 k l = (i : Nat) ∧ cellOf l k = some (valR l[i]) := by
  unfold rdIx
  induction l with
  | nil => exact .inl ⟨rfl, rfl⟩
  | cons r l ih =>
    rw [fi_cons]
    cases r with
    | cell a v =>
      rw [cellOf]
      by_cases ha : a = k
      · refine .inr ⟨0, by simp, ?_, ?_⟩
        · rw [if_pos (by simp [rdP, kindR, keyR, ha])]; rfl
        · rw [if_pos ha]; rfl
      · rw [if_neg ha, if_neg (by simp [rdP, kindR, keyR, ha])]
        rcases ih with ⟨h1, h2⟩ | ⟨i, hi, h1, h2⟩
        · exact .inl ⟨h1, by rw [if_pos h2]⟩
        · exact .inr ⟨i + 1, by simpa using hi, by rw [if_neg (by rw [h1]; omega), h1]; rfl, by simpa using h2⟩
    | keys a v =>
      rw [cellOf, if_neg (by simp [rdP, kindR])]
      rcases ih with ⟨h1, h2⟩ | ⟨i, hi, h1, h2⟩
      · exact .inl ⟨h1, by rw [if_pos h2]⟩
      · exact .inr ⟨i + 1, by simpa using hi, by rw [if_neg (by rw [h1]; omega), h1]; rfl, by simpa using h2⟩
theorem rdIx_keys (k : Str) (l : List Rd) : (keysOf l k = none ∧ rdIx 1 k l = -1) ∨ ∃ i, ∃ h : i < l.length, rdIx 1 k l = (i : Nat) ∧ keysOf l k = some (lstR l[i]) := by
  unfold rdIx
  induction l with
  | nil => exact .inl ⟨rfl, rfl⟩
  | cons r l ih =>
    rw [fi_cons]
    cases r with
    | keys a v =>
      rw [keysOf]
      by_cases ha : a = k
      · refine .inr ⟨0, by simp, ?_, ?_⟩
        · rw [if_pos (by simp [rdP, kindR, keyR, ha])]; rfl
        · rw [if_pos ha]; rfl
      · rw [if_neg ha, if_neg (by simp [rdP, kindR, keyR, ha])]
        rcases ih with ⟨h1, h2⟩ | ⟨i, hi, h1, h2⟩
        · exact .inl ⟨h1, by rw [if_pos h2]⟩
        · exact .inr ⟨i + 1, by simpa using hi, by rw [if_neg (by rw [h1]; omega), h1]; rfl, by simpa using h2⟩
    | cell a v =>
      rw [keysOf, if_neg (by simp [rdP, kindR])]
      rcases ih with ⟨h1, h2⟩ | ⟨i, hi, h1, h2⟩
      · exact .inl ⟨h1, by rw [if_pos h2]⟩
      · exact .inr ⟨i + 1, by simpa using hi, by rw [if_neg (by rw [h1]; omega), h1]; rfl, by simpa using h2⟩
/-- The reads l lie at v; all their rows in the blocks G. -/
def RdG (w : World) (v : Value) (l : List Rd) (G : List Nat) : Prop :=
  ∃ xs : List Value, w.ownsRow 0 34 4 v l.length xs ∧ (∀ g ∈ fp v, g ∈ G) ∧ ∀ k (h : k < l.length), xs[k * 4]? = some (.int .i64 (kindR l[k])) ∧ xs[k * 4 + 1]? = some (sv (keyR l[k])) ∧ xs[k * 4 + 2]? = some (sv (valR l[k])) ∧
    ∃ u, xs[k * 4 + 3]? = some u ∧ w.ownsRow 0 9 1 u (lstR l[k]).length (vs (lstR l[k])) ∧ ∀ g ∈ fp u, g ∈ G
theorem RdG.at_ {w : World} {v : Value} {l : List Rd} {G : List Nat} (h : RdG w v l G) : RdAt w v l := by
  obtain ⟨xs, h1, _, h2⟩ := h
  refine ⟨xs, h1, fun k hk => ?_⟩
  obtain ⟨a, b, c, u, d, e, _⟩ := h2 k hk
  exact ⟨a, b, c, u, d, e⟩
theorem RdG.keep {w w' : World} {v : Value} {l : List Rd} {G K : List Nat} (h : RdG w v l G) (hk : Keeps K w w') (hd : ∀ g ∈ G, g ∉ K) : RdG w' v l G := by
  obtain ⟨xs, h1, h0, h2⟩ := h
  refine ⟨xs, own_keep h1 hk (fun g hg => hd g (h0 g hg)), h0, fun k hl => ?_⟩
  obtain ⟨a, b, c, u, d, e, f⟩ := h2 k hl
  exact ⟨a, b, c, u, d, own_keep e hk (fun g hg => hd g (f g hg)), f⟩
theorem RdG.mono {w : World} {v : Value} {l : List Rd} {G G' : List Nat} (h : RdG w v l G) (hs : ∀ g ∈ G, g ∈ G') : RdG w v l G' := by
  obtain ⟨xs, h1, h0, h2⟩ := h
  refine ⟨xs, h1, fun g hg => hs g (h0 g hg), fun k hl => ?_⟩
  obtain ⟨a, b, c, u, d, e, f⟩ := h2 k hl
  exact ⟨a, b, c, u, d, e, fun g hg => hs g (f g hg)⟩
/-- Where one's rows lie: what was written, read, logged. -/
abbrev Mr := Value × Value × Value
structure OneV (w : World) (m : Mr) (x : One) (G : List Nat) : Prop where
  wr : w.ownsRow 0 88 2 m.1 x.wr.length (rw pc x.wr)
  rd : RdG w m.2.1 x.rd G
  lg : w.ownsRow 0 96 2 m.2.2 x.lg.length (rw pc x.lg)
  gw : ∀ g ∈ fp m.1, g ∈ G
  gl : ∀ g ∈ fp m.2.2, g ∈ G
theorem OneV.keep {w w' : World} {m : Mr} {x : One} {G K : List Nat} (h : OneV w m x G) (hk : Keeps K w w') (hd : ∀ g ∈ G, g ∉ K) : OneV w' m x G :=
  ⟨own_keep h.wr hk (fun g hg => hd g (h.gw g hg)), h.rd.keep hk hd, own_keep h.lg hk (fun g hg => hd g (h.gl g hg)), h.gw, h.gl⟩
theorem OneV.keep0 {w w' : World} {m : Mr} {x : One} {G : List Nat} (h : OneV w m x G) (hk : Keeps [] w w') : OneV w' m x G := h.keep hk (by simp)
theorem OneV.mono {w : World} {m : Mr} {x : One} {G G' : List Nat} (h : OneV w m x G) (hs : ∀ g ∈ G, g ∈ G') : OneV w m x G' :=
  ⟨h.wr, h.rd.mono hs, h.lg, fun g hg => hs g (h.gw g hg), fun g hg => hs g (h.gl g hg)⟩
def oc (ms : Int → Mr) (x : One) : List Value := [.int .i64 x.id, .int .i64 x.par, (ms x.id).1, (ms x.id).2.1, (ms x.id).2.2]
theorem oc_len (ms : Int → Mr) (x : One) : (oc ms x).length = 5 := rfl
structure RfM (w : World) (d : Nat) (A : Option Addr) (cap : Nat) (ms : Int → Mr) (F G : List Nat) (C : St) : Prop where
  b : Blk w d 71 #[.slice A C.length cap]
  row : w.ownsRow 0 68 5 (.slice A C.length cap) C.length (rw (oc ms) C.reverse)
  one : ∀ x ∈ C, OneV w (ms x.id) x G
  dF : d ∈ F
  rF : ∀ g ∈ fp (.slice A C.length cap), g ∈ F
  ltF : ∀ g ∈ F, g < w.heap.size
  ltG : ∀ g ∈ G, g < w.heap.size
  off : ∀ g ∈ G, g ∉ F
/-- The reference d with the state C; F its own blocks, G the rows. -/
def Rf (w : World) (d : Nat) (F G : List Nat) (C : St) : Prop := ∃ A cap ms, RfM w d A cap ms F G C
theorem RfM.keep {w w' : World} {d : Nat} {A : Option Addr} {cap : Nat} {ms : Int → Mr} {F G K : List Nat} {C : St} (h : RfM w d A cap ms F G C) (hk : Keeps K w w') (hF : ∀ g ∈ K, g ∉ F) (hG : ∀ g ∈ K, g ∉ G) : RfM w' d A cap ms F G C :=
  ⟨h.b.keep hk (fun h' => hF _ h' h.dF), own_keep h.row hk (fun g hg h' => hF g h' (h.rF g hg)), fun x hx => (h.one x hx).keep hk (fun g hg h' => hG g h' hg), h.dF, h.rF,
    fun g hg => Nat.lt_of_lt_of_le (h.ltF g hg) hk.size, fun g hg => Nat.lt_of_lt_of_le (h.ltG g hg) hk.size, h.off⟩
theorem RfM.keep0 {w w' : World} {d : Nat} {A : Option Addr} {cap : Nat} {ms : Int → Mr} {F G : List Nat} {C : St} (h : RfM w d A cap ms F G C) (hk : Keeps [] w w') : RfM w' d A cap ms F G C := h.keep hk (by simp) (by simp)
theorem Rf.keep {w w' : World} {d : Nat} {F G K : List Nat} {C : St} (h : Rf w d F G C) (hk : Keeps K w w') (hF : ∀ g ∈ K, g ∉ F) (hG : ∀ g ∈ K, g ∉ G) : Rf w' d F G C := by
  obtain ⟨A, cap, ms, h⟩ := h
  exact ⟨A, cap, ms, h.keep hk hF hG⟩
theorem Rf.keep0 {w w' : World} {d : Nat} {F G : List Nat} {C : St} (h : Rf w d F G C) (hk : Keeps [] w w') : Rf w' d F G C := h.keep hk (by simp) (by simp)
/-- The cells of the one at the place k. -/
theorem RfM.cells {w : World} {d : Nat} {A : Option Addr} {cap : Nat} {ms : Int → Mr} {F G : List Nat} {C : St} (h : RfM w d A cap ms F G C) {k : Nat} (hk : k < C.reverse.length) :
    ∃ g, A = some ⟨g, 0, none⟩ ∧ w.cell? ⟨g, k * 5, none⟩ = some (.int .i64 C.reverse[k].id) ∧ w.cell? ⟨g, k * 5 + 1, none⟩ = some (.int .i64 C.reverse[k].par) ∧ w.cell? ⟨g, k * 5 + 2, none⟩ = some (ms C.reverse[k].id).1 ∧
      w.cell? ⟨g, k * 5 + 3, none⟩ = some (ms C.reverse[k].id).2.1 ∧ w.cell? ⟨g, k * 5 + 4, none⟩ = some (ms C.reverse[k].id).2.2 := by
  obtain ⟨A', c', hv, -, -, hA⟩ := own_shape h.row
  obtain ⟨g, hg⟩ := hA (by rw [List.length_reverse] at hk; omega)
  obtain ⟨rfl, -, rfl⟩ : A = A' ∧ C.length = C.length ∧ cap = c' := by injection hv with h1 h2 h3; exact ⟨h1, rfl, h3⟩
  subst hg
  have hr := fun j (hj : j < 5) => rw_at (oc_len ms) hk hj
  have ho := h.row
  have h0 := hr 0 (by omega)
  rw [Nat.add_zero] at h0
  exact ⟨g, rfl, own_cell ho (h0.trans rfl), own_cell ho ((hr 1 (by omega)).trans rfl), own_cell ho ((hr 2 (by omega)).trans rfl), own_cell ho ((hr 3 (by omega)).trans rfl), own_cell ho ((hr 4 (by omega)).trans rfl)⟩
/-- What an operation does to the reference. -/
def RTurn (w w' : World) (d : Nat) (F G : List Nat) (C : St) : Prop :=
  ∃ F' G', Rf w' d F' G' C ∧ (∀ g ∈ F', g ∈ F ∨ w.heap.size ≤ g) ∧ (∀ g ∈ G', g ∈ G ∨ w.heap.size ≤ g) ∧ Keeps F w w'
theorem RTurn.same {w w' : World} {d : Nat} {F G : List Nat} {C : St} (h : Rf w d F G C) (hk : Keeps [] w w') : RTurn w w' d F G C :=
  ⟨F, G, h.keep0 hk, fun _ h => .inl h, fun _ h => .inl h, hk.mono (by simp)⟩
theorem RTurn.after {w w1 w' : World} {d : Nat} {F G : List Nat} {C : St} (hk : Keeps [] w w1) (h : RTurn w1 w' d F G C) : RTurn w w' d F G C := by
  obtain ⟨F', G', h1, h2, h3, h4⟩ := h
  have := hk.size
  exact ⟨F', G', h1, fun g hg => (h2 g hg).imp id (fun h => by omega), fun g hg => (h3 g hg).imp id (fun h => by omega), (hk.mono (by simp)).trans h4 (fun g hg => .inl hg)⟩
theorem RTurn.before {w w1 w' : World} {d : Nat} {F G : List Nat} {C : St} (h : RTurn w w1 d F G C) (hk : Keeps [] w1 w') : RTurn w w' d F G C := by
  obtain ⟨F', G', h1, h2, h3, h4⟩ := h
  exact ⟨F', G', h1.keep0 hk, h2, h3, h4.trans hk (by simp)⟩
/-- Numbers are apart; the present stands last. -/
structure Row0 (C : St) : Prop where
  nd : (C.map (·.id)).Nodup
  z : ∃ N z, C = N ++ [z] ∧ z.id = 0
theorem Tree.row0 {C : St} (h : Tree C) : Row0 C := by
  refine ⟨ids_nodup h, ?_⟩
  induction C with
  | nil => cases h
  | cons x t ih =>
    rcases h with ⟨h1, _, rfl⟩ | ⟨_, _, _, h4⟩
    · exact ⟨[], x, rfl, h1⟩
    · obtain ⟨N, z, rfl, hz⟩ := ih h4
      exact ⟨x :: N, z, rfl, hz⟩
def plc (C : St) (i : Int) : Int := fi (fun x => decide (x.id = i)) C.reverse
theorem plc_no {C : St} {i : Int} (h : has C i = false) : plc C i = -1 := fi_none fun j hj => by
  rw [decide_eq_false_iff_not]
  intro e
  have : C.reverse[j] ∈ C := List.mem_reverse.1 (List.getElem_mem hj)
  rw [has_iff.2 ⟨_, this, e⟩] at h
  cases h
theorem Row0.inj {C : St} (h : Row0 C) {j k : Nat} (hj : j < C.reverse.length) (hk : k < C.reverse.length) (e : C.reverse[j].id = C.reverse[k].id) : j = k := by
  have hp : List.Pairwise (fun a b : One => a.id ≠ b.id) C.reverse := List.pairwise_reverse.2 ((List.pairwise_map.1 h.nd).imp Ne.symm)
  rw [List.pairwise_iff_getElem] at hp
  rcases Nat.lt_trichotomy j k with h1 | h1 | h1
  · exact absurd e (hp j k hj hk h1)
  · exact h1
  · exact absurd e.symm (hp k j hk hj h1)
theorem Row0.find {C : St} (h : Row0 C) {i : Int} (hh : has C i = true) : ∃ k, ∃ hk : k < C.reverse.length, C.reverse[k].id = i ∧ plc C i = (k : Nat) ∧ find C i = some C.reverse[k] := by
  obtain ⟨x, hx⟩ := has_find hh
  obtain ⟨h1, h2⟩ := find_mem hx
  obtain ⟨k, hk, e⟩ := List.mem_iff_getElem.1 (List.mem_reverse.2 h1)
  refine ⟨k, hk, by rw [e]; exact h2, fi_at hk (by rw [e]; simpa using h2) (fun j hj hjk => ?_), by rw [e]; exact hx⟩
  rw [decide_eq_false_iff_not]
  intro e2
  have := h.inj hj hk (by rw [e2, e, h2])
  omega
theorem Row0.first {C : St} (h : Row0 C) : ∃ hk : 0 < C.reverse.length, C.reverse[0].id = 0 := by
  obtain ⟨N, z, rfl, hz⟩ := h.z
  refine ⟨by simp, ?_⟩
  simpa using hz
theorem Row0.zero {C : St} (h : Row0 C) {k : Nat} (hk : k < C.reverse.length) : k = 0 ↔ C.reverse[k].id = 0 := by
  obtain ⟨h0, e0⟩ := h.first
  constructor
  · rintro rfl; exact e0
  · intro e; exact h.inj hk h0 (e.trans e0.symm)
end Go.Proofs.YtbllmpcpfmlemaaGreat
namespace Go.Proofs.YtbllmpcpfmlemaaGreat
open Go.RowKit
set_option maxRecDepth 100000 in
set_option maxHeartbeats 1600000 in
theorem place_any {w : World} {d : Nat} {F G : List Nat} {C : St} (h : Rf w d F G C) (hl : C.length ≤ 1000000) (i : Int) :
    Calls Tryz.prog 60 #[.pointer (some ⟨d, 0, none⟩), .int .i64 i] w fun e w' => e = .returned (.int .i64 (plc C i)) ∧ w' = w := by
  obtain ⟨A, cap, ms, h⟩ := h
  have f0 : w.cell? ⟨d, 0, none⟩ = some (.slice A C.length cap) := h.b.cell 0
  have HR := Lib.hid h
  have hrl : C.reverse.length = C.length := List.length_reverse
  have HRL := Lib.hid hrl
  obtain ⟨V, hV⟩ : ∃ V, plc C i = V := ⟨_, rfl⟩
  have HV := Lib.hid hV
  rw [hV]
  obtain ⟨n, hn⟩ : ∃ n, C.length = n := ⟨_, rfl⟩
  rw [hn] at f0 hl HRL
  clear h hrl hV hn
  go_enter Tryz.func60, Tryz.ntmps60
  go_wp2_with fail
  go_loopw [5] (fun iv wr => ∃ k : Nat, k ≤ n ∧ iv = .int .i64 k ∧ wr = w ∧ ∀ j (hj : j < C.reverse.length), j < k → C.reverse[j].id ≠ i) (fun iv _ => n - (intOf iv).toNat)
  case atStart => exact ⟨0, by omega, rfl, rfl, fun j _ h => absurd h (by omega)⟩
  case round =>
    obtain ⟨k, hk, rfl, rfl, hno⟩ := hrel
    have HNO := Lib.hid hno
    clear hno
    by_cases hlt : k < n
    · have hkr : k < C.reverse.length := by rw [HRL.out]; exact hlt
      obtain ⟨g, hg, c0, -⟩ := HR.out.cells hkr
      have i0 : (0 : Int) ≤ (k : Int) := by omega
      have i1 : (k : Int) < (n : Int) := by omega
      by_cases he : C.reverse[k].id = i
      · have hv : V = (k : Int) := by
          rw [← HV.out]
          exact fi_at hkr (by simpa using he) (fun j hj hjk => by simpa using HNO.out j hj hjk)
        subst hv
        rw [he] at c0
        clear he HNO HV HR
        subst hg
        go_wp2_with fail
        go_ret
        exact ⟨rfl, rfl⟩
      · have HN : Hid (∀ j (hj : j < C.reverse.length), j < k + 1 → C.reverse[j].id ≠ i) := Lib.hid (fun j hj hjk => by
          by_cases hj2 : j < k
          · exact HNO.out j hj hj2
          · obtain rfl : j = k := by omega
            exact he)
        obtain ⟨z, hz⟩ : ∃ z, C.reverse[k].id = z := ⟨_, rfl⟩
        rw [hz] at c0 he
        have hne : (z == i) = false := by simpa using he
        clear he hz HNO hkr
        subst hg
        go_wp2_with fail
        exact ⟨⟨k + 1, by omega, rfl, (by first | rfl | trivial), HN.out⟩, by simp only [intOf]; omega⟩
    · obtain rfl : k = n := by omega
      have i1 : ¬ ((k : Int) < (k : Int)) := by omega
      have hv : V = -1 := by
        rw [← HV.out]
        exact fi_none (fun j hj => by simpa using HNO.out j hj (by rw [← HRL.out]; exact hj))
      subst hv
      go_wp2_with fail
      go_ret
      exact ⟨rfl, rfl⟩
/-- One's value. -/
def ov (m : Mr) (x : One) : Value := .agg #[.int .i64 x.id, .int .i64 x.par, m.1, m.2.1, m.2.2]
set_option maxRecDepth 100000 in
set_option maxHeartbeats 1600000 in
theorem wrote_any {w : World} {m : Mr} {x : One} {G : List Nat} (h : OneV w m x G) (hl : x.wr.length ≤ 1000000) (k : Str) :
    Calls Tryz.prog 61 #[ov m x, sv k] w fun e w' => e = .returned (.tuple #[sv ((mget x.wr k).getD []), .bool (mget x.wr k).isSome]) ∧ Keeps [] w w' := by
  obtain ⟨m1, m2, m3⟩ := m
  obtain ⟨A, cap, hA, -, -, -⟩ := own_shape h.wr
  dsimp only at hA
  subst hA
  have ho := h.wr
  dsimp only at ho
  obtain ⟨zi, hzi⟩ : ∃ z, x.id = z := ⟨_, rfl⟩
  obtain ⟨zp, hzp⟩ : ∃ z, x.par = z := ⟨_, rfl⟩
  unfold ov
  rw [hzi, hzp]
  dsimp only
  obtain ⟨l, hll⟩ : ∃ l, x.wr = l := ⟨_, rfl⟩
  rw [hll] at ho hl ⊢
  obtain ⟨V, hV⟩ : ∃ V, (mget l k).getD [] = V := ⟨_, rfl⟩
  obtain ⟨V2, hV2⟩ : ∃ V, (mget l k).isSome = V := ⟨_, rfl⟩
  have HV := Lib.hid hV
  have HV2 := Lib.hid hV2
  rw [hV, hV2]
  have HA := Lib.hid (AtP.of_own ho hl)
  clear h ho hzi hzp hll hV hV2
  go_enter Tryz.func61, Tryz.ntmps61
  go_wp2_with fail
  have b0 : Blk (w.alloc (.cells #[.int .i64 zi, .int .i64 zp, .slice A l.length cap, m2, m3] 68)) w.heap.size 68 #[.int .i64 zi, .int .i64 zp, .slice A l.length cap, m2, m3] := Blk.new _ _ _
  have k0 : Keeps [] w (w.alloc (.cells #[.int .i64 zi, .int .i64 zp, .slice A l.length cap, m2, m3] 68)) := (Keeps.refl _ _).alloc _
  obtain ⟨W, hW⟩ : ∃ W, w.alloc (.cells #[.int .i64 zi, .int .i64 zp, .slice A l.length cap, m2, m3] 68) = W := ⟨_, rfl⟩
  obtain ⟨b, hb⟩ : ∃ b, w.heap.size = b := ⟨_, rfl⟩
  rw [hW] at b0 k0 ⊢
  rw [hb] at b0 ⊢
  have K0 := Lib.hid k0
  have HA2 := Lib.hid (HA.out.keep k0)
  have f2 : W.cell? ⟨b, 2, none⟩ = some (.slice A l.length cap) := b0.cell 2
  clear hW hb k0 HA b0
  go_loopw [6] (fun iv wr => ∃ k' : Nat, k' ≤ l.length ∧ iv = .int .i64 k' ∧ wr = W ∧ ∀ j (hj : j < l.length), j < k' → l[j].1 ≠ k) (fun iv _ => l.length - (intOf iv).toNat)
  case atStart => exact ⟨0, by omega, rfl, rfl, fun j _ h => absurd h (by omega)⟩
  case round =>
    obtain ⟨j, hk, rfl, rfl, hno⟩ := hrel
    have HNO := Lib.hid hno
    clear hno
    by_cases hlt : j < l.length
    · obtain ⟨bl, off, hAA, -, hcl⟩ := HA2.out.at_ (by omega)
      obtain ⟨c0, c1⟩ := hcl j hlt
      have i0 : (0 : Int) ≤ (j : Int) := by omega
      have i1 : (j : Int) < (l.length : Int) := by omega
      by_cases he : l[j].1 = k
      · have hm := mget_at hlt he HNO.out
        have hv : V = l[j].2 := by rw [← HV.out, hm]; rfl
        have hv2 : V2 = true := by rw [← HV2.out, hm]; rfl
        subst hv2
        rw [← hv] at c1
        rw [he] at c0
        clear he HNO HV HV2 hcl hv hm HA2
        subst hAA
        go_wp2_with fail
        (try simp only [Exit.inBlock, Exit.then]); refine bodyPost_ret (results_tmp2 rfl _ _ _) rfl ?_
        exact ⟨rfl, K0.out⟩
      · have HN : Hid (∀ j' (hj : j' < l.length), j' < j + 1 → l[j'].1 ≠ k) := Lib.hid (fun j' hj hjk => by
          by_cases hj2 : j' < j
          · exact HNO.out j' hj hj2
          · obtain rfl : j' = j := by omega
            exact he)
        obtain ⟨z, hz⟩ : ∃ z, l[j].1 = z := ⟨_, rfl⟩
        rw [hz] at c0 he
        have hne : (z == k) = false := by simpa using he
        clear he hz HNO hcl c1
        subst hAA
        go_wp2_with fail
        exact ⟨⟨j + 1, by omega, rfl, (by first | rfl | trivial), HN.out⟩, by simp only [intOf]; omega⟩
    · obtain rfl : j = l.length := by omega
      have i1 : ¬ ((l.length : Int) < (l.length : Int)) := by omega
      have hm := mget_no (fun j hj => HNO.out j hj hj)
      have hv : V = [] := by rw [← HV.out, hm]; rfl
      have hv2 : V2 = false := by rw [← HV2.out, hm]; rfl
      subst hv hv2
      go_wp2_with fail
      (try simp only [Exit.inBlock, Exit.then]); refine bodyPost_ret (results_tmp2 rfl _ _ _) rfl ?_
      exact ⟨rfl, K0.out⟩
set_option maxRecDepth 100000 in
set_option maxHeartbeats 1600000 in
theorem read_any {w : World} {m : Mr} {x : One} {G : List Nat} (h : OneV w m x G) (hl : x.rd.length ≤ 2000000) (kd : Int) (k : Str) :
    Calls Tryz.prog 62 #[ov m x, .int .i64 kd, sv k] w fun e w' => e = .returned (.int .i64 (rdIx kd k x.rd)) ∧ Keeps [] w w' := by
  obtain ⟨m1, m2, m3⟩ := m
  have hr := h.rd.at_
  dsimp only at hr
  obtain ⟨xs0, ho0, -⟩ := hr
  obtain ⟨A, cap, hA, -, -, -⟩ := own_shape ho0
  subst hA
  have hr := h.rd.at_
  dsimp only at hr
  obtain ⟨zi, hzi⟩ : ∃ z, x.id = z := ⟨_, rfl⟩
  obtain ⟨zp, hzp⟩ : ∃ z, x.par = z := ⟨_, rfl⟩
  unfold ov
  rw [hzi, hzp]
  dsimp only
  obtain ⟨l, hll⟩ : ∃ l, x.rd = l := ⟨_, rfl⟩
  rw [hll] at hr hl ⊢
  obtain ⟨V, hV⟩ : ∃ V, rdIx kd k l = V := ⟨_, rfl⟩
  have HV := Lib.hid hV
  rw [hV]
  have HA := Lib.hid hr
  clear h hr hzi hzp hV ho0 hll
  go_enter Tryz.func62, Tryz.ntmps62
  go_wp2_with fail
  have b0 : Blk (w.alloc (.cells #[.int .i64 zi, .int .i64 zp, m1, .slice A l.length cap, m3] 68)) w.heap.size 68 #[.int .i64 zi, .int .i64 zp, m1, .slice A l.length cap, m3] := Blk.new _ _ _
  have k0 : Keeps [] w (w.alloc (.cells #[.int .i64 zi, .int .i64 zp, m1, .slice A l.length cap, m3] 68)) := (Keeps.refl _ _).alloc _
  obtain ⟨W, hW⟩ : ∃ W, w.alloc (.cells #[.int .i64 zi, .int .i64 zp, m1, .slice A l.length cap, m3] 68) = W := ⟨_, rfl⟩
  obtain ⟨b, hb⟩ : ∃ b, w.heap.size = b := ⟨_, rfl⟩
  rw [hW] at b0 k0 ⊢
  rw [hb] at b0 ⊢
  have K0 := Lib.hid k0
  have HA2 := Lib.hid (HA.out.keep0 k0)
  have f2 : W.cell? ⟨b, 3, none⟩ = some (.slice A l.length cap) := b0.cell 3
  clear hW hb k0 HA b0
  go_loopw [7] (fun iv wr => ∃ k' : Nat, k' ≤ l.length ∧ iv = .int .i64 k' ∧ wr = W ∧ ∀ j (hj : j < l.length), j < k' → rdP kd k l[j] = false) (fun iv _ => l.length - (intOf iv).toNat)
  case atStart => exact ⟨0, by omega, rfl, rfl, fun j _ h => absurd h (by omega)⟩
  case round =>
    obtain ⟨j, hk, rfl, rfl, hno⟩ := hrel
    have HNO := Lib.hid hno
    clear hno
    by_cases hlt : j < l.length
    · obtain ⟨xs, ho, hc⟩ := HA2.out
      obtain ⟨p0, p1, -⟩ := hc j hlt
      obtain ⟨A', c', hv, -, -, hA⟩ := own_shape ho
      obtain ⟨g1, hg1⟩ := hA (by omega)
      obtain ⟨rfl, -, rfl⟩ : A = A' ∧ l.length = l.length ∧ cap = c' := by injection hv with h1 h2 h3; exact ⟨h1, rfl, h3⟩
      subst hg1
      have c0 := own_cell ho p0
      have c1 := own_cell ho p1
      have i0 : (0 : Int) ≤ (j : Int) := by omega
      have i1 : (j : Int) < (l.length : Int) := by omega
      by_cases he : rdP kd k l[j] = true
      · have hv2 : V = (j : Int) := by
          rw [← HV.out]
          exact fi_at hlt he HNO.out
        subst hv2
        obtain ⟨e1, e2⟩ : kindR l[j] = kd ∧ keyR l[j] = k := by simpa [rdP] using he
        rw [e1] at c0
        rw [e2] at c1
        clear he HNO HV hc hv p0 p1 hA ho HA2 e1 e2
        go_wp2_with fail
        go_ret
        exact ⟨rfl, K0.out⟩
      · have HN : Hid (∀ j' (hj : j' < l.length), j' < j + 1 → rdP kd k l[j'] = false) := Lib.hid (fun j' hj hjk => by
          by_cases hj2 : j' < j
          · exact HNO.out j' hj hj2
          · obtain rfl : j' = j := by omega
            simpa using he)
        have HE := Lib.hid he
        obtain ⟨z, hz⟩ : ∃ z, kindR l[j] = z := ⟨_, rfl⟩
        obtain ⟨y, hy⟩ : ∃ z, keyR l[j] = z := ⟨_, rfl⟩
        have hor : z ≠ kd ∨ y ≠ k := by
          by_cases h1 : z = kd
          · exact .inr (fun h2 => he (by simp [rdP, hz, hy, h1, h2]))
          · exact .inl h1
        rw [hz] at c0
        rw [hy] at c1
        clear he HE hz hy HNO hc hv p0 p1 hA ho
        by_cases h1 : z = kd
        · subst h1
          have hne : (y == k) = false := by
            rcases hor with h | h
            · exact absurd rfl h
            · simpa using h
          clear hor
          go_wp2_with fail
          exact ⟨⟨j + 1, by omega, rfl, (by first | rfl | trivial), HN.out⟩, by simp only [intOf]; omega⟩
        · have hne : (z == kd) = false := by simpa using h1
          clear h1 hor
          go_wp2_with fail
          exact ⟨⟨j + 1, by omega, rfl, (by first | rfl | trivial), HN.out⟩, by simp only [intOf]; omega⟩
    · obtain rfl : j = l.length := by omega
      have i1 : ¬ ((l.length : Int) < (l.length : Int)) := by omega
      have hv : V = -1 := by
        rw [← HV.out]
        exact fi_none (fun j hj => HNO.out j hj hj)
      subst hv
      go_wp2_with fail
      go_ret
      exact ⟨rfl, K0.out⟩
end Go.Proofs.YtbllmpcpfmlemaaGreat
namespace Go.Proofs.YtbllmpcpfmlemaaGreat
open Go.RowKit
theorem run_lssS (a b : Str) (w : World) : (binOp .lss 9 (sv a) (sv b)).run Tryz.prog w = .ok (.bool (decide (a < b))) w := by
  have e : Op.bytesLess (bs a).toList (bs b).toList = decide (a < b) := by
    rw [bs_toList, bs_toList, Proofs.bytesLess_eq]
  have h2 : (Op.stringOp .lss (bs a) (bs b)).run Tryz.prog w = .ok (.bool (decide (a < b))) w := by rw [← e]; rfl
  exact h2
theorem run_gtrS (a b : Str) (w : World) : (binOp .gtr 9 (sv a) (sv b)).run Tryz.prog w = .ok (.bool (decide (b < a))) w := by
  have e : (!(Op.bytesLess (bs a).toList (bs b).toList || (bs a).toList == (bs b).toList)) = decide (b < a) := by
    rw [bs_toList, bs_toList, Proofs.bytesLess_eq]
    rcases str_tri a b with h | h | h
    · simp [h, str_asymm h]
    · subst h; simp [str_lt_irrefl]
    · simp [h, str_asymm h, (str_ne h).symm]
  have h2 : (Op.stringOp .gtr (bs a) (bs b)).run Tryz.prog w = .ok (.bool (decide (b < a))) w := by rw [← e]; rfl
  exact h2
set_option maxRecDepth 100000 in
set_option maxHeartbeats 1600000 in
theorem begins_any (s p : Str) (w : World) : Calls Tryz.prog 63 #[sv s, sv p] w fun e w' => e = .returned (.bool (pre p s)) ∧ w' = w := by
  unfold pre
  rw [← Lib.hasPrefix_of_take]
  by_cases hlt : p.length ≤ s.length
  · have i0 : (p.length : Int) ≤ (s.length : Int) := by omega
    have i1 : min (s.length : Int) (p.length : Int) = (p.length : Int) := by omega
    go_enter Tryz.func63, Tryz.ntmps63
    go_wp2_with fail
    go_ret
    refine ⟨?_, rfl⟩
    show Ending.returned (Value.bool (((bs s).extract 0 (List.length p)).toList == p)) = _
    rw [Lib.extract_toList]
    simp [hlt]
  · have i0 : ¬ ((p.length : Int) ≤ (s.length : Int)) := by omega
    go_enter Tryz.func63, Tryz.ntmps63
    go_wp2_with fail
    go_ret
    refine ⟨?_, rfl⟩
    simp
theorem AtS.cell {w : World} {bl off : Nat} {l : List Str} (h : AtS w (some ⟨bl, off, none⟩) l) {k : Nat} (hk : k < l.length) : w.cell? ⟨bl, off + k, none⟩ = some (sv l[k]) := by
  obtain ⟨b, o, e, _, hc⟩ := h.at_ (by omega)
  injection e with e
  injection e with e1 e2
  subst e1 e2
  exact hc k hk
/-- What 'with' still appends. -/
def wi (s : Str) : Bool → List Str → List Str
  | done, [] => if done then [] else [s]
  | done, a :: r => if a = s then wi s done r else if done = false ∧ s < a then s :: a :: wi s true r else a :: wi s done r
theorem wi_all {s : Str} {l : List Str} (h : ∀ x ∈ l, x ≠ s) : wi s true l = l := by
  induction l with
  | nil => rfl
  | cons a r ih =>
    rw [wi, if_neg (h a (by simp)), if_neg (by simp), ih (fun x hx => h x (by simp [hx]))]
theorem wi_head {s : Str} {l : List Str} (h : ∀ x ∈ l, s < x) : wi s false l = s :: l := by
  cases l with
  | nil => rfl
  | cons a r =>
    have ha := h a (by simp)
    rw [wi, if_neg (fun e => str_ne ha e.symm), if_pos ⟨rfl, ha⟩, wi_all (fun x hx e => str_ne (h x (by simp [hx])) e.symm)]
theorem wi_setIn {l : List Str} (hl : Asc l) (s : Str) (t : Bool) : wi s (!t) l = setIn l s t := by
  induction l with
  | nil => cases t <;> rfl
  | cons a r ih =>
    obtain ⟨h1, h2⟩ := asc_cons.1 hl
    rw [wi, setIn]
    rcases str_tri a s with h | h | h
    · rw [if_neg (str_ne h), if_neg (by rintro ⟨_, h'⟩; exact str_asymm h h'), if_pos h, ih h2]
    · subst h
      rw [if_pos rfl, if_neg (str_lt_irrefl a), if_pos rfl]
      cases t with
      | true => exact wi_head h1
      | false => exact wi_all (fun x hx e => str_ne (h1 x hx) e.symm)
    · have hr : ∀ x ∈ r, s < x := fun x hx => str_lt_trans h (h1 x hx)
      have hn : ∀ x ∈ r, x ≠ s := fun x hx e => str_ne (hr x hx) e.symm
      rw [if_neg (show ¬ a = s from fun e => str_ne h e.symm), if_neg (str_asymm h), if_neg (show ¬ a = s from fun e => str_ne h e.symm)]
      cases t with
      | true => rw [if_pos (show (!true) = false ∧ s < a from ⟨rfl, h⟩), wi_all hn]; rfl
      | false => rw [if_neg (show ¬ ((!false) = false ∧ s < a) by simp)]; show a :: wi s true r = _; rw [wi_all hn]; rfl
set_option maxRecDepth 100000 in
set_option maxHeartbeats 6400000 in
theorem with_any {w : World} {A : Option Addr} {l : List Str} {c : Nat} (h : AtS w A l) (hasc : Asc l) (s : Str) (t : Bool) :
    Calls Tryz.prog 64 #[.slice A l.length c, sv s, .bool t] w fun e w' => (∃ v, e = .returned v ∧ w'.ownsRow 0 9 1 v (setIn l s t).length (vs (setIn l s t)) ∧ ∀ g ∈ fp v, w.heap.size ≤ g) ∧ Keeps [] w w' := by
  have hm := h.mx
  have HA := Lib.hid h
  have hw := wi_setIn hasc s t
  obtain ⟨V, hV⟩ : ∃ V, setIn l s t = V := ⟨_, rfl⟩
  rw [hV] at hw ⊢
  obtain ⟨dn, hdn⟩ : ∃ dn, t = !dn := ⟨!t, by simp⟩
  rw [hdn, Bool.not_not] at hw
  rw [hdn]
  have HW := Lib.hid hw
  clear h hasc hw hV hdn
  go_enter Tryz.func64, Tryz.ntmps64
  go_wp2_with fail
  go_loopw [7, 8, 9] (fun vo vd iv wr => ∃ (k : Nat) (out : List Str) (dn : Bool), k ≤ l.length ∧ iv = .int .i64 k ∧ vd = .bool dn ∧ wr.ownsRow 0 9 1 vo out.length (vs out) ∧ Keeps [] w wr ∧ (∀ g ∈ fp vo, w.heap.size ≤ g) ∧ out ++ wi s dn (l.drop k) = V ∧ out.length ≤ 2 * k) (fun _ _ iv _ => l.length - (intOf iv).toNat)
  case atStart => exact ⟨0, [], dn, by omega, rfl, rfl, World.ownsRow_nil _ _ _ _, Keeps.refl _ _, by simp, HW.out, by simp⟩
  case round =>
    obtain ⟨k, out, dn, hk, rfl, rfl, ho, hkr, hf, hrest, hol⟩ := hrel
    clear HW
    have HO := Lib.hid ho
    have KR := Lib.hid hkr
    have FR := Lib.hid hf
    have HREST := Lib.hid hrest
    clear ho hkr hf hrest
    obtain ⟨Bo, do_, hvo, -, -, -⟩ := own_shape HO.out
    subst hvo
    by_cases hlt : k < l.length
    · obtain ⟨bl, off, hAA, -, hcl⟩ := (HA.out.keep KR.out).at_ (by omega)
      have c0 := hcl k hlt
      have i0 : (0 : Int) ≤ (k : Int) := by omega
      have i1 : (k : Int) < (l.length : Int) := by omega
      have hdrop : l.drop k = l[k] :: l.drop (k + 1) := List.drop_eq_getElem_cons hlt
      have hres := HREST.out
      rw [hdrop, wi] at hres
      obtain ⟨a, ha⟩ : ∃ a, l[k] = a := ⟨_, rfl⟩
      rw [ha] at c0 hres
      have HAE := Lib.hid ha
      have HS := Lib.hid hres
      clear hcl hdrop ha HREST hres
      subst hAA
      by_cases he : a = s
      · have hr : out ++ wi s dn (l.drop (k + 1)) = V := by have := HS.out; rw [if_pos he] at this; exact this
        have HR := Lib.hid hr
        subst he
        clear HS hr
        go_wp2_with fail
        exact ⟨⟨k + 1, out, dn, by omega, rfl, rfl, HO.out, KR.out, FR.out, HR.out, by omega⟩, by simp only [intOf]; omega⟩
      · have hne : (a == s) = false := by simpa using he
        have hcmp := fun w => run_gtrS a s w
        have hS2 := HS.out
        rw [if_neg he] at hS2
        have HS2 := Lib.hid hS2
        obtain ⟨g, hg⟩ : ∃ g, decide (s < a) = g := ⟨_, rfl⟩
        rw [hg] at hcmp
        have HG := Lib.hid hg
        clear hS2 HS he hg
        cases dn with
        | true =>
          have hr : (out ++ [a]) ++ wi s true (l.drop (k + 1)) = V := by
            have := HS2.out; rw [if_neg (by simp)] at this; rw [List.append_assoc]; exact this
          have HR := Lib.hid hr
          clear hr HS2 HG
          have GAA : Hid ((wr.alloc (.cells #[sv a] 9)).ownsRow 0 9 1 (.slice Bo out.length do_) out.length (vs out)) := Lib.hid (own_keep HO.out ((Keeps.refl [] wr).alloc (.cells #[sv a] 9)) (by simp))
          have RBA := Lib.hid (reads_blk (Blk.new wr 9 #[sv a]) (xs := [sv a]) (size := 1) rfl rfl)
          go_wp2_with (at_builtin; refine wpList_app _ rfl (.tmp 38) (.tmp 43) _ rfl 9 (.string ⟨#[]⟩) 1 16 Tryz.underlying29 info9 rfl (by omega) (.slice Bo out.length do_) _ _ rfl GAA.out _ _ _ _ [sv a] rfl RBA.out (vs_one [a]) (by unfold maxLen; omega) (by omega) ?_)
          intro vA wA oA kA fA
          have OA : Hid (wA.ownsRow 0 9 1 vA (out ++ [a]).length (vs (out ++ [a]))) := Lib.hid (by
            have e : vs (out ++ [a]) = vs out ++ [sv a] := by simp [vs]
            rw [e, List.length_append, List.length_singleton]; exact oA)
          have KA : Hid (Keeps [] w wA) := Lib.hid ((KR.out.alloc _).trans kA (fun g hg => .inr (FR.out g hg)))
          have FA : Hid (∀ g ∈ fp vA, w.heap.size ≤ g) := Lib.hid (fun g hg => (fA g hg).elim (FR.out g) (fun h => by have := KR.out.size; omega))
          clear oA kA fA GAA RBA HO KR FR
          go_wp2_with fail
          exact ⟨⟨k + 1, out ++ [a], true, by omega, rfl, rfl, OA.out, KA.out, FA.out, HR.out, by simp; omega⟩, by simp only [intOf]; omega⟩
        | false =>
          cases g with
          | true =>
            have hr : ((out ++ [s]) ++ [a]) ++ wi s true (l.drop (k + 1)) = V := by
              have := HS2.out; rw [if_pos ⟨rfl, of_decide_eq_true HG.out⟩] at this
              rw [List.append_assoc, List.append_assoc]; exact this
            have HR := Lib.hid hr
            clear hr HS2 HG
            have GAA : Hid ((wr.alloc (.cells #[sv s] 9)).ownsRow 0 9 1 (.slice Bo out.length do_) out.length (vs out)) := Lib.hid (own_keep HO.out ((Keeps.refl [] wr).alloc (.cells #[sv s] 9)) (by simp))
            have RBA := Lib.hid (reads_blk (Blk.new wr 9 #[sv s]) (xs := [sv s]) (size := 1) rfl rfl)
            go_wp2_with (at_builtin; refine wpList_app _ rfl (.tmp 34) (.tmp 36) _ rfl 9 (.string ⟨#[]⟩) 1 16 Tryz.underlying29 info9 rfl (by omega) (.slice Bo out.length do_) _ _ rfl GAA.out _ _ _ _ [sv s] rfl RBA.out (vs_one [s]) (by unfold maxLen; omega) (by omega) ?_)
            intro vA wA oA kA fA
            have OA : Hid (wA.ownsRow 0 9 1 vA (out ++ [s]).length (vs (out ++ [s]))) := Lib.hid (by
              have e : vs (out ++ [s]) = vs out ++ [sv s] := by simp [vs]
              rw [e, List.length_append, List.length_singleton]; exact oA)
            have KA : Hid (Keeps [] w wA) := Lib.hid ((KR.out.alloc _).trans kA (fun g hg => .inr (FR.out g hg)))
            have FA : Hid (∀ g ∈ fp vA, w.heap.size ≤ g) := Lib.hid (fun g hg => (fA g hg).elim (FR.out g) (fun h => by have := KR.out.size; omega))
            clear oA kA fA GAA RBA HO KR FR
            have hob : (out ++ [s]).length ≤ 2 * k + 1 := by simp; omega
            have c1 : wA.cell? ⟨bl, off + k, none⟩ = some (sv a) := by rw [← HAE.out]; exact AtS.cell (HA.out.keep KA.out) hlt
            obtain ⟨out2, ho2⟩ : ∃ o, out ++ [s] = o := ⟨_, rfl⟩
            rw [ho2] at OA HR hob
            clear ho2
            obtain ⟨Ba, da, hva, -, -, -⟩ := own_shape OA.out
            subst hva
            have GAB : Hid ((wA.alloc (.cells #[sv a] 9)).ownsRow 0 9 1 (.slice Ba out2.length da) out2.length (vs out2)) := Lib.hid (own_keep OA.out ((Keeps.refl [] wA).alloc (.cells #[sv a] 9)) (by simp))
            have RBB := Lib.hid (reads_blk (Blk.new wA 9 #[sv a]) (xs := [sv a]) (size := 1) rfl rfl)
            go_wp2_with (at_builtin; refine wpList_app _ rfl (.tmp 38) (.tmp 43) _ rfl 9 (.string ⟨#[]⟩) 1 16 Tryz.underlying29 info9 rfl (by omega) (.slice Ba out2.length da) _ _ rfl GAB.out _ _ _ _ [sv a] rfl RBB.out (vs_one [a]) (by unfold maxLen; omega) (by omega) ?_)
            intro vB wB oB kB fB
            have OB : Hid (wB.ownsRow 0 9 1 vB (out2 ++ [a]).length (vs (out2 ++ [a]))) := Lib.hid (by
              have e : vs (out2 ++ [a]) = vs out2 ++ [sv a] := by simp [vs]
              rw [e, List.length_append, List.length_singleton]; exact oB)
            have KB : Hid (Keeps [] w wB) := Lib.hid ((KA.out.alloc _).trans kB (fun g hg => .inr (FA.out g hg)))
            have FB : Hid (∀ g ∈ fp vB, w.heap.size ≤ g) := Lib.hid (fun g hg => (fB g hg).elim (FA.out g) (fun h => by have := KA.out.size; omega))
            clear oB kB fB GAB RBB OA KA FA
            go_wp2_with fail
            exact ⟨⟨k + 1, out2 ++ [a], true, by omega, rfl, rfl, OB.out, KB.out, FB.out, HR.out, by simp; omega⟩, by simp only [intOf]; omega⟩
          | false =>
            have hr : (out ++ [a]) ++ wi s false (l.drop (k + 1)) = V := by
              have := HS2.out; rw [if_neg (fun h => of_decide_eq_false HG.out h.2)] at this; rw [List.append_assoc]; exact this
            have HR := Lib.hid hr
            clear hr HS2 HG
            have GAA : Hid ((wr.alloc (.cells #[sv a] 9)).ownsRow 0 9 1 (.slice Bo out.length do_) out.length (vs out)) := Lib.hid (own_keep HO.out ((Keeps.refl [] wr).alloc (.cells #[sv a] 9)) (by simp))
            have RBA := Lib.hid (reads_blk (Blk.new wr 9 #[sv a]) (xs := [sv a]) (size := 1) rfl rfl)
            go_wp2_with (at_builtin; refine wpList_app _ rfl (.tmp 38) (.tmp 43) _ rfl 9 (.string ⟨#[]⟩) 1 16 Tryz.underlying29 info9 rfl (by omega) (.slice Bo out.length do_) _ _ rfl GAA.out _ _ _ _ [sv a] rfl RBA.out (vs_one [a]) (by unfold maxLen; omega) (by omega) ?_)
            intro vA wA oA kA fA
            have OA : Hid (wA.ownsRow 0 9 1 vA (out ++ [a]).length (vs (out ++ [a]))) := Lib.hid (by
              have e : vs (out ++ [a]) = vs out ++ [sv a] := by simp [vs]
              rw [e, List.length_append, List.length_singleton]; exact oA)
            have KA : Hid (Keeps [] w wA) := Lib.hid ((KR.out.alloc _).trans kA (fun g hg => .inr (FR.out g hg)))
            have FA : Hid (∀ g ∈ fp vA, w.heap.size ≤ g) := Lib.hid (fun g hg => (fA g hg).elim (FR.out g) (fun h => by have := KR.out.size; omega))
            clear oA kA fA GAA RBA HO KR FR
            go_wp2_with fail
            exact ⟨⟨k + 1, out ++ [a], false, by omega, rfl, rfl, OA.out, KA.out, FA.out, HR.out, by simp; omega⟩, by simp only [intOf]; omega⟩
    · obtain rfl : k = l.length := by omega
      have i1 : ¬ ((l.length : Int) < (l.length : Int)) := by omega
      have hres := HREST.out
      rw [List.drop_length] at hres
      have HS := Lib.hid hres
      clear HREST hres
      cases dn with
      | true =>
        have hv : out = V := by have := HS.out; simpa [wi] using this
        subst hv
        go_wp2_with fail
        go_ret
        exact ⟨⟨_, rfl, HO.out, FR.out⟩, KR.out⟩
      | false =>
        have hv : out ++ [s] = V := by have := HS.out; simpa [wi] using this
        have HV := Lib.hid hv
        clear hv HS
        have GAA : Hid ((wr.alloc (.cells #[sv s] 9)).ownsRow 0 9 1 (.slice Bo out.length do_) out.length (vs out)) := Lib.hid (own_keep HO.out ((Keeps.refl [] wr).alloc (.cells #[sv s] 9)) (by simp))
        have RBA := Lib.hid (reads_blk (Blk.new wr 9 #[sv s]) (xs := [sv s]) (size := 1) rfl rfl)
        go_wp2_with (at_builtin; refine wpList_app _ rfl (.tmp 47) (.tmp 49) _ rfl 9 (.string ⟨#[]⟩) 1 16 Tryz.underlying29 info9 rfl (by omega) (.slice Bo out.length do_) _ _ rfl GAA.out _ _ _ _ [sv s] rfl RBA.out (vs_one [s]) (by unfold maxLen; omega) (by omega) ?_)
        intro vA wA oA kA fA
        have OA : Hid (wA.ownsRow 0 9 1 vA (out ++ [s]).length (vs (out ++ [s]))) := Lib.hid (by
          have e : vs (out ++ [s]) = vs out ++ [sv s] := by simp [vs]
          rw [e, List.length_append, List.length_singleton]; exact oA)
        have KA : Hid (Keeps [] w wA) := Lib.hid ((KR.out.alloc _).trans kA (fun g hg => .inr (FR.out g hg)))
        have FA : Hid (∀ g ∈ fp vA, w.heap.size ≤ g) := Lib.hid (fun g hg => (fA g hg).elim (FR.out g) (fun h => by have := KR.out.size; omega))
        clear oA kA fA GAA RBA HO KR FR
        rw [HV.out] at OA
        go_wp2_with fail
        go_ret
        exact ⟨⟨_, rfl, OA.out, FA.out⟩, KA.out⟩
end Go.Proofs.YtbllmpcpfmlemaaGreat
namespace Go.Proofs.YtbllmpcpfmlemaaGreat
open Go.RowKit
/-- One of the reference's ones, at the place k. -/
structure Pl (w : World) (d : Nat) (G : List Nat) (k : Nat) (x : One) (g n cap : Nat) (A1 A2 A3 : Option Addr) (p1 p2 p3 : Nat) : Prop where
  f : w.cell? ⟨d, 0, none⟩ = some (.slice (some ⟨g, 0, none⟩) n cap)
  c0 : w.cell? ⟨g, k * 5, none⟩ = some (.int .i64 x.id)
  c1 : w.cell? ⟨g, k * 5 + 1, none⟩ = some (.int .i64 x.par)
  c2 : w.cell? ⟨g, k * 5 + 2, none⟩ = some (.slice A1 x.wr.length p1)
  c3 : w.cell? ⟨g, k * 5 + 3, none⟩ = some (.slice A2 x.rd.length p2)
  c4 : w.cell? ⟨g, k * 5 + 4, none⟩ = some (.slice A3 x.lg.length p3)
  o : OneV w (.slice A1 x.wr.length p1, .slice A2 x.rd.length p2, .slice A3 x.lg.length p3) x G
  dl : d < w.heap.size
  gl : g < w.heap.size
theorem Pl.keep0 {w w' : World} {d : Nat} {G : List Nat} {k : Nat} {x : One} {g n cap : Nat} {A1 A2 A3 : Option Addr} {p1 p2 p3 : Nat} (h : Pl w d G k x g n cap A1 A2 A3 p1 p2 p3) (hk : Keeps [] w w') : Pl w' d G k x g n cap A1 A2 A3 p1 p2 p3 :=
  ⟨(hk.cell (p := ⟨d, _, none⟩) h.dl (by simp)).trans h.f, (hk.cell (p := ⟨g, _, none⟩) h.gl (by simp)).trans h.c0, (hk.cell (p := ⟨g, _, none⟩) h.gl (by simp)).trans h.c1, (hk.cell (p := ⟨g, _, none⟩) h.gl (by simp)).trans h.c2,
    (hk.cell (p := ⟨g, _, none⟩) h.gl (by simp)).trans h.c3, (hk.cell (p := ⟨g, _, none⟩) h.gl (by simp)).trans h.c4, h.o.keep0 hk, Nat.lt_of_lt_of_le h.dl hk.size, Nat.lt_of_lt_of_le h.gl hk.size⟩
theorem Rf.open_ {w : World} {d : Nat} {F G : List Nat} {C : St} (h : Rf w d F G C) (hr : Row0 C) {i : Int} (hh : has C i = true) :
    ∃ (x : One) (k g n cap : Nat) (A1 A2 A3 : Option Addr) (p1 p2 p3 : Nat), find C i = some x ∧ x ∈ C ∧ x.id = i ∧ plc C i = (k : Nat) ∧ k < n ∧ n = C.length ∧ (k = 0 ↔ i = 0) ∧ Pl w d G k x g n cap A1 A2 A3 p1 p2 p3 := by
  obtain ⟨A, cap, ms, h⟩ := h
  obtain ⟨k, hk, h1, h2, h3⟩ := hr.find hh
  obtain ⟨g, rfl, c0, c1, c2, c3, c4⟩ := h.cells hk
  have hx := List.mem_reverse.1 (List.getElem_mem hk)
  have hz := hr.zero hk
  rw [h1] at hz
  obtain ⟨m, hm⟩ : ∃ m, ms C.reverse[k].id = m := ⟨_, rfl⟩
  have ho := h.one _ hx
  rw [hm] at c2 c3 c4 ho
  obtain ⟨m1, m2, m3⟩ := m
  have f := h.b.cell 0
  obtain ⟨A1, p1, hm1, -, -, -⟩ := own_shape ho.wr
  obtain ⟨xs, hxs, -, -⟩ := ho.rd
  obtain ⟨A2, p2, hm2, -, -, -⟩ := own_shape hxs
  obtain ⟨A3, p3, hm3, -, -, -⟩ := own_shape ho.lg
  dsimp only at hm1 hm2 hm3
  subst hm1 hm2 hm3
  exact ⟨_, k, g, C.length, cap, A1, A2, A3, p1, p2, p3, h3, hx, h1, h2, by rw [List.length_reverse] at hk; exact hk, rfl, hz, f, c0, c1, c2, c3, c4, ho, cell_lt f, cell_lt c0⟩
theorem rd_cells {w : World} {v : Value} {l : List Rd} {G : List Nat} (h : RdG w v l G) {j : Nat} (hj : j < l.length) : ∃ g c u, v = .slice (some ⟨g, 0, none⟩) l.length c ∧ w.cell? ⟨g, j * 4, none⟩ = some (.int .i64 (kindR l[j])) ∧ w.cell? ⟨g, j * 4 + 1, none⟩ = some (sv (keyR l[j])) ∧
    w.cell? ⟨g, j * 4 + 2, none⟩ = some (sv (valR l[j])) ∧ w.cell? ⟨g, j * 4 + 3, none⟩ = some u ∧ w.ownsRow 0 9 1 u (lstR l[j]).length (vs (lstR l[j])) ∧ ∀ g ∈ fp u, g ∈ G := by
  obtain ⟨xs, ho, _, hc⟩ := h
  obtain ⟨A, c, rfl, -, -, hA⟩ := own_shape ho
  obtain ⟨g, rfl⟩ := hA (by omega)
  obtain ⟨a, b, c', u, d, e, f⟩ := hc j hj
  exact ⟨g, c, u, rfl, own_cell ho a, own_cell ho b, own_cell ho c', own_cell ho d, e, f⟩
set_option maxRecDepth 100000 in
set_option maxHeartbeats 3200000 in
theorem rSees_any {P : List Str} {C : St} (hW : WF P C) (hP : PoolOk P) (hl : C.length ≤ 1000000) (d : Nat) (F G : List Nat) (k : Str) : ∀ (N : Nat) (w : World) (i : Int), depth C i ≤ N → Rf w d F G C →
    Calls Tryz.prog 17 #[.pointer (some ⟨d, 0, none⟩), .int .i64 i, sv k] w fun e w' => e = .returned (sv (sees C i k)) ∧ Keeps [] w w' := by
  intro N
  induction N with
  | zero =>
    intro w i hd h
    have hh : has C i = false := by
      cases hb : has C i with
      | false => rfl
      | true => have := depth_pos hb; omega
    rw [sees_none hh]
    have CP := Lib.hid (place_any h hl i)
    rw [plc_no hh] at CP
    clear h hd hh
    go_enter Tryz.func17, Tryz.ntmps17
    go_wp2_with fail
    refine CP.out.mono ?_
    rintro e w1 ⟨rfl, rfl⟩
    go_wp2_with fail
    go_ret
    exact ⟨rfl, Keeps.refl _ _⟩
  | succ N ih =>
    intro w i hd h
    cases hh : has C i with
    | false =>
      rw [sees_none hh]
      have CP := Lib.hid (place_any h hl i)
      rw [plc_no hh] at CP
      clear h hd hh ih
      go_enter Tryz.func17, Tryz.ntmps17
      go_wp2_with fail
      refine CP.out.mono ?_
      rintro e w1 ⟨rfl, rfl⟩
      go_wp2_with fail
      go_ret
      exact ⟨rfl, Keeps.refl _ _⟩
    | true =>
      obtain ⟨x, j, g, n, cap, A1, A2, A3, p1, p2, p3, hf, hx, rfl, hp, hj, hn, hz, hpl⟩ := h.open_ hW.tree.row0 hh
      have CP := Lib.hid (place_any h hl x.id)
      rw [hp] at CP
      have hse := sees_eq hW.tree hx k
      have hok := hW.ok x hx
      have hwl : x.wr.length ≤ 1000000 := hP.leK hok.wr hok.wp
      have hrl : x.rd.length ≤ 2000000 := rd_le hW hP hx
      have hnl : n ≤ 1000000 := by omega
      obtain ⟨V, hV⟩ : ∃ V, sees C x.id k = V := ⟨_, rfl⟩
      rw [hV] at hse ⊢
      have HSE := Lib.hid hse
      have HX := Lib.hid hx
      have HPL := Lib.hid hpl
      have HR := Lib.hid h
      have IH : Hid (x.id ≠ 0 → ∀ w, Rf w d F G C → Calls Tryz.prog 17 #[.pointer (some ⟨d, 0, none⟩), .int .i64 x.par, sv k] w fun e w' => e = .returned (sv (sees C x.par k)) ∧ Keeps [] w w') := Lib.hid (fun h0 w hw => ih w x.par (by have := depth_par hW.tree hx h0; omega) hw)
      have HR0 : Hid (x.id = 0 → x.rd = []) := Lib.hid (hW.tree.rd0 hx)
      obtain ⟨f0, c0, c1, c2, c3, c4, -, -, -⟩ := hpl
      have i0 : ¬ ((j : Int) < 0) := by omega
      have i2 : (0 : Int) ≤ (j : Int) := by omega
      have i3 : (j : Int) < (n : Int) := by omega
      clear h hd hh ih hf hx hp hj hn hz hse hok hV
      go_enter Tryz.func17, Tryz.ntmps17
      go_wp2_with fail
      refine CP.out.mono ?_
      rintro e w1 ⟨rfl, rfl⟩
      clear CP
      go_wp2_with fail
      obtain ⟨W, hW⟩ : ∃ W, w1.alloc (.cells #[.int .i64 x.id, .int .i64 x.par, .slice A1 x.wr.length p1, .slice A2 x.rd.length p2, .slice A3 x.lg.length p3] 68) = W := ⟨_, rfl⟩
      obtain ⟨b, hb⟩ : ∃ b, w1.heap.size = b := ⟨_, rfl⟩
      have b0 : Blk W b 68 #[.int .i64 x.id, .int .i64 x.par, .slice A1 x.wr.length p1, .slice A2 x.rd.length p2, .slice A3 x.lg.length p3] := by rw [← hW, ← hb]; exact Blk.new _ _ _
      have k0 : Keeps [] w1 W := by rw [← hW]; exact (Keeps.refl _ _).alloc _
      rw [hW]
      rw [hb]
      have HPL2 := Lib.hid (HPL.out.keep0 k0)
      have CW := Lib.hid (wrote_any HPL2.out.o hwl k)
      have HR2 := Lib.hid (HR.out.keep0 k0)
      have K2 := Lib.hid k0
      have B2 := Lib.hid b0
      clear hW hb k0 b0 f0 c0 c1 c2 c3 c4 i2 i3 HPL HR
      cases hmg : mget x.wr k with
      | some v =>
        rw [hmg] at CW
        have hv : V = v := by have := HSE.out; rw [hmg] at this; exact this
        subst hv
        clear hmg HSE
        refine CW.out.mono ?_
        rintro e w2 ⟨rfl, k2⟩
        have K3 := Lib.hid (K2.out.trans k2 (by simp))
        clear k2
        go_wp2_with fail
        go_ret
        exact ⟨rfl, K3.out⟩
      | none =>
        rw [hmg] at CW
        have hse := HSE.out
        rw [hmg] at hse
        dsimp only at hse
        have HSE2 := Lib.hid hse
        clear hse HSE hmg
        refine CW.out.mono ?_
        rintro e w2 ⟨rfl, k2⟩
        have HPL3 := Lib.hid (HPL2.out.keep0 k2)
        have HR3 := Lib.hid (HR2.out.keep0 k2)
        have K3 := Lib.hid (K2.out.trans k2 (by simp))
        have b3 := B2.out.keep k2 (by simp)
        have B3 := Lib.hid b3
        clear k2 HPL2 HR2 K2 B2 CW
        by_cases h0 : x.id = 0
        · have hv : V = [] := by
            have := HSE2.out
            rw [HR0.out h0, cellOf] at this
            dsimp only at this
            rw [if_pos h0] at this
            exact this
          subst hv
          have e0 : (x.id == 0) = true := by simpa using h0
          clear h0
          go_wp2_with fail
          go_ret
          exact ⟨rfl, K3.out⟩
        · have e0 : (x.id == 0) = false := by simpa using h0
          have H0 := Lib.hid h0
          have CR := Lib.hid (read_any HPL3.out.o hrl 0 k)
          clear h0
          rcases rdIx_cell k x.rd with ⟨h1, h2⟩ | ⟨q, hq, h1, h2⟩
          · rw [h2] at CR
            have hv : V = sees C x.par k := by
              have := HSE2.out
              rw [h1] at this
              dsimp only at this
              rw [if_neg H0.out] at this
              exact this
            subst hv
            clear h1 h2
            have f4_0 : w2.cell? ⟨b, 0, none⟩ = some (.int .i64 x.id) := b3.cell 0
            have f4_1 : w2.cell? ⟨b, 1, none⟩ = some (.int .i64 x.par) := b3.cell 1
            have f4_2 : w2.cell? ⟨b, 2, none⟩ = some (.slice A1 x.wr.length p1) := b3.cell 2
            have f4_3 : w2.cell? ⟨b, 3, none⟩ = some (.slice A2 x.rd.length p2) := b3.cell 3
            have f4_4 : w2.cell? ⟨b, 4, none⟩ = some (.slice A3 x.lg.length p3) := b3.cell 4
            go_wp2_with fail
            refine CR.out.mono ?_
            rintro e w3 ⟨rfl, k3⟩
            have HR4 := Lib.hid (HR3.out.keep0 k3)
            have K4 := Lib.hid (K3.out.trans k3 (by simp))
            have b4 := B3.out.keep k3 (by simp)
            have f1' : w3.cell? ⟨b, 1, none⟩ = some (.int .i64 x.par) := b4.cell 1
            clear k3 HR3 K3 B3 b3 f4_0 f4_1 f4_2 f4_3 f4_4 b4
            go_wp2_with fail
            refine (IH.out H0.out w3 HR4.out).mono ?_
            rintro e w4 ⟨rfl, k4⟩
            have K5 := Lib.hid (K4.out.trans k4 (by simp))
            clear k4
            go_wp2_with fail
            go_ret
            exact ⟨rfl, K5.out⟩
          · rw [h1] at CR
            have hv : V = valR x.rd[q] := by
              have := HSE2.out
              rw [h2] at this
              exact this
            have HV := Lib.hid hv
            clear h1 h2 hv
            have f4_0 : w2.cell? ⟨b, 0, none⟩ = some (.int .i64 x.id) := b3.cell 0
            have f4_1 : w2.cell? ⟨b, 1, none⟩ = some (.int .i64 x.par) := b3.cell 1
            have f4_2 : w2.cell? ⟨b, 2, none⟩ = some (.slice A1 x.wr.length p1) := b3.cell 2
            have f4_3 : w2.cell? ⟨b, 3, none⟩ = some (.slice A2 x.rd.length p2) := b3.cell 3
            have f4_4 : w2.cell? ⟨b, 4, none⟩ = some (.slice A3 x.lg.length p3) := b3.cell 4
            go_wp2_with fail
            refine CR.out.mono ?_
            rintro e w3 ⟨rfl, k3⟩
            have HPL4 := Lib.hid (HPL3.out.keep0 k3)
            have K4 := Lib.hid (K3.out.trans k3 (by simp))
            have b4 := B3.out.keep k3 (by simp)
            obtain ⟨g2, c2, u, hm2, -, -, q2, -, -, -⟩ := rd_cells HPL4.out.o.rd hq
            dsimp only at hm2
            obtain ⟨rfl, rfl⟩ : A2 = some ⟨g2, 0, none⟩ ∧ p2 = c2 := by injection hm2 with e1 e2 e3; exact ⟨e1, e3⟩
            have f3 : w3.cell? ⟨b, 3, none⟩ = some (.slice (some ⟨g2, 0, none⟩) x.rd.length p2) := b4.cell 3
            rw [← HV.out] at q2
            have j0 : (0 : Int) ≤ (q : Int) := by omega
            have j1 : (q : Int) < (x.rd.length : Int) := by omega
            clear k3 HR3 K3 B3 b3 b4 HV hq CR HPL4 HPL3 HSE2 f4_0 f4_1 f4_2 f4_3 f4_4
            go_wp2_with fail
            go_ret
            exact ⟨rfl, K4.out⟩
theorem rSees {P : List Str} {C : St} (hW : WF P C) (hP : PoolOk P) (hl : C.length ≤ 1000000) {w : World} {d : Nat} {F G : List Nat} (h : Rf w d F G C) (i : Int) (k : Str) :
    Calls Tryz.prog 17 #[.pointer (some ⟨d, 0, none⟩), .int .i64 i, sv k] w fun e w' => e = .returned (sv (sees C i k)) ∧ Keeps [] w w' := rSees_any hW hP hl d F G k (depth C i) w i (Nat.le_refl _) h
end Go.Proofs.YtbllmpcpfmlemaaGreat
namespace Go.Proofs.YtbllmpcpfmlemaaGreat
open Go.RowKit
noncomputable def skR15C : Code := ((Tryz.f19.body.bind (theRegion 15)).getD .skip)
set_option maxRecDepth 1000000 in
set_option maxHeartbeats 1600000 in
set_option linter.unusedSimpArgs false in
theorem skR15_any (w : World) (b g1 o1 n c1 k : Nat) (pf ky vl : Str) (t : Bool) (vl0 : Value) (q : List Str) (K : Exit → Act → World → Prop)
    (hS : ∀ W, Keeps [] w W → W.cell? ⟨b, 2, none⟩ = some (.slice (some ⟨g1, o1, none⟩) n c1) ∧ W.cell? ⟨g1, o1 + k * 2, none⟩ = some (sv ky) ∧ W.cell? ⟨g1, o1 + k * 2 + 1, none⟩ = some (sv vl))
    (hT : vl.isEmpty = !t)
    (hC : ∀ W, Keeps [] w W → Calls Tryz.prog 64 #[vl0, sv ky, .bool t] W fun e w' => ∃ v, e = .returned v ∧ w'.ownsRow 0 9 1 v q.length (vs q) ∧ Keeps [] W w')
    (i0 : (0 : Int) ≤ (k : Int)) (i1 : (k : Int) < (n : Int))
    (u0 u1 u3 u4 u5 u6 u7 u10 u12 u13 u14 u15 u16 u17 u18 u19 u20 u21 u22 u23 u24 u25 u26 u27 u28 u29 u30 u31 u32 u33 u34 u35 u36 u37 u38 u39 u40 u41 u42 u43 u44 u45 u46 u47 u48 u49 u50 u51 u52 u53 u54 u55 u56 u57 u58 u59 u60 u61 u62 u63 u64 u65 u66 u67 u68 u69 u70 u71 u72 u73 u74 : Value)
    (hK : ∀ (v57 v58 v59 v60 v61 v62 v63 v64 v65 v66 v67 v68 v69 v70 v71 : Value) (v3 : Value) (W : World), W.ownsRow 0 9 1 v3 q.length (vs q) → Keeps [] w W → K .normal ⟨#[u0, u1, sv pf, u3, u4, u5, u6, u7, .pointer (some ⟨b, 0, none⟩), v3, u10, .int .i64 (k : Nat), u12, u13, u14, u15, u16, u17, u18, u19, u20, u21, u22, u23, u24, u25, u26, u27, u28, u29, u30, u31, u32, u33, u34, u35, u36, u37, u38, u39, u40, u41, u42, u43, u44, u45, u46, u47, u48, u49, u50, u51, u52, u53, u54, u55, u56, v57, v58, v59, v60, v61, v62, v63, v64, v65, v66, v67, v68, v69, v70, v71, u72, u73, u74], []⟩ W) :
    Code.wp Tryz.prog skR15C K ⟨#[u0, u1, sv pf, u3, u4, u5, u6, u7, .pointer (some ⟨b, 0, none⟩), vl0, u10, .int .i64 (k : Nat), u12, u13, u14, u15, u16, u17, u18, u19, u20, u21, u22, u23, u24, u25, u26, u27, u28, u29, u30, u31, u32, u33, u34, u35, u36, u37, u38, u39, u40, u41, u42, u43, u44, u45, u46, u47, u48, u49, u50, u51, u52, u53, u54, u55, u56, u57, u58, u59, u60, u61, u62, u63, u64, u65, u66, u67, u68, u69, u70, u71, u72, u73, u74], []⟩ w := by
  have HS := Lib.hid hS
  have HC := Lib.hid hC
  have HT := Lib.hid hT
  clear hS hC hT
  conv => arg 2; whnf
  try dsimp only at hK ⊢
  refine wp_region_noPanic ?_
  refine wp_region_held_drew (S := fun W => W.cell? ⟨b, 2, none⟩ = some (.slice (some ⟨g1, o1, none⟩) n c1) ∧ W.cell? ⟨g1, o1 + k * 2, none⟩ = some (sv ky) ∧ W.cell? ⟨g1, o1 + k * 2 + 1, none⟩ = some (sv vl)) (by kernel_rfl) (HS.out _ ((Keeps.refl [] w).drew)) (fun hHeld => ?_)
  obtain ⟨w0, hw0⟩ : ∃ w0, w.drew = w0 := ⟨_, rfl⟩
  try rw [hw0] at hHeld
  rw [hw0]
  have K0 : Keeps [] w w0 := by rw [← hw0]; exact (Keeps.refl [] w).drew
  clear hw0
  refine wpAnyH_take (i := 0) (oi := ⟨some 57, .move (.tmp 9), 29, _, _, none⟩) (v := ?vq1) rfl (by kernel_rfl) (by kernel_rfl) (by kernel_rfl) (fun _ _ _ h => h) (Or.inl ⟨by rfl, fun W hW => ?_⟩) (by assumption) ?_
  rotate_left
  · go_simp
    with_reducible rfl
  try simp only [Act.put, lA, l0, lS]
  refine wpAnyH_take (i := 1) (oi := ⟨some 58, .fieldAddr 68 (.tmp 8) 2, 0, _, _, none⟩) (v := ?vq2) rfl (by kernel_rfl) (by kernel_rfl) (by kernel_rfl) (fun _ _ _ h => h) (Or.inl ⟨by rfl, fun W hW => ?_⟩) (by assumption) ?_
  rotate_left
  · go_simp
    with_reducible rfl
  try simp only [Act.put, lA, l0, lS]
  refine wpAnyH_take (i := 2) (oi := ⟨some 59, .load 47 (.tmp 58), 47, _, _, none⟩) (v := .slice (some ⟨g1, o1, none⟩) n c1) rfl (by kernel_rfl) (by kernel_rfl) (by kernel_rfl) (fun _ _ _ h => h) (Or.inl ⟨by rfl, fun W hW => ?_⟩) (by assumption) ?_
  · (obtain ⟨a0, a1, a2⟩ := hW; go_simp)
  try simp only [Act.put, lA, l0, lS]
  refine wpAnyH_take (i := 3) (oi := ⟨some 60, .move (.tmp 11), 3, _, _, none⟩) (v := ?vq3) rfl (by kernel_rfl) (by kernel_rfl) (by kernel_rfl) (fun _ _ _ h => h) (Or.inl ⟨by rfl, fun W hW => ?_⟩) (by assumption) ?_
  rotate_left
  · go_simp
    with_reducible rfl
  try simp only [Act.put, lA, l0, lS]
  refine wpAnyH_take (i := 4) (oi := ⟨some 61, .indexAddr 47 (.tmp 59) (.tmp 60), 0, _, _, none⟩) (v := ?vq4) rfl (by kernel_rfl) (by kernel_rfl) (by kernel_rfl) (fun _ _ _ h => h) (Or.inl ⟨by rfl, fun W hW => ?_⟩) (by assumption) ?_
  rotate_left
  · go_simp
    with_reducible rfl
  try simp only [Act.put, lA, l0, lS]
  refine wpAnyH_take (i := 5) (oi := ⟨some 62, .fieldAddr 88 (.tmp 61) 0, 0, _, _, none⟩) (v := ?vq5) rfl (by kernel_rfl) (by kernel_rfl) (by kernel_rfl) (fun _ _ _ h => h) (Or.inl ⟨by rfl, fun W hW => ?_⟩) (by assumption) ?_
  rotate_left
  · go_simp
    with_reducible rfl
  try simp only [Act.put, lA, l0, lS]
  refine wpAnyH_take (i := 6) (oi := ⟨some 63, .load 9 (.tmp 62), 9, _, _, none⟩) (v := sv ky) rfl (by kernel_rfl) (by kernel_rfl) (by kernel_rfl) (fun _ _ _ h => h) (Or.inl ⟨by rfl, fun W hW => ?_⟩) (by assumption) ?_
  · (obtain ⟨a0, a1, a2⟩ := hW; go_simp)
  try simp only [Act.put, lA, l0, lS]
  refine wpAnyH_take (i := 7) (oi := ⟨some 64, .fieldAddr 68 (.tmp 8) 2, 0, _, _, none⟩) (v := ?vq6) rfl (by kernel_rfl) (by kernel_rfl) (by kernel_rfl) (fun _ _ _ h => h) (Or.inl ⟨by rfl, fun W hW => ?_⟩) (by assumption) ?_
  rotate_left
  · go_simp
    with_reducible rfl
  try simp only [Act.put, lA, l0, lS]
  refine wpAnyH_take (i := 8) (oi := ⟨some 65, .load 47 (.tmp 64), 47, _, _, none⟩) (v := .slice (some ⟨g1, o1, none⟩) n c1) rfl (by kernel_rfl) (by kernel_rfl) (by kernel_rfl) (fun _ _ _ h => h) (Or.inl ⟨by rfl, fun W hW => ?_⟩) (by assumption) ?_
  · (obtain ⟨a0, a1, a2⟩ := hW; go_simp)
  try simp only [Act.put, lA, l0, lS]
  refine wpAnyH_take (i := 9) (oi := ⟨some 66, .move (.tmp 11), 3, _, _, none⟩) (v := ?vq7) rfl (by kernel_rfl) (by kernel_rfl) (by kernel_rfl) (fun _ _ _ h => h) (Or.inl ⟨by rfl, fun W hW => ?_⟩) (by assumption) ?_
  rotate_left
  · go_simp
    with_reducible rfl
  try simp only [Act.put, lA, l0, lS]
  refine wpAnyH_take (i := 10) (oi := ⟨some 67, .indexAddr 47 (.tmp 65) (.tmp 66), 0, _, _, none⟩) (v := ?vq8) rfl (by kernel_rfl) (by kernel_rfl) (by kernel_rfl) (fun _ _ _ h => h) (Or.inl ⟨by rfl, fun W hW => ?_⟩) (by assumption) ?_
  rotate_left
  · go_simp
    with_reducible rfl
  try simp only [Act.put, lA, l0, lS]
  refine wpAnyH_take (i := 11) (oi := ⟨some 68, .fieldAddr 88 (.tmp 67) 1, 0, _, _, none⟩) (v := ?vq9) rfl (by kernel_rfl) (by kernel_rfl) (by kernel_rfl) (fun _ _ _ h => h) (Or.inl ⟨by rfl, fun W hW => ?_⟩) (by assumption) ?_
  rotate_left
  · go_simp
    with_reducible rfl
  try simp only [Act.put, lA, l0, lS]
  refine wpAnyH_take (i := 12) (oi := ⟨some 69, .load 9 (.tmp 68), 9, _, _, none⟩) (v := sv vl) rfl (by kernel_rfl) (by kernel_rfl) (by kernel_rfl) (fun _ _ _ h => h) (Or.inl ⟨by rfl, fun W hW => ?_⟩) (by assumption) ?_
  · (obtain ⟨a0, a1, a2⟩ := hW; go_simp)
  try simp only [Act.put, lA, l0, lS]
  refine wpAnyH_take (i := 13) (oi := ⟨some 70, .binOp .neq 9 (.tmp 69) (.const (Value.string { data := #[] })) 9, 4, _, _, none⟩) (v := .bool t) rfl (by kernel_rfl) (by kernel_rfl) (by kernel_rfl) (fun _ _ _ h => h) (Or.inl ⟨by rfl, fun W hW => ?_⟩) (by assumption) ?_
  · (have a0 := HT.out; go_simp)
  try simp only [Act.put, lA, l0, lS]
  refine wpAnyH_ready (rs := [14]) (by kernel_rfl) (by simp) ?_
  refine AllReadyH.cons (o := ⟨some 71, .call { callee := .value (.func 64), args := #[.tmp 57, .tmp 63, .tmp 70], argTypes := #[29, 9, 4] }, 29, _, _, none⟩) rfl (fun KK hKK => ?_) AllReadyH.nil
  refine step_callW (by rfl) 64 _ _ rfl #[vl0, sv ky, .bool t] (by first | (simp [Act.eval]; done) | (simp [Act.eval, Act.put]; done)) (enters_of Tryz.func64 (by kernel_rfl) rfl) (HC.out _ K0) ?_
  rintro e W10 ⟨v, rfl, r1, k11⟩
  refine ⟨_, rfl, ?_⟩
  have K12 := K0.trans k11 (by simp)
  refine hKK.out _ _ (HS.out _ K12) (fun hHeld => ?_)
  clear hKK KK
  try simp only [Act.put, lA, l0, lS]
  refine wpAnyH_take (i := 15) (oi := ⟨some 9, .assign (.tmp 71), 29, _, _, none⟩) (v := v) rfl (by kernel_rfl) (by kernel_rfl) (by kernel_rfl) (fun _ _ _ h => h) (Or.inl ⟨by rfl, fun W hW => ?_⟩) (by assumption) ?_
  · go_simp
  try simp only [Act.put, lA, l0, lS]
  refine wpAnyH_done (by kernel_rfl) ?_ _
  refine NoPanic.normal ?_
  exact hK _ _ _ _ _ _ _ _ _ _ _ _ _ _ _ _ _ r1 K12
end Go.Proofs.YtbllmpcpfmlemaaGreat
