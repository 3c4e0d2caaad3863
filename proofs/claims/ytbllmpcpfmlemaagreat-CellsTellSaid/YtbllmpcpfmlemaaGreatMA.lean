/- Texts of the elder seat, turned to this one: W1 W2 W3. -/
import Derived.Test.YtbllmpcpfmlemaaGreatMP
import Derived.Test.YtbllmpcpfmlemaaGreatGr
import Derived.Test.YtbllmpcpfmlemaaGreatRw
import Derived.WalkArith
import Derived.StringKeys
import Derived.Test.YtbllmpcpfmlemaaGreatClose
namespace Go.Proofs.YtbllmpcpfmlemaaGreat
open Go.RowKit

def bs (s : Str) : ByteArray := ⟨s.toArray⟩
abbrev sv (s : Str) : Value := .string (bs s)
@[simp] theorem bs_data (s : Str) : (bs s).data.toList = s := rfl
@[simp] theorem bs_toList (s : Str) : (bs s).toList = s := by rw [Lib.toList_data]; rfl
@[simp] theorem bs_size (s : Str) : (bs s).size = s.length := by rw [Lib.size_eq]; rfl
theorem bs_append (s t : Str) : bs s ++ bs t = bs (s ++ t) := by
  apply ByteArray.ext
  simp [bs]
theorem bs_inj {s t : Str} (h : bs s = bs t) : s = t := by rw [← bs_data s, h, bs_data]
theorem sv_inj {s t : Str} (h : sv s = sv t) : s = t := by injection h with h; exact bs_inj h
theorem bs_nil : (bs []) = ⟨#[]⟩ := rfl
theorem bs_of (b : ByteArray) : bs b.data.toList = b := by simp [bs]
theorem bs_beq (s t : Str) : ((bs s).toList == (bs t).toList) = decide (s = t) := by
  rw [bs_toList, bs_toList]
  by_cases h : s = t <;> simp [h]
theorem keyed3 : Maps.Keyed Tryz.prog 3 := Maps.int_keyed Tryz.underlying3
theorem wfZ {x : Int} (h1 : -9223372036854775808 ≤ x) (h2 : x ≤ 9223372036854775807) : (Lit.int .i64 x).wf = true := WalkArith.wf_i64 ⟨h1, h2⟩
noncomputable def kI : KeyS 3 Int where
  K := keyed3
  val := fun x => .int .i64 x
  vinj := fun x y h => by injection h
  inv := fun h => by obtain ⟨x, rfl, _, _⟩ := Maps.keyOf_int_inv Tryz.underlying3 h; exact ⟨x, rfl⟩
theorem kI_ok {x : Int} (h1 : -9223372036854775808 ≤ x) (h2 : x ≤ 9223372036854775807) : kI.ok x := ⟨_, Maps.keyOf_int_mk Tryz.underlying3 (wfZ h1 h2)⟩
noncomputable def kS : KeyS 9 Str where
  K := Maps.string_keyed Tryz.underlying9
  val := sv
  vinj := fun x y h => sv_inj h
  inv := fun h => by obtain ⟨x, hx, _⟩ := Maps.keyOf_str Tryz.underlying9 h; exact ⟨x, hx⟩
theorem kS_ok {x : Str} (h : x.length ≤ maxLen) : kS.ok x := ⟨_, WideMaps.keyOf_string_mk Tryz.underlying9 (s := bs x) (by rw [bs_size]; exact h)⟩
theorem kS_lit {x : Str} (h : kS.ok x) : kS.lit x = .string x ∧ x.length ≤ maxLen := by
  have h1 := KeyS.of h
  obtain ⟨y, hy, hl, hm⟩ := Maps.keyOf_str Tryz.underlying9 h1
  obtain rfl : x = y := sv_inj hy
  exact ⟨hl, hm⟩
/-- A list of strings in memory. -/
structure SlV where
  b : Option Nat
  n : Nat
  c : Nat
def SlV.v (x : SlV) : Value := .slice (x.b.map fun g => ⟨g, 0, none⟩) x.n x.c
def natD (n : Nat) : DataW Unit := .lit (.int .i64 (n : Int))
theorem natD_inj {a b : Nat} (h : natD a = natD b) : a = b := by
  unfold natD at h
  injection h with h
  injection h with _ h
  omega
theorem SlV.inj {x y : SlV} (h : x.v = y.v) : x = y := by
  obtain ⟨a1, a2, a3⟩ := x
  obtain ⟨b1, b2, b3⟩ := y
  simp only [SlV.v, Value.slice.injEq] at h
  obtain ⟨h4, rfl, rfl⟩ := h
  have : a1 = b1 := by
    cases a1 <;> cases b1 <;> simp at h4 ⊢
    exact h4
  rw [this]
def eS : ElS Str where
  val := sv
  vinj := fun x y h => sv_inj h
  enc := fun x => .lit (.string x)
  einj := fun x y h => by injection h with h; injection h
  ne := fun x h => by cases h
def eB : ElS Bool where
  val := fun x => .bool x
  vinj := fun x y h => by injection h
  enc := fun x => .lit (.bool x)
  einj := fun x y h => by injection h with h; injection h
  ne := fun x h => by cases h
def eP : ElS Nat where
  val := fun x => .pointer (some ⟨x, 0, none⟩)
  vinj := fun x y h => by injection h with h; injection h with h; injection h
  enc := natD
  einj := fun x y h => natD_inj h
  ne := fun x h => by cases h
def eL : ElS SlV where
  val := SlV.v
  vinj := fun x y h => SlV.inj h
  enc := fun x => .agg [match x.b with | some g => natD g | none => .nil, natD x.n, natD x.c]
  einj := fun x y h => by
    obtain ⟨a1, a2, a3⟩ := x
    obtain ⟨b1, b2, b3⟩ := y
    simp only [DataW.agg.injEq, List.cons.injEq, and_true] at h
    obtain ⟨h1, h2, h3⟩ := h
    have e1 : a1 = b1 := by
      cases a1 <;> cases b1 <;> simp [natD] at h1 ⊢
      omega
    rw [e1, natD_inj h2, natD_inj h3]
  ne := fun x h => by cases h
theorem zero55 (w : World) : (zeroValue 61).run Tryz.prog w = .ok (.pointer none) w := by kernel_rfl
theorem zero9 (w : World) : (zeroValue 9).run Tryz.prog w = .ok (.string ⟨#[]⟩) w := by kernel_rfl
theorem zero27 (w : World) : (zeroValue 29).run Tryz.prog w = .ok (.slice none 0 0) w := by kernel_rfl
theorem zero4 (w : World) : (zeroValue 4).run Tryz.prog w = .ok (.bool false) w := by kernel_rfl
open Classical in
theorem nodup_le {κ : Type} : ∀ (ks l : List κ), ks.Nodup → (∀ x ∈ ks, x ∈ l) → ks.length ≤ l.length := by
  intro ks
  induction ks with
  | nil => intro l _ _; exact Nat.zero_le _
  | cons x ks ih =>
    intro l hn hs
    obtain ⟨h1, h2⟩ := List.nodup_cons.1 hn
    have hx := hs x (by simp)
    have h3 := ih (l.erase x) h2 (fun y hy => (List.mem_erase_of_ne (fun e => h1 (by rw [← e]; exact hy))).2 (hs y (by simp [hy])))
    rw [List.length_erase_of_mem hx] at h3
    have := List.length_pos_of_mem hx
    simp only [List.length_cons]
    omega
/-- As many entries as the keys, and no more. -/
theorem GMap.fit {kt e T : TypeId} {κ V : Type} {S : KeyS kt κ} {E : ElS V} {w : World} {b n : Nat} {f : κ → Option V} (h : GMap S E w b n f) (ht : Tryz.prog.underlying T = some (.map kt e)) (l : List κ) (hl : ∀ x, S.ok x → (f x).isSome = true → x ∈ l) : GMap S E w b l.length f := by
  obtain ⟨ks, h1, h2, h3, h4⟩ := h.size
  obtain ⟨D, hown, hat⟩ := h
  have e1 := h4 ht 0
  rw [hown.len ht 0] at e1
  have e2 : Maps.size D = ks.length := by
    simp only [Result.ok.injEq, Value.int.injEq, true_and, and_true] at e1
    omega
  have hsub : ks.length ≤ l.length := nodup_le ks l h1 (fun x hx => hl x (h2 x hx) ((h3 x (h2 x hx)).1 hx))
  obtain ⟨es, clock, hb, F, hn, rfl⟩ := hown
  have e3 : es.size = ks.length := by rw [← e2]; simp [Maps.size, length_sorted]
  exact ⟨_, ⟨es, clock, hb, F, by omega, rfl⟩, hat⟩
theorem GMap.congr {kt : TypeId} {κ V : Type} {S : KeyS kt κ} {E : ElS V} {w : World} {b n : Nat} {f g : κ → Option V} (h : GMap S E w b n f) (hg : ∀ x, S.ok x → g x = f x) : GMap S E w b n g := by
  obtain ⟨D, hown, hat⟩ := h
  exact ⟨D, hown, fun x hx z => by rw [hg x hx]; exact hat x hx z⟩
end Go.Proofs.YtbllmpcpfmlemaaGreat
namespace Go.Proofs.YtbllmpcpfmlemaaGreat
open Go.RowKit

def rdC (sl : Str → SlV) : Rd → List Value
  | .cell k v => [.int .i64 0, sv k, sv v, .slice none 0 0]
  | .keys p _ => [.int .i64 1, sv p, sv [], (sl p).v]
theorem rdC_len (sl : Str → SlV) (r : Rd) : (rdC sl r).length = 4 := by cases r <;> rfl
def pv (p : Option Nat) : Value := .pointer (p.map fun g => ⟨g, 0, none⟩)
/-- Where one lies. -/
structure Mem where
  b : Nat
  mw : Nat
  ml : Nat
  row : Value
  mv : Nat
  mq : Nat
  sl : Str → SlV
def Mem.blocks (M : Mem) : List Nat := M.b :: M.mw :: M.ml :: M.mv :: M.mq :: fp M.row
structure OneAt (w : World) (M : Mem) (pp : Option Nat) (nk : Nat) (x : One) : Prop where
  b : Blk w M.b 77 #[pv pp, .int .i64 nk, .map (some M.mw), .map (some M.ml), M.row, .map (some M.mv), .map (some M.mq)]
  wm : GMap kS eS w M.mw x.wr.length (mget x.wr)
  l : GMap kS eS w M.ml x.lg.length (mget x.lg)
  o : w.ownsRow 0 34 4 M.row x.rd.length (rw (rdC M.sl) x.rd)
  v : GMap kS eS w M.mv (cellKeys x.rd).length (cellOf x.rd)
  k : GMap kS eL w M.mq (prefixes x.rd).length (fun p => (keysOf x.rd p).map fun _ => M.sl p)
  s : ∀ p l, Rd.keys p l ∈ x.rd → w.ownsRow 0 9 1 (M.sl p).v l.length (l.map sv)
theorem OneAt.keep {K : List Nat} {w w' : World} {M : Mem} {pp : Option Nat} {nk : Nat} {x : One} (h : OneAt w M pp nk x) (hk : Keeps K w w') (hb : ∀ g ∈ M.blocks, g ∉ K) (hs : ∀ p l, Rd.keys p l ∈ x.rd → ∀ g ∈ fp (M.sl p).v, g ∉ K) : OneAt w' M pp nk x :=
  ⟨h.b.keep hk (hb _ (by simp [Mem.blocks])), h.wm.keep hk (hb _ (by simp [Mem.blocks])), h.l.keep hk (hb _ (by simp [Mem.blocks])), own_keep h.o hk (fun g hg => hb g (by simp [Mem.blocks, hg])),
    h.v.keep hk (hb _ (by simp [Mem.blocks])), h.k.keep hk (hb _ (by simp [Mem.blocks])), fun p l hl => own_keep (h.s p l hl) hk (hs p l hl)⟩
/-- Labels tell blocks apart. -/
structure Lab (L : Nat → Option (Int × Nat)) (i : Int) (M : Mem) : Prop where
  b : L M.b = some (i, 0)
  mw : L M.mw = some (i, 1)
  ml : L M.ml = some (i, 2)
  mv : L M.mv = some (i, 3)
  mq : L M.mq = some (i, 4)
  row : ∀ g ∈ fp M.row, L g = some (i, 5)
theorem Lab.all {L : Nat → Option (Int × Nat)} {i : Int} {M : Mem} (h : Lab L i M) : ∀ g ∈ M.blocks, ∃ n, n < 6 ∧ L g = some (i, n) := by
  intro g hg
  simp only [Mem.blocks, List.mem_cons] at hg
  rcases hg with rfl | rfl | rfl | rfl | rfl | hg
  · exact ⟨0, by omega, h.b⟩
  · exact ⟨1, by omega, h.mw⟩
  · exact ⟨2, by omega, h.ml⟩
  · exact ⟨3, by omega, h.mv⟩
  · exact ⟨4, by omega, h.mq⟩
  · exact ⟨5, by omega, h.row g hg⟩
def parOf (Mo : Int → Mem) (x : One) : Option Nat := if x.id = 0 then none else some (Mo x.par).b
structure RepM (w : World) (c m : Nat) (Mo : Int → Mem) (L : Nat → Option (Int × Nat)) (F G : List Nat) (C : St) : Prop where
  cb : Blk w c 65 #[.map (some m)]
  all : GMap kI eP w m C.length (fun i => if has C i = true then some (Mo i).b else none)
  one : ∀ x ∈ C, OneAt w (Mo x.id) (parOf Mo x) (kids C x.id) x
  lab : ∀ x ∈ C, Lab L x.id (Mo x.id)
  lc : L c = some (0, 6)
  lm : L m = some (0, 7)
  inF : ∀ g, (L g).isSome = true → g ∈ F
  inG : ∀ x ∈ C, ∀ p l, Rd.keys p l ∈ x.rd → ∀ g ∈ fp ((Mo x.id).sl p).v, g ∈ G
  ltF : ∀ g ∈ F, g < w.heap.size
  ltG : ∀ g ∈ G, g < w.heap.size
  apart : ∀ g ∈ G, g ∉ F
section
variable {w w' : World} {c m : Nat} {Mo : Int → Mem} {L : Nat → Option (Int × Nat)} {F G : List Nat} {C : St}
theorem RepM.blkF (h : RepM w c m Mo L F G C) {x : One} (hx : x ∈ C) {g : Nat} (hg : g ∈ (Mo x.id).blocks) : g ∈ F := by
  obtain ⟨n, _, hl⟩ := (h.lab x hx).all g hg
  exact h.inF g (by rw [hl]; rfl)
theorem RepM.cF (h : RepM w c m Mo L F G C) : c ∈ F := h.inF c (by rw [h.lc]; rfl)
theorem RepM.mF (h : RepM w c m Mo L F G C) : m ∈ F := h.inF m (by rw [h.lm]; rfl)
theorem RepM.keep {K : List Nat} (h : RepM w c m Mo L F G C) (hk : Keeps K w w') (hF : ∀ g ∈ K, g ∉ F) (hG : ∀ g ∈ K, g ∉ G) : RepM w' c m Mo L F G C where
  cb := h.cb.keep hk (fun hc => hF c hc h.cF)
  all := h.all.keep hk (fun hc => hF m hc h.mF)
  one := fun x hx => (h.one x hx).keep hk (fun g hg hgK => hF g hgK (h.blkF hx hg)) (fun p l hl g hg hgK => hG g hgK (h.inG x hx p l hl g hg))
  lab := h.lab
  lc := h.lc
  lm := h.lm
  inF := h.inF
  inG := h.inG
  ltF := fun g hg => Nat.lt_of_lt_of_le (h.ltF g hg) hk.size
  ltG := fun g hg => Nat.lt_of_lt_of_le (h.ltG g hg) hk.size
  apart := h.apart
theorem RepM.keep0 (h : RepM w c m Mo L F G C) (hk : Keeps [] w w') : RepM w' c m Mo L F G C := h.keep hk (by simp) (by simp)
theorem RepM.drewN (h : RepM w c m Mo L F G C) (n : Nat) : RepM (w.drewN n) c m Mo L F G C := h.keep0 ((Keeps.refl [] w).drewN n)
/-- 'c.all[id]'. -/
theorem RepM.look (h : RepM w c m Mo L F G C) {i : Int} (h1 : -9223372036854775808 ≤ i) (h2 : i ≤ 9223372036854775807) :
    (Instr.lookup 63 (.map (some m)) (.int .i64 i) false).run Tryz.prog w = .ok (pv (if has C i = true then some (Mo i).b else none)) w := by
  have e := h.all.look1 (kI_ok h1 h2) Tryz.underlying63 (zero55 w)
  by_cases hh : has C i = true
  · simp only [hh, if_true] at e ⊢
    exact e
  · simp only [hh] at e ⊢
    exact e
theorem RepM.look2 (h : RepM w c m Mo L F G C) {i : Int} (h1 : -9223372036854775808 ≤ i) (h2 : i ≤ 9223372036854775807) :
    (Instr.lookup 63 (.map (some m)) (.int .i64 i) true).run Tryz.prog w = .ok (.tuple #[pv (if has C i = true then some (Mo i).b else none), .bool (has C i)]) w := by
  have e := h.all.look (kI_ok h1 h2) Tryz.underlying63 (zero55 w)
  by_cases hh : has C i = true
  · simp only [hh, if_true] at e ⊢
    exact e
  · simp only [hh] at e ⊢
    exact e
end
/-- Blocks that came to a list are new. -/
def More (w : World) (F F' : List Nat) : Prop := (∀ g ∈ F, g ∈ F') ∧ ∀ g ∈ F', g ∈ F ∨ w.heap.size ≤ g
theorem More.refl (w : World) (F : List Nat) : More w F F := ⟨fun _ h => h, fun _ h => .inl h⟩
theorem More.trans {w w' : World} {A B D : List Nat} (h : More w A B) (k : More w' B D) (hs : w.heap.size ≤ w'.heap.size) : More w A D :=
  ⟨fun g hg => k.1 g (h.1 g hg), fun g hg => by
    rcases k.2 g hg with h1 | h1
    · exact h.2 g h1
    · exact .inr (by omega)⟩
def upMo (Mo : Int → Mem) (i : Int) (row : Value) (sl : Str → SlV) : Int → Mem := fun j => if j = i then { Mo j with row := row, sl := sl } else Mo j
theorem upMo_b (Mo : Int → Mem) (i : Int) (row : Value) (sl : Str → SlV) (j : Int) : (upMo Mo i row sl j).b = (Mo j).b := by unfold upMo; split <;> rfl
theorem upMo_ne (Mo : Int → Mem) {i j : Int} (row : Value) (sl : Str → SlV) (h : j ≠ i) : upMo Mo i row sl j = Mo j := by unfold upMo; rw [if_neg h]
theorem upMo_eq (Mo : Int → Mem) (i : Int) (row : Value) (sl : Str → SlV) : upMo Mo i row sl i = { Mo i with row := row, sl := sl } := by unfold upMo; rw [if_pos rfl]
theorem upMo_self (Mo : Int → Mem) (i : Int) : upMo Mo i (Mo i).row (Mo i).sl = Mo := by
  funext j
  unfold upMo
  split
  · rename_i e; subst e; rfl
  · rfl
theorem upMo_upMo (Mo : Int → Mem) (i : Int) (r r' : Value) (s s' : Str → SlV) : upMo (upMo Mo i r s) i r' s' = upMo Mo i r' s' := by
  funext j
  unfold upMo
  split <;> rfl
theorem parOf_upMo (Mo : Int → Mem) (i : Int) (row : Value) (sl : Str → SlV) (x : One) : parOf (upMo Mo i row sl) x = parOf Mo x := by unfold parOf; rw [upMo_b]
/-- One has turned: its row of reads may have moved, and a row of strings may have come. -/
theorem RepM.turn {w w' : World} {c m : Nat} {Mo : Int → Mem} {L : Nat → Option (Int × Nat)} {F G K N : List Nat} {C : St} (h : RepM w c m Mo L F G C) (ht : Tree C) {i : Int} {x : One} (hx : find C i = some x) {g : One → One} (hid : ∀ x, (g x).id = x.id) (hpar : ∀ x, (g x).par = x.par)
    (hk : Keeps K w w') (hK : ∀ b ∈ K, b ∈ (Mo i).blocks ∨ w.heap.size ≤ b) (row : Value) (sl : Str → SlV)
    (hrow : ∀ b ∈ fp row, b ∈ fp (Mo i).row ∨ w.heap.size ≤ b) (hrl : ∀ b ∈ fp row, b < w'.heap.size) (hNl : ∀ b ∈ N, w.heap.size ≤ b ∧ b < w'.heap.size ∧ b ∉ fp row)
    (hN : ∀ p l, Rd.keys p l ∈ (g x).rd → ∀ b ∈ fp (sl p).v, b ∈ G ∨ b ∈ N)
    (hone : OneAt w' { Mo i with row := row, sl := sl } (parOf Mo x) (kids C i) (g x)) :
    ∃ L', RepM w' c m (upMo Mo i row sl) L' (fp row ++ F) (N ++ G) (upd C i g) := by
  obtain ⟨hxC, hxi⟩ := find_mem hx
  have hlx := h.lab x hxC
  rw [hxi] at hlx
  have hKF : ∀ b ∈ K, ∀ a n, L b = some (a, n) → b < w.heap.size → a = i ∧ n < 6 := by
    intro b hb a n hl hlt
    rcases hK b hb with h1 | h1
    · obtain ⟨n', hn, e⟩ := hlx.all b h1
      rw [hl] at e
      injection e with e
      injection e with e1 e2
      exact ⟨e1, by omega⟩
    · omega
  have hKG : ∀ b ∈ K, b ∉ G := by
    intro b hb hbG
    rcases hK b hb with h1 | h1
    · obtain ⟨n', hn, e⟩ := hlx.all b h1
      exact h.apart b hbG (h.inF b (by rw [e]; rfl))
    · have := h.ltG b hbG; omega
  refine ⟨fun b => if b ∈ fp row then some (i, 5) else L b, ?_⟩
  have hold : ∀ b, b < w.heap.size → ∀ a n, L b = some (a, n) → (a ≠ i ∨ n ≠ 5) → (if b ∈ fp row then some (i, 5) else L b) = some (a, n) := by
    intro b hb a n hl hne
    rw [if_neg ?_, hl]
    intro hbr
    rcases hrow b hbr with h1 | h1
    · rw [hlx.row b h1] at hl
      injection hl with hl
      injection hl with e1 e2
      rcases hne with h2 | h2
      · exact h2 e1.symm
      · exact h2 e2.symm
    · omega
  have hlt : ∀ b a n, L b = some (a, n) → b < w.heap.size := fun b a n hl => h.ltF b (h.inF b (by rw [hl]; rfl))
  refine ⟨?_, ?_, ?_, ?_, ?_, ?_, ?_, ?_, ?_, ?_, ?_⟩
  · exact h.cb.keep hk (fun hc => by have := (hKF c hc _ _ h.lc h.cb.lt).2; omega)
  · have h1 := h.all.keep hk (fun hc => by have := (hKF m hc _ _ h.lm h.all.lt).2; omega)
    rw [upd_len]
    refine h1.congr (fun j _ => ?_)
    rw [has_upd hid, upMo_b]
  · intro y hy
    obtain ⟨z, hz, ⟨hzi, rfl⟩ | ⟨hzi, rfl⟩⟩ := mem_upd hy
    · obtain rfl : z = x := ht.inj hz hxC (hzi.trans hxi.symm)
      rw [hid, hzi, upMo_eq, kids_upd hid hpar]
      have e : parOf (upMo Mo i row sl) (g z) = parOf Mo z := by rw [parOf_upMo]; unfold parOf; rw [hid, hpar]
      rw [e]
      exact hone
    · rw [upMo_ne Mo row sl hzi, kids_upd hid hpar, parOf_upMo]
      refine (h.one y hz).keep hk (fun b hb hbK => ?_) (fun p l hl b hb hbK => hKG b hbK (h.inG y hz p l hl b hb))
      obtain ⟨n, _, e⟩ := (h.lab y hz).all b hb
      exact hzi (hKF b hbK _ _ e (hlt b _ _ e)).1
  · intro y hy
    obtain ⟨z, hz, hzy⟩ := mem_upd hy
    have hyz : y.id = z.id := by rcases hzy with ⟨_, rfl⟩ | ⟨_, rfl⟩; exact hid z; rfl
    rw [hyz]
    have hl := h.lab z hz
    by_cases hzi : z.id = i
    · rw [hzi] at hl ⊢
      rw [upMo_eq]
      exact ⟨hold _ (hlt _ _ _ hl.b) _ _ hl.b (.inr (by omega)), hold _ (hlt _ _ _ hl.mw) _ _ hl.mw (.inr (by omega)), hold _ (hlt _ _ _ hl.ml) _ _ hl.ml (.inr (by omega)), hold _ (hlt _ _ _ hl.mv) _ _ hl.mv (.inr (by omega)),
        hold _ (hlt _ _ _ hl.mq) _ _ hl.mq (.inr (by omega)), fun b hb => if_pos hb⟩
    · rw [upMo_ne Mo row sl hzi]
      exact ⟨hold _ (hlt _ _ _ hl.b) _ _ hl.b (.inl hzi), hold _ (hlt _ _ _ hl.mw) _ _ hl.mw (.inl hzi), hold _ (hlt _ _ _ hl.ml) _ _ hl.ml (.inl hzi), hold _ (hlt _ _ _ hl.mv) _ _ hl.mv (.inl hzi),
        hold _ (hlt _ _ _ hl.mq) _ _ hl.mq (.inl hzi), fun b hb => hold _ (hlt _ _ _ (hl.row b hb)) _ _ (hl.row b hb) (.inl hzi)⟩
  · exact hold c (hlt _ _ _ h.lc) _ _ h.lc (.inr (by omega))
  · exact hold m (hlt _ _ _ h.lm) _ _ h.lm (.inr (by omega))
  · intro b hb
    by_cases hbr : b ∈ fp row
    · exact List.mem_append_left _ hbr
    · rw [if_neg hbr] at hb
      exact List.mem_append_right _ (h.inF b hb)
  · intro y hy p l hl b hb
    obtain ⟨z, hz, ⟨hzi, rfl⟩ | ⟨hzi, rfl⟩⟩ := mem_upd hy
    · obtain rfl : z = x := ht.inj hz hxC (hzi.trans hxi.symm)
      rw [hid, hzi, upMo_eq] at hb
      rcases hN p l hl b hb with h1 | h1
      · exact List.mem_append_right _ h1
      · exact List.mem_append_left _ h1
    · rw [upMo_ne Mo row sl hzi] at hb
      exact List.mem_append_right _ (h.inG y hz p l hl b hb)
  · intro b hb
    rcases List.mem_append.1 hb with h1 | h1
    · exact hrl b h1
    · exact Nat.lt_of_lt_of_le (h.ltF b h1) hk.size
  · intro b hb
    rcases List.mem_append.1 hb with h1 | h1
    · exact (hNl b h1).2.1
    · exact Nat.lt_of_lt_of_le (h.ltG b h1) hk.size
  · intro b hb hbF
    rcases List.mem_append.1 hb with h1 | h1
    · obtain ⟨n1, n2, n3⟩ := hNl b h1
      rcases List.mem_append.1 hbF with h2 | h2
      · exact n3 h2
      · have := h.ltF b h2; omega
    · rcases List.mem_append.1 hbF with h2 | h2
      · rcases hrow b h2 with h3 | h3
        · exact h.apart b h1 (h.inF b (by rw [hlx.row b h3]; rfl))
        · have := h.ltG b h1; omega
      · exact h.apart b h1 h2
/-- What an operation upon i does to the cells in memory. -/
def StepOn (i : Int) (w w' : World) (c m : Nat) (Mo : Int → Mem) (F G : List Nat) (D : St) : Prop :=
  ∃ row sl L' F' G', RepM w' c m (upMo Mo i row sl) L' F' G' D ∧ More w F F' ∧ More w G G' ∧ (∀ b ∈ fp row, b ∈ fp (Mo i).row ∨ w.heap.size ≤ b) ∧ Keeps (Mo i).blocks w w'
theorem StepOn.same {i : Int} {w w' : World} {c m : Nat} {Mo : Int → Mem} {L : Nat → Option (Int × Nat)} {F G : List Nat} {C : St} (h : RepM w' c m Mo L F G C) (hk : Keeps (Mo i).blocks w w') : StepOn i w w' c m Mo F G C :=
  ⟨(Mo i).row, (Mo i).sl, L, F, G, by rw [upMo_self]; exact h, More.refl _ _, More.refl _ _, fun _ h => .inl h, hk⟩
end Go.Proofs.YtbllmpcpfmlemaaGreat
namespace Go.Proofs.YtbllmpcpfmlemaaGreat
open Go.RowKit

set_option maxHeartbeats 1000000 in
theorem prefix68 (s p : Str) (w : World) : Calls Tryz.prog 100 #[sv s, sv p] w fun e w' => e = .returned (.bool (pre p s)) ∧ w' = w := by
  unfold pre
  rw [← Lib.hasPrefix_of_take]
  go_enter Tryz.func100, Tryz.ntmps100
  go_wp2
  · rename_i h
    go_ret
    refine ⟨?_, rfl⟩
    show Ending.returned (Value.bool (((bs s).extract 0 (List.length p)).toList == p)) = _
    rw [Lib.extract_toList]
    simp [h]
  · rename_i h
    go_ret
    refine ⟨?_, rfl⟩
    simp at h
    simp [Nat.not_le.2 h]
set_option maxHeartbeats 1000000 in
theorem prefix_any (s p : Str) (w : World) : Calls Tryz.prog 87 #[sv s, sv p] w fun e w' => e = .returned (.bool (pre p s)) ∧ w' = w := by
  go_enter Tryz.func87, Tryz.ntmps87
  go_wp2_with fail
  refine (prefix68 s p w).mono ?_
  rintro e w1 ⟨rfl, rfl⟩
  go_wp2_with fail
  go_ret
  exact ⟨rfl, rfl⟩
theorem has_tail {C : St} {x : One} (hx : x ∈ C) : has C x.id = true := has_iff.2 ⟨x, hx, rfl⟩
theorem sees_eq {C : St} (h : Tree C) {x : One} (hx : x ∈ C) (k : Str) : sees C x.id k = match mget x.wr k with
    | some v => v
    | none => match cellOf x.rd k with
      | some v => v
      | none => if x.id = 0 then [] else sees C x.par k := by
  induction C with
  | nil => cases h
  | cons z t ih =>
    rcases h with ⟨h1, _, rfl⟩ | ⟨h1, h2, h3, h4⟩
    · obtain rfl : x = z := by simpa using hx
      rw [sees, if_pos rfl, if_pos h1]
      rfl
    · rcases List.mem_cons.1 hx with e | hx2
      · have hne : ¬ x.id = x.par := fun e2 => by
          rw [← e] at h2 h3
          rw [← e2, h3] at h2
          cases h2
        have h0 : ¬ x.id = 0 := by rw [e]; omega
        rw [← e, sees, if_pos rfl, if_neg h0, sees, if_neg hne]
        rfl
      · have hxt := has_iff.2 ⟨x, hx2, rfl⟩
        have hne : ¬ z.id = x.id := fun e => by rw [e, hxt] at h3; cases h3
        rw [sees, if_neg hne, ih h4 hx2]
        by_cases h0 : x.id = 0
        · simp only [if_pos h0]
        · have hp := h4.par hx2 h0
          have hnp : ¬ z.id = x.par := fun e => by rw [e, hp] at h3; cases h3
          rw [if_neg h0, if_neg h0, sees, if_neg hnp]
theorem seesKeys_eq {C : St} (h : Tree C) {x : One} (hx : x ∈ C) (p : Str) : seesKeys C x.id p = over x.wr p (match keysOf x.rd p with
    | some l => l
    | none => if x.id = 0 then [] else seesKeys C x.par p) := by
  induction C with
  | nil => cases h
  | cons z t ih =>
    rcases h with ⟨h1, _, rfl⟩ | ⟨h1, h2, h3, h4⟩
    · obtain rfl : x = z := by simpa using hx
      rw [seesKeys, if_pos rfl, if_pos h1]
      rfl
    · rcases List.mem_cons.1 hx with e | hx2
      · have hne : ¬ x.id = x.par := fun e2 => by
          rw [← e] at h2 h3
          rw [← e2, h3] at h2
          cases h2
        have h0 : ¬ x.id = 0 := by rw [e]; omega
        rw [← e, seesKeys, if_pos rfl, if_neg h0, seesKeys, if_neg hne]
        rfl
      · have hxt := has_iff.2 ⟨x, hx2, rfl⟩
        have hne : ¬ z.id = x.id := fun e => by rw [e, hxt] at h3; cases h3
        rw [seesKeys, if_neg hne, ih h4 hx2]
        by_cases h0 : x.id = 0
        · simp only [if_pos h0]
        · have hp := h4.par hx2 h0
          have hnp : ¬ z.id = x.par := fun e => by rw [e, hp] at h3; cases h3
          rw [if_neg h0, if_neg h0, seesKeys, if_neg hnp]
/-- How many are at least as old. -/
def depth : St → Int → Nat
  | [], _ => 0
  | x :: t, j => if x.id = j then t.length + 1 else depth t j
theorem depth_pos {C : St} {i : Int} (h : has C i = true) : 0 < depth C i := by
  induction C with
  | nil => cases h
  | cons x t ih =>
    rw [depth]
    split
    · omega
    · rename_i hne
      rw [has_cons] at h
      simp [hne] at h
      exact ih h
theorem depth_le (C : St) (i : Int) : depth C i ≤ C.length := by
  induction C with
  | nil => exact Nat.le_refl _
  | cons x t ih =>
    rw [depth]
    split
    · simp
    · simp only [List.length_cons]; omega
theorem depth_par {C : St} (h : Tree C) {x : One} (hx : x ∈ C) (h0 : x.id ≠ 0) : depth C x.par < depth C x.id := by
  induction C with
  | nil => cases h
  | cons z t ih =>
    rcases h with ⟨h1, _, rfl⟩ | ⟨h1, h2, h3, h4⟩
    · obtain rfl : x = z := by simpa using hx
      exact absurd h1 h0
    · rcases List.mem_cons.1 hx with e | hx2
      · have hne : ¬ x.id = x.par := fun e2 => by
          rw [← e] at h2 h3
          rw [← e2, h3] at h2
          cases h2
        rw [← e, depth, if_neg hne, depth, if_pos rfl]
        have := depth_le t x.par
        omega
      · have hxt := has_iff.2 ⟨x, hx2, rfl⟩
        have hne : ¬ z.id = x.id := fun e => by rw [e, hxt] at h3; cases h3
        have hp := h4.par hx2 h0
        have hnp : ¬ z.id = x.par := fun e => by rw [e, hp] at h3; cases h3
        rw [depth, if_neg hnp, depth, if_neg hne]
        exact ih h4 hx2
section
variable {w : World} {c m : Nat} {Mo : Int → Mem} {L : Nat → Option (Int × Nat)} {F G : List Nat} {C : St}
theorem RepM.inj (h : RepM w c m Mo L F G C) {x y : One} (hx : x ∈ C) (hy : y ∈ C) (e : (Mo x.id).b = (Mo y.id).b) : x.id = y.id := by
  have h1 := (h.lab x hx).b
  rw [e, (h.lab y hy).b] at h1
  injection h1 with h1
  injection h1 with h1
  exact h1.symm
open Classical in
/-- How deep a pointer lies. -/
noncomputable def rk (C : St) (Mo : Int → Mem) (v : Value) : Nat := if h : ∃ x ∈ C, v = pv (some (Mo x.id).b) then depth C h.choose.id else 0
theorem rk_some (h : RepM w c m Mo L F G C) {x : One} (hx : x ∈ C) : rk C Mo (pv (some (Mo x.id).b)) = depth C x.id := by
  have hh : ∃ y ∈ C, pv (some (Mo x.id).b) = pv (some (Mo y.id).b) := ⟨x, hx, rfl⟩
  unfold rk
  rw [dif_pos hh]
  obtain ⟨h1, h2⟩ := hh.choose_spec
  have h3 : (Mo x.id).b = (Mo hh.choose.id).b := by simpa [pv] using h2
  exact congrArg (depth C) (h.inj hx h1 h3).symm
theorem rk_none : rk C Mo (pv none) = 0 := by
  unfold rk
  rw [dif_neg]
  rintro ⟨y, _, h⟩
  unfold pv at h
  injection h with h
  simp at h
/-- What somebody or nobody sees. -/
def seesO (C : St) (p : Option One) (k : Str) : Str := match p with
  | none => []
  | some x => sees C x.id k
set_option maxRecDepth 100000 in
set_option maxHeartbeats 1600000 in
theorem sees_any (h : RepM w c m Mo L F G C) (ht : Tree C) {x : One} (hx : x ∈ C) (k : Str) (hk : kS.ok k) :
    Calls Tryz.prog 56 #[pv (some (Mo x.id).b), sv k] w fun e w' => e = .returned (sv (sees C x.id k)) ∧ w' = w := by
  obtain ⟨v, hv⟩ : ∃ v, sees C x.id k = v := ⟨_, rfl⟩
  rw [hv]
  obtain ⟨q, hq⟩ : ∃ q, pv (some (Mo x.id).b) = q := ⟨_, rfl⟩
  have hs : ∃ p : Option One, q = pv (p.map fun y => (Mo y.id).b) ∧ (∀ y, p = some y → y ∈ C) ∧ seesO C p k = v := ⟨some x, hq.symm, fun y e => by injection e with e; rw [← e]; exact hx, hv⟩
  have HR := Lib.hid h
  have HT := Lib.hid ht
  have HS := Lib.hid hs
  rw [hq]
  clear h ht hq hv hs hx
  go_enter Tryz.func56, Tryz.ntmps56
  go_wp2_with fail
  go_loop [0] (fun pvv => ∃ p : Option One, pvv = pv (p.map fun y => (Mo y.id).b) ∧ (∀ y, p = some y → y ∈ C) ∧ seesO C p k = v) (fun pvv => rk C Mo pvv)
  case atStart => exact HS.out
  case round =>
    obtain ⟨p, rfl, hp, hsv⟩ := hrel
    cases p with
    | none =>
      have e : pv (Option.map (fun y : One => (Mo y.id).b) none) = .pointer none := rfl
      rw [e]
      go_wp2_with fail
      go_ret
      exact ⟨by rw [← hsv]; rfl, rfl⟩
    | some y =>
      have hy := hp y rfl
      have o := HR.out.one y hy
      have e : pv (Option.map (fun y : One => (Mo y.id).b) (some y)) = .pointer (some ⟨(Mo y.id).b, 0, none⟩) := rfl
      rw [e]
      have f0 : w.cell? ⟨(Mo y.id).b, 0, none⟩ = some (pv (parOf Mo y)) := o.b.cell 0
      have f2 : w.cell? ⟨(Mo y.id).b, 2, none⟩ = some (.map (some (Mo y.id).mw)) := o.b.cell 2
      have f5 : w.cell? ⟨(Mo y.id).b, 5, none⟩ = some (.map (some (Mo y.id).mv)) := o.b.cell 5
      have l2 := o.wm.look hk Tryz.underlying74 (zero9 w)
      have l5 := o.v.look hk Tryz.underlying74 (zero9 w)
      have hse := sees_eq HT.out hy k
      have hsv2 : sees C y.id k = v := hsv
      rw [hse] at hsv2
      have hM : Hid (rk C Mo (.pointer (some ⟨(Mo y.id).b, 0, none⟩)) = depth C y.id) := Lib.hid (rk_some HR.out hy)
      clear o hse hsv
      generalize hMy : Mo y.id = My at f0 f2 f5 l2 l5 hM ⊢
      cases hw : mget y.wr k with
      | some u =>
        rw [hw] at l2 hsv2
        dsimp only at hsv2
        subst hsv2
        have l2' : (Instr.lookup 74 (.map (some My.mw)) (sv k) true).run Tryz.prog w = .ok (.tuple #[sv u, .bool true]) w := l2
        clear l2 l5
        go_wp2_with fail
        go_ret
        exact ⟨rfl, rfl⟩
      | none =>
        rw [hw] at l2 hsv2
        dsimp only at hsv2
        have l2' : (Instr.lookup 74 (.map (some My.mw)) (sv k) true).run Tryz.prog w = .ok (.tuple #[.string ⟨#[]⟩, .bool false]) w := l2
        cases hc : cellOf y.rd k with
        | some u =>
          rw [hc] at l5 hsv2
          dsimp only at hsv2
          subst hsv2
          have l5' : (Instr.lookup 74 (.map (some My.mv)) (sv k) true).run Tryz.prog w = .ok (.tuple #[sv u, .bool true]) w := l5
          clear l2 l5
          go_wp2_with fail
          go_ret
          exact ⟨rfl, rfl⟩
        | none =>
          rw [hc] at l5 hsv2
          dsimp only at hsv2
          have l5' : (Instr.lookup 74 (.map (some My.mv)) (sv k) true).run Tryz.prog w = .ok (.tuple #[.string ⟨#[]⟩, .bool false]) w := l5
          clear l2 l5
          have hrel2 : ∃ p : Option One, pv (parOf Mo y) = pv (p.map fun y => (Mo y.id).b) ∧ (∀ y, p = some y → y ∈ C) ∧ seesO C p k = v ∧ rk C Mo (pv (parOf Mo y)) < depth C y.id := by
            unfold parOf
            have hdp := depth_pos (has_tail hy)
            by_cases h0 : y.id = 0
            · rw [if_pos h0] at hsv2 ⊢
              exact ⟨none, rfl, fun _ e => (by cases e), hsv2, by rw [rk_none]; exact hdp⟩
            · rw [if_neg h0] at hsv2 ⊢
              obtain ⟨z, hz⟩ := has_find (HT.out.par hy h0)
              obtain ⟨hz1, hz2⟩ := find_mem hz
              refine ⟨some z, by rw [← hz2]; rfl, fun y' e => by injection e with e; rw [← e]; exact hz1, by show sees C z.id k = v; rw [hz2]; exact hsv2, ?_⟩
              rw [← hz2, rk_some HR.out hz1, hz2]
              exact depth_par HT.out hy h0
          have HR2 := Lib.hid hrel2
          clear hrel2 hsv2
          generalize pv (parOf Mo y) = pp at f0 HR2
          go_wp2_with fail
          go_round
          case rel =>
            obtain ⟨p, h1, h2, h3, _⟩ := HR2.out
            exact ⟨p, h1, h2, h3⟩
          case measure =>
            obtain ⟨p, h1, h2, h3, h4⟩ := HR2.out
            rw [hM.out]
            exact h4
end
end Go.Proofs.YtbllmpcpfmlemaaGreat
