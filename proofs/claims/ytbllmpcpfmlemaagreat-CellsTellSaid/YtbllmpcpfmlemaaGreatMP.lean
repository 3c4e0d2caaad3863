/- Texts of the elder seat, turned to this one: P1 P2 P3. -/
import Derived.Lib.Strings
import Derived.Sort.EncStr
namespace Go.Proofs.YtbllmpcpfmlemaaGreat

abbrev Str := List UInt8
theorem str_lt_irrefl (x : Str) : ¬ x < x := List.lt_irrefl x
theorem str_lt_trans {x y z : Str} (h : x < y) (h' : y < z) : x < z := List.lt_trans h h'
theorem str_tri (x y : Str) : x < y ∨ x = y ∨ y < x := by
  rcases List.le_total x y with h | h
  · by_cases e : y ≤ x
    · exact .inr (.inl (List.le_antisymm h e))
    · exact .inl (List.not_le.1 e)
  · by_cases e : x ≤ y
    · exact .inr (.inl (List.le_antisymm e h))
    · exact .inr (.inr (List.not_le.1 e))
theorem str_asymm {x y : Str} (h : x < y) : ¬ y < x := fun h' => str_lt_irrefl x (str_lt_trans h h')
theorem str_ne {x y : Str} (h : x < y) : x ≠ y := by rintro rfl; exact str_lt_irrefl x h
theorem str_le_iff (x y : Str) : x ≤ y ↔ x < y ∨ x = y := by
  constructor
  · intro h
    rcases str_tri x y with h1 | h1 | h1
    · exact .inl h1
    · exact .inr h1
    · exact absurd h (List.not_le.2 h1)
  · rintro (h | rfl)
    · exact List.not_lt.1 (str_asymm h)
    · exact List.le_refl _

/-- Does the key begin with the prefix? -/
def pre (p k : Str) : Bool := Lib.hasPrefix k p
/-- Ascending. -/
def Asc (l : List Str) : Prop := l.Pairwise (· < ·)
theorem Asc.nodup {l : List Str} (h : Asc l) : l.Nodup := h.imp fun h => str_ne h
theorem asc_nil : Asc [] := List.Pairwise.nil
theorem asc_cons {x : Str} {l : List Str} : Asc (x :: l) ↔ (∀ y ∈ l, x < y) ∧ Asc l := List.pairwise_cons
/-- Two ascending lists with the same members are one. -/
theorem asc_ext {l m : List Str} (hl : Asc l) (hm : Asc m) (h : ∀ x, x ∈ l ↔ x ∈ m) : l = m := by
  induction l generalizing m with
  | nil =>
    cases m with
    | nil => rfl
    | cons y m => exact absurd ((h y).2 (by simp)) (by simp)
  | cons x l ih =>
    cases m with
    | nil => exact absurd ((h x).1 (by simp)) (by simp)
    | cons y m =>
      obtain ⟨h1, h2⟩ := asc_cons.1 hl
      obtain ⟨h3, h4⟩ := asc_cons.1 hm
      have e : x = y := by
        rcases List.mem_cons.1 ((h x).1 (by simp)) with e | e
        · exact e
        · rcases List.mem_cons.1 ((h y).2 (by simp)) with e' | e'
          · exact e'.symm
          · exact absurd (h1 y e') (str_asymm (h3 x e))
      subst e
      congr 1
      refine ih h2 h4 fun z => ?_
      constructor
      · intro hz
        rcases List.mem_cons.1 ((h z).1 (by simp [hz])) with e | e
        · exact absurd e.symm (str_ne (h1 z hz))
        · exact e
      · intro hz
        rcases List.mem_cons.1 ((h z).2 (by simp [hz])) with e | e
        · exact absurd e.symm (str_ne (h3 z hz))
        · exact e

section
variable {α : Type}
/-- Sorted maps. -/
def mget : List (Str × α) → Str → Option α
  | [], _ => none
  | (a, v) :: r, k => if a = k then some v else mget r k
def mput : List (Str × α) → Str → α → List (Str × α)
  | [], k, v => [(k, v)]
  | (a, u) :: r, k, v => if a < k then (a, u) :: mput r k v else if a = k then (k, v) :: r else (k, v) :: (a, u) :: r
def mdel (m : List (Str × α)) (k : Str) : List (Str × α) := m.filter fun e => decide (e.1 ≠ k)
def AscK (m : List (Str × α)) : Prop := Asc (m.map (·.1))
theorem ascK_nil : AscK ([] : List (Str × α)) := asc_nil
theorem ascK_cons {a : Str} {u : α} {r : List (Str × α)} : AscK ((a, u) :: r) ↔ (∀ e ∈ r, a < e.1) ∧ AscK r := by
  unfold AscK
  rw [List.map_cons, asc_cons]
  simp
theorem mem_of_mget {m : List (Str × α)} {k : Str} {v : α} (h : mget m k = some v) : (k, v) ∈ m := by
  induction m with
  | nil => cases h
  | cons e m ih =>
    obtain ⟨a, u⟩ := e
    rw [mget] at h
    split at h
    · rename_i e
      subst e
      injection h with h
      subst h
      simp
    · exact List.mem_cons_of_mem _ (ih h)
theorem mget_of_mem {m : List (Str × α)} (hm : AscK m) {k : Str} {v : α} (h : (k, v) ∈ m) : mget m k = some v := by
  induction m with
  | nil => cases h
  | cons e m ih =>
    obtain ⟨a, u⟩ := e
    obtain ⟨h1, h2⟩ := ascK_cons.1 hm
    rw [mget]
    rcases List.mem_cons.1 h with e | e
    · injection e with e1 e2
      rw [if_pos e1.symm, e2]
    · rw [if_neg (str_ne (h1 _ e)), ih h2 e]
theorem mget_iff {m : List (Str × α)} (hm : AscK m) {k : Str} {v : α} : mget m k = some v ↔ (k, v) ∈ m := ⟨mem_of_mget, mget_of_mem hm⟩
theorem mget_none {m : List (Str × α)} {k : Str} : mget m k = none ↔ k ∉ m.map (·.1) := by
  induction m with
  | nil => simp [mget]
  | cons e m ih =>
    obtain ⟨a, u⟩ := e
    rw [mget]
    by_cases h : a = k
    · simp [h]
    · rw [if_neg h, ih]
      simp [Ne.symm h]
theorem mget_some {m : List (Str × α)} {k : Str} : (mget m k).isSome = true ↔ k ∈ m.map (·.1) := by
  cases h : mget m k with
  | none => simpa using mget_none.1 h
  | some v => simpa using ⟨v, mem_of_mget h⟩
theorem mem_mput {m : List (Str × α)} {k : Str} {v : α} {e : Str × α} (h : e ∈ mput m k v) : e = (k, v) ∨ e ∈ m := by
  induction m with
  | nil => exact .inl (by simpa [mput] using h)
  | cons d m ih =>
    obtain ⟨a, u⟩ := d
    rw [mput] at h
    split at h
    · rcases List.mem_cons.1 h with e' | e'
      · exact .inr (by simp [e'])
      · rcases ih e' with h | h
        · exact .inl h
        · exact .inr (by simp [h])
    · split at h
      · rcases List.mem_cons.1 h with e' | e'
        · exact .inl e'
        · exact .inr (by simp [e'])
      · rcases List.mem_cons.1 h with e' | e'
        · exact .inl e'
        · exact .inr e'
theorem ascK_mput {m : List (Str × α)} (hm : AscK m) (k : Str) (v : α) : AscK (mput m k v) := by
  induction m with
  | nil => exact ascK_cons.2 ⟨by simp, ascK_nil⟩
  | cons d m ih =>
    obtain ⟨a, u⟩ := d
    obtain ⟨h1, h2⟩ := ascK_cons.1 hm
    rw [mput]
    split
    · rename_i hlt
      refine ascK_cons.2 ⟨fun e he => ?_, ih h2⟩
      rcases mem_mput he with rfl | he
      · exact hlt
      · exact h1 e he
    · split
      · rename_i e
        subst e
        exact ascK_cons.2 ⟨h1, h2⟩
      · rename_i hlt hne
        have hka : k < a := by
          rcases str_tri k a with h | h | h
          · exact h
          · exact absurd h.symm hne
          · exact absurd h hlt
        refine ascK_cons.2 ⟨fun e he => ?_, hm⟩
        rcases List.mem_cons.1 he with rfl | he
        · exact hka
        · exact str_lt_trans hka (h1 e he)
theorem mget_mput {m : List (Str × α)} (hm : AscK m) (k : Str) (v : α) (j : Str) : mget (mput m k v) j = if j = k then some v else mget m j := by
  by_cases hj : j = k
  · subst hj
    rw [if_pos rfl]
    induction m with
    | nil => simp [mput, mget]
    | cons d m ih =>
      obtain ⟨a, u⟩ := d
      obtain ⟨h1, h2⟩ := ascK_cons.1 hm
      rw [mput]
      split
      · rename_i hlt
        rw [mget, if_neg (str_ne hlt), ih h2]
      · split <;> simp [mget]
  · rw [if_neg hj]
    induction m with
    | nil => simp [mput, mget, Ne.symm hj]
    | cons d m ih =>
      obtain ⟨a, u⟩ := d
      obtain ⟨h1, h2⟩ := ascK_cons.1 hm
      rw [mput]
      split
      · rw [mget, mget, ih h2]
      · split
        · rename_i e
          subst e
          rw [mget, mget, if_neg (Ne.symm hj), if_neg (Ne.symm hj)]
        · rw [mget, if_neg (Ne.symm hj)]
theorem ascK_mdel {m : List (Str × α)} (hm : AscK m) (k : Str) : AscK (mdel m k) := by
  unfold AscK Asc mdel
  exact List.Pairwise.sublist ((List.filter_sublist).map _) hm
theorem mget_mdel {m : List (Str × α)} (k j : Str) : mget (mdel m k) j = if j = k then none else mget m j := by
  induction m with
  | nil => simp [mdel, mget]
  | cons d m ih =>
    obtain ⟨a, u⟩ := d
    unfold mdel at ih ⊢
    by_cases ha : a = k
    · subst ha
      rw [List.filter_cons_of_neg (by simp), ih]
      by_cases hj : j = a
      · rw [if_pos hj, if_pos hj]
      · rw [if_neg hj, if_neg hj, mget, if_neg (Ne.symm hj)]
    · rw [List.filter_cons_of_pos (by simpa using ha), mget, mget, ih]
      by_cases hj : a = j
      · subst hj
        rw [if_pos rfl, if_neg ha, if_pos rfl]
      · rw [if_neg hj, if_neg hj]
theorem ascK_ext {m m' : List (Str × α)} (h : AscK m) (h' : AscK m') (he : ∀ k, mget m k = mget m' k) : m = m' := by
  induction m generalizing m' with
  | nil =>
    cases m' with
    | nil => rfl
    | cons e r => have := he e.1; simp [mget] at this
  | cons e m ih =>
    cases m' with
    | nil => have := he e.1; simp [mget] at this
    | cons d r =>
      have hk : (e :: m).map (·.1) = (d :: r).map (·.1) := asc_ext h h' fun x => by rw [← mget_some, ← mget_some, he x]
      obtain ⟨a, u⟩ := e
      obtain ⟨b, v⟩ := d
      have h0 : a = b := by simpa using (List.cons.inj hk).1
      subst h0
      obtain ⟨h1, h2⟩ := ascK_cons.1 h
      obtain ⟨h3, h4⟩ := ascK_cons.1 h'
      have h5 := he a
      simp [mget] at h5
      subst h5
      congr 1
      refine ih h2 h4 fun k => ?_
      by_cases hka : a = k
      · subst hka
        have e1 : mget m a = none := mget_none.2 fun hm => by
          obtain ⟨e, he, hx⟩ := List.mem_map.1 hm
          exact str_ne (h1 e he) hx.symm
        have e2 : mget r a = none := mget_none.2 fun hm => by
          obtain ⟨e, he, hx⟩ := List.mem_map.1 hm
          exact str_ne (h3 e he) hx.symm
        rw [e1, e2]
      · have := he k
        rwa [mget, mget, if_neg hka, if_neg hka] at this
theorem mput_len (m : List (Str × α)) (k : Str) (v : α) : (mput m k v).length ≤ m.length + 1 := by
  induction m with
  | nil => simp [mput]
  | cons d m ih =>
    rw [mput]
    split
    · simpa using ih
    · split <;> simp
theorem mput_len' {m : List (Str × α)} (k : Str) (v : α) : m.length ≤ (mput m k v).length := by
  induction m with
  | nil => simp
  | cons d m ih =>
    rw [mput]
    split
    · simpa using ih
    · split <;> simp
theorem mdel_len (m : List (Str × α)) (k : Str) : (mdel m k).length ≤ m.length := List.length_filter_le _ _
end

/-- An ascending list with a string or without it. -/
def setIn : List Str → Str → Bool → List Str
  | [], s, there => if there then [s] else []
  | a :: r, s, there => if a < s then a :: setIn r s there else if a = s then (if there then a :: r else r) else (if there then s :: a :: r else a :: r)
theorem mem_setIn {l : List Str} (hl : Asc l) (s : Str) (t : Bool) (x : Str) : x ∈ setIn l s t ↔ if x = s then t = true else x ∈ l := by
  induction l with
  | nil => cases t <;> by_cases h : x = s <;> simp [setIn, h]
  | cons a r ih =>
    obtain ⟨h1, h2⟩ := asc_cons.1 hl
    rw [setIn]
    split
    · rename_i hlt
      rw [List.mem_cons, ih h2]
      by_cases h : x = s
      · subst h
        simp [(str_ne hlt).symm]
      · simp [h]
    · split
      · rename_i e
        subst e
        have hn : a ∉ r := fun h => str_lt_irrefl a (h1 a h)
        cases t
        · by_cases h : x = a
          · subst h
            simp [hn]
          · simp [h]
        · by_cases h : x = a
          · simp [h]
          · simp [h]
      · rename_i hlt hne
        have hsa : s < a := by
          rcases str_tri s a with h | h | h
          · exact h
          · exact absurd h.symm hne
          · exact absurd h hlt
        have hn : s ∉ r := fun h => hlt (h1 s h)
        cases t
        · by_cases h : x = s
          · subst h
            simp [hn, Ne.symm hne]
          · simp [h]
        · by_cases h : x = s
          · simp [h]
          · simp [h]
theorem asc_setIn {l : List Str} (hl : Asc l) (s : Str) (t : Bool) : Asc (setIn l s t) := by
  induction l with
  | nil => cases t <;> simp [setIn, Asc]
  | cons a r ih =>
    obtain ⟨h1, h2⟩ := asc_cons.1 hl
    rw [setIn]
    split
    · rename_i hlt
      refine asc_cons.2 ⟨fun y hy => ?_, ih h2⟩
      rw [mem_setIn h2] at hy
      split at hy
      · rename_i e; rw [e]; exact hlt
      · exact h1 y hy
    · split
      · rename_i e
        subst e
        cases t
        · exact h2
        · exact hl
      · rename_i hlt hne
        have hsa : s < a := by
          rcases str_tri s a with h | h | h
          · exact h
          · exact absurd h.symm hne
          · exact absurd h hlt
        cases t
        · exact hl
        · refine asc_cons.2 ⟨fun y hy => ?_, hl⟩
          rcases List.mem_cons.1 hy with rfl | hy
          · exact hsa
          · exact str_lt_trans hsa (h1 y hy)
/-- A list of keys, with what was written since under a prefix. -/
def over (wr : List (Str × Str)) (p : Str) (l : List Str) : List Str :=
  wr.foldl (fun l e => if pre p e.1 then setIn l e.1 (decide (e.2 ≠ [])) else l) l
theorem asc_over (wr : List (Str × Str)) (p : Str) {l : List Str} (hl : Asc l) : Asc (over wr p l) := by
  induction wr generalizing l with
  | nil => exact hl
  | cons e r ih =>
    refine ih (l := if pre p e.1 then setIn l e.1 (decide (e.2 ≠ [])) else l) ?_
    split
    · exact asc_setIn hl _ _
    · exact hl
def inOver (wr : List (Str × Str)) (p : Str) (l : List Str) (x : Str) : Prop := match (if pre p x then mget wr x else none) with
  | some v => v ≠ []
  | none => x ∈ l
theorem mem_over {wr : List (Str × Str)} (hw : AscK wr) (p : Str) {l : List Str} (hl : Asc l) (x : Str) : x ∈ over wr p l ↔ inOver wr p l x := by
  induction wr generalizing l with
  | nil => simp [over, inOver, mget]
  | cons e r ih =>
    obtain ⟨a, u⟩ := e
    obtain ⟨h1, h2⟩ := ascK_cons.1 hw
    have hn : mget r a = none := mget_none.2 fun hm => by
      obtain ⟨e, he, hx⟩ := List.mem_map.1 hm
      exact str_ne (h1 e he) hx.symm
    show x ∈ over r p (if pre p a then setIn l a (decide (u ≠ [])) else l) ↔ _
    by_cases hp : pre p a = true
    · rw [if_pos hp, ih h2 (asc_setIn hl _ _)]
      unfold inOver
      by_cases hx : a = x
      · subst hx
        rw [if_pos hp, if_pos hp, hn, mget, if_pos rfl]
        dsimp only
        rw [mem_setIn hl, if_pos rfl]
        simp
      · rw [mget, if_neg hx]
        split
        · rfl
        · rw [mem_setIn hl, if_neg (Ne.symm hx)]
    · rw [if_neg hp, ih h2 hl]
      unfold inOver
      by_cases hx : a = x
      · subst hx
        rw [if_neg hp, if_neg hp]
      · rw [mget, if_neg hx]
end Go.Proofs.YtbllmpcpfmlemaaGreat
namespace Go.Proofs.YtbllmpcpfmlemaaGreat

/-- A read: of a cell, or of a prefix. -/
inductive Rd where
  | cell (k v : Str)
  | keys (p : Str) (l : List Str)
def cellOf : List Rd → Str → Option Str
  | [], _ => none
  | .cell a v :: r, k => if a = k then some v else cellOf r k
  | .keys _ _ :: r, k => cellOf r k
def keysOf : List Rd → Str → Option (List Str)
  | [], _ => none
  | .cell _ _ :: r, k => keysOf r k
  | .keys a v :: r, k => if a = k then some v else keysOf r k
def cellKeys : List Rd → List Str
  | [] => []
  | .cell a _ :: r => a :: cellKeys r
  | .keys _ _ :: r => cellKeys r
def prefixes : List Rd → List Str
  | [] => []
  | .cell _ _ :: r => prefixes r
  | .keys a _ :: r => a :: prefixes r
theorem cellOf_none {r : List Rd} {k : Str} : cellOf r k = none ↔ k ∉ cellKeys r := by
  induction r with
  | nil => simp [cellOf, cellKeys]
  | cons x r ih =>
    cases x with
    | cell a v =>
      rw [cellOf, cellKeys]
      by_cases h : a = k
      · simp [h]
      · rw [if_neg h, ih]; simp [Ne.symm h]
    | keys a v => rw [cellOf, cellKeys]; exact ih
theorem keysOf_none {r : List Rd} {k : Str} : keysOf r k = none ↔ k ∉ prefixes r := by
  induction r with
  | nil => simp [keysOf, prefixes]
  | cons x r ih =>
    cases x with
    | keys a v =>
      rw [keysOf, prefixes]
      by_cases h : a = k
      · simp [h]
      · rw [if_neg h, ih]; simp [Ne.symm h]
    | cell a v => rw [keysOf, prefixes]; exact ih
theorem cellOf_append (r s : List Rd) (k : Str) : cellOf (r ++ s) k = (cellOf r k).or (cellOf s k) := by
  induction r with
  | nil => simp [cellOf]
  | cons x r ih =>
    cases x with
    | cell a v =>
      rw [List.cons_append, cellOf, cellOf]
      by_cases h : a = k
      · simp [h]
      · rw [if_neg h, if_neg h, ih]
    | keys a v => rw [List.cons_append, cellOf, cellOf]; exact ih
theorem keysOf_append (r s : List Rd) (k : Str) : keysOf (r ++ s) k = (keysOf r k).or (keysOf s k) := by
  induction r with
  | nil => simp [keysOf]
  | cons x r ih =>
    cases x with
    | keys a v =>
      rw [List.cons_append, keysOf, keysOf]
      by_cases h : a = k
      · simp [h]
      · rw [if_neg h, if_neg h, ih]
    | cell a v => rw [List.cons_append, keysOf, keysOf]; exact ih
theorem cellKeys_append (r s : List Rd) : cellKeys (r ++ s) = cellKeys r ++ cellKeys s := by
  induction r with
  | nil => rfl
  | cons x r ih => cases x <;> simp [cellKeys, ih]
theorem prefixes_append (r s : List Rd) : prefixes (r ++ s) = prefixes r ++ prefixes s := by
  induction r with
  | nil => rfl
  | cons x r ih => cases x <;> simp [prefixes, ih]
theorem mem_cellOf {r : List Rd} {k v : Str} (h : cellOf r k = some v) : Rd.cell k v ∈ r := by
  induction r with
  | nil => cases h
  | cons x r ih =>
    cases x with
    | cell a u =>
      rw [cellOf] at h
      split at h
      · rename_i e
        injection h with h
        simp [e, h]
      · exact List.mem_cons_of_mem _ (ih h)
    | keys a u => exact List.mem_cons_of_mem _ (ih h)
theorem mem_keysOf {r : List Rd} {k : Str} {v : List Str} (h : keysOf r k = some v) : Rd.keys k v ∈ r := by
  induction r with
  | nil => cases h
  | cons x r ih =>
    cases x with
    | keys a u =>
      rw [keysOf] at h
      split at h
      · rename_i e
        injection h with h
        simp [e, h]
      · exact List.mem_cons_of_mem _ (ih h)
    | cell a u => exact List.mem_cons_of_mem _ (ih h)
theorem mem_cellKeys {r : List Rd} {k v : Str} (h : Rd.cell k v ∈ r) : k ∈ cellKeys r := by
  induction r with
  | nil => cases h
  | cons x r ih =>
    rcases List.mem_cons.1 h with rfl | h2
    · simp [cellKeys]
    · cases x <;> simp [cellKeys, ih h2]
theorem mem_prefixes {r : List Rd} {k : Str} {v : List Str} (h : Rd.keys k v ∈ r) : k ∈ prefixes r := by
  induction r with
  | nil => cases h
  | cons x r ih =>
    rcases List.mem_cons.1 h with rfl | h2
    · simp [prefixes]
    · cases x <;> simp [prefixes, ih h2]
theorem cellOf_of_mem {r : List Rd} (hn : (cellKeys r).Nodup) {k v : Str} (h : Rd.cell k v ∈ r) : cellOf r k = some v := by
  induction r with
  | nil => cases h
  | cons x r ih =>
    cases x with
    | cell a u =>
      rw [cellKeys, List.nodup_cons] at hn
      rw [cellOf]
      rcases List.mem_cons.1 h with e | h
      · injection e with e1 e2
        rw [if_pos e1.symm, e2]
      · rw [if_neg (fun e => hn.1 (by rw [e]; exact mem_cellKeys h)), ih hn.2 h]
    | keys a u =>
      rcases List.mem_cons.1 h with e | h
      · cases e
      · exact ih hn h
theorem keysOf_of_mem {r : List Rd} (hn : (prefixes r).Nodup) {k : Str} {v : List Str} (h : Rd.keys k v ∈ r) : keysOf r k = some v := by
  induction r with
  | nil => cases h
  | cons x r ih =>
    cases x with
    | keys a u =>
      rw [prefixes, List.nodup_cons] at hn
      rw [keysOf]
      rcases List.mem_cons.1 h with e | h
      · injection e with e1 e2
        rw [if_pos e1.symm, e2]
      · rw [if_neg (fun e => hn.1 (by rw [e]; exact mem_prefixes h)), ih hn.2 h]
    | cell a u =>
      rcases List.mem_cons.1 h with e | h
      · cases e
      · exact ih hn h
theorem rd_len (r : List Rd) : r.length = (cellKeys r).length + (prefixes r).length := by
  induction r with
  | nil => rfl
  | cons x r ih => cases x <;> simp [cellKeys, prefixes, ih] <;> omega

/-- The present (0) or a trial. -/
structure One where
  id : Int
  par : Int
  wr : List (Str × Str)
  lg : List (Str × Str)
  rd : List Rd
/-- The newest first; the present last. -/
abbrev St := List One
def has (C : St) (i : Int) : Bool := C.any fun x => decide (x.id = i)
def find (C : St) (i : Int) : Option One := C.find? fun x => decide (x.id = i)
def upd (C : St) (i : Int) (g : One → One) : St := C.map fun x => if x.id = i then g x else x
def kids (C : St) (i : Int) : Nat := C.countP fun x => decide (x.id ≠ 0 ∧ x.par = i)
theorem has_iff {C : St} {i : Int} : has C i = true ↔ ∃ x ∈ C, x.id = i := by simp [has]
theorem has_cons (x : One) (C : St) (i : Int) : has (x :: C) i = (decide (x.id = i) || has C i) := by simp [has]
theorem find_cons (x : One) (C : St) (i : Int) : find (x :: C) i = if x.id = i then some x else find C i := by
  unfold find
  rw [List.find?_cons]
  by_cases h : x.id = i <;> simp [h]
theorem find_mem {C : St} {i : Int} {x : One} (h : find C i = some x) : x ∈ C ∧ x.id = i := by
  have h1 := List.mem_of_find?_eq_some h
  have h2 := List.find?_some h
  exact ⟨h1, by simpa using h2⟩
theorem find_none {C : St} {i : Int} : find C i = none ↔ has C i = false := by
  unfold find has
  rw [List.find?_eq_none, List.any_eq_false]
theorem find_has {C : St} {i : Int} : (find C i).isSome = has C i := by
  cases h : find C i with
  | none => rw [find_none.1 h]; rfl
  | some x =>
    obtain ⟨h1, h2⟩ := find_mem h
    exact (has_iff.2 ⟨x, h1, h2⟩).symm
theorem has_find {C : St} {i : Int} (h : has C i = true) : ∃ x, find C i = some x := by
  rw [← find_has] at h
  exact Option.isSome_iff_exists.1 h
section
variable {C : St} {i j : Int} {g : One → One} (hid : ∀ x, (g x).id = x.id)
include hid
theorem has_upd : has (upd C i g) j = has C j := by
  induction C with
  | nil => rfl
  | cons x C ih =>
    show has ((if x.id = i then g x else x) :: upd C i g) j = _
    rw [has_cons, has_cons, ih]
    split
    · rw [hid]
    · rfl
theorem find_upd : find (upd C i g) j = if j = i then (find C i).map g else find C j := by
  induction C with
  | nil => simp [upd, find]
  | cons x C ih =>
    show find ((if x.id = i then g x else x) :: upd C i g) j = _
    rw [find_cons, find_cons, find_cons, ih]
    by_cases hx : x.id = i
    · rw [if_pos hx, if_pos hx, hid]
      by_cases hj : j = i
      · rw [if_pos (hx.trans hj.symm), if_pos hj]; rfl
      · rw [if_neg (fun h => hj (h.symm.trans hx)), if_neg hj, if_neg hj, if_neg (fun h => hj (h.symm.trans hx))]
    · rw [if_neg hx, if_neg hx]
      by_cases hj : j = i
      · rw [if_pos hj, if_neg (fun h => hx (h.trans hj)), if_pos hj]
      · rw [if_neg hj, if_neg hj]
end
theorem upd_len (C : St) (i : Int) (g : One → One) : (upd C i g).length = C.length := by simp [upd]
theorem mem_upd {C : St} {i : Int} {g : One → One} {y : One} (h : y ∈ upd C i g) : ∃ x ∈ C, (x.id = i ∧ y = g x) ∨ (x.id ≠ i ∧ y = x) := by
  obtain ⟨x, hx, rfl⟩ := List.mem_map.1 h
  refine ⟨x, hx, ?_⟩
  by_cases hi : x.id = i
  · exact .inl ⟨hi, by rw [if_pos hi]⟩
  · exact .inr ⟨hi, by rw [if_neg hi]⟩
theorem upd_none {C : St} {i : Int} (g : One → One) (h : has C i = false) : upd C i g = C := by
  unfold upd
  refine (List.map_congr_left fun x hx => ?_).trans (List.map_id C)
  rw [if_neg (fun e => by rw [has_iff.2 ⟨x, hx, e⟩] at h; cases h)]
  rfl
/-- What a tree is: numbers apart, each one's parent among the elder. -/
def Tree : St → Prop
  | [] => False
  | x :: t => (x.id = 0 ∧ x.rd = [] ∧ t = []) ∨ (1 ≤ x.id ∧ has t x.par = true ∧ has t x.id = false ∧ Tree t)
theorem Tree.zero {C : St} (h : Tree C) : has C 0 = true := by
  induction C with
  | nil => cases h
  | cons x t ih =>
    rw [has_cons]
    rcases h with ⟨h, _⟩ | ⟨_, _, _, h⟩
    · simp [h]
    · simp [ih h]
theorem Tree.pos {C : St} (h : Tree C) {x : One} (hx : x ∈ C) : 0 ≤ x.id := by
  induction C with
  | nil => cases h
  | cons y t ih =>
    rcases h with ⟨h, _, rfl⟩ | ⟨h1, _, _, h⟩
    · obtain rfl : x = y := by simpa using hx
      omega
    · rcases List.mem_cons.1 hx with e | hx2
      · rw [e]; omega
      · exact ih h hx2
theorem Tree.inj {C : St} (h : Tree C) {x y : One} (hx : x ∈ C) (hy : y ∈ C) (e : x.id = y.id) : x = y := by
  induction C with
  | nil => cases h
  | cons z t ih =>
    rcases h with ⟨_, _, rfl⟩ | ⟨_, _, h2, h⟩
    · rw [List.mem_singleton] at hx hy
      rw [hx, hy]
    · rcases List.mem_cons.1 hx with e1 | hx2
      · rcases List.mem_cons.1 hy with e2 | hy2
        · rw [e1, e2]
        · rw [← e1, e, has_iff.2 ⟨y, hy2, rfl⟩] at h2; cases h2
      · rcases List.mem_cons.1 hy with e2 | hy2
        · rw [← e2, ← e, has_iff.2 ⟨x, hx2, rfl⟩] at h2; cases h2
        · exact ih h hx2 hy2
theorem Tree.find {C : St} (h : Tree C) {x : One} (hx : x ∈ C) : find C x.id = some x := by
  obtain ⟨y, hy⟩ := has_find (has_iff.2 ⟨x, hx, rfl⟩)
  obtain ⟨h1, h2⟩ := find_mem hy
  rw [hy, h.inj h1 hx h2]
theorem Tree.par {C : St} (h : Tree C) {x : One} (hx : x ∈ C) (h0 : x.id ≠ 0) : has C x.par = true := by
  induction C with
  | nil => cases h
  | cons z t ih =>
    rw [has_cons]
    rcases h with ⟨h1, _, rfl⟩ | ⟨_, h1, h2, h⟩
    · obtain rfl : x = z := by simpa using hx
      exact absurd h1 h0
    · rcases List.mem_cons.1 hx with e | hx2
      · rw [e]; simp [h1]
      · simp [ih h hx2]
theorem Tree.rd0 {C : St} (h : Tree C) {x : One} (hx : x ∈ C) (h0 : x.id = 0) : x.rd = [] := by
  induction C with
  | nil => cases h
  | cons z t ih =>
    rcases h with ⟨_, h1, rfl⟩ | ⟨h1, _, h2, h⟩
    · obtain rfl : x = z := by simpa using hx
      exact h1
    · rcases List.mem_cons.1 hx with e | hx2
      · rw [e] at h0; omega
      · exact ih h hx2
theorem Tree.updT {C : St} (h : Tree C) {i : Int} {g : One → One} (hid : ∀ x, (g x).id = x.id) (hpar : ∀ x, (g x).par = x.par) (hrd : i = 0 → ∀ x, (g x).rd = x.rd) : Tree (upd C i g) := by
  induction C with
  | nil => cases h
  | cons x t ih =>
    show Tree ((if x.id = i then g x else x) :: upd t i g)
    have e1 : (if x.id = i then g x else x).id = x.id := by split; exact hid x; rfl
    have e2 : (if x.id = i then g x else x).par = x.par := by split; exact hpar x; rfl
    rcases h with ⟨h1, h2, h3⟩ | ⟨h1, h2, h3, h4⟩
    · refine .inl ⟨e1.trans h1, ?_, by rw [h3]; rfl⟩
      split
      · rename_i e
        rw [hrd (e.symm.trans h1) x, h2]
      · exact h2
    · exact .inr ⟨by rw [e1]; exact h1, by rw [e2, has_upd hid]; exact h2, by rw [e1, has_upd hid]; exact h3, ih h4⟩
theorem has_filter {C : St} {p : One → Bool} {i : Int} : has (C.filter p) i = true ↔ ∃ x ∈ C, x.id = i ∧ p x = true := by
  rw [has_iff]
  constructor
  · rintro ⟨x, hx, h⟩
    obtain ⟨h1, h2⟩ := List.mem_filter.1 hx
    exact ⟨x, h1, h, h2⟩
  · rintro ⟨x, h1, h, h2⟩
    exact ⟨x, List.mem_filter.2 ⟨h1, h2⟩, h⟩
theorem Tree.filter {C : St} (h : Tree C) {p : One → Bool} (hp : ∀ x ∈ C, x.id = 0 → p x = true) (hup : ∀ x ∈ C, p x = true → x.id ≠ 0 → ∀ y ∈ C, y.id = x.par → p y = true) : Tree (C.filter p) := by
  induction C with
  | nil => cases h
  | cons x t ih =>
    rcases h with ⟨h1, h2, h3⟩ | ⟨h1, h2, h3, h4⟩
    · rw [List.filter_cons_of_pos (hp x (by simp) h1), h3]
      exact .inl ⟨h1, h2, rfl⟩
    · have ht := ih h4 (fun y hy => hp y (by simp [hy])) (fun y hy hpy h0 z hz => hup y (by simp [hy]) hpy h0 z (by simp [hz]))
      by_cases hx : p x = true
      · rw [List.filter_cons_of_pos hx]
        refine .inr ⟨h1, ?_, ?_, ht⟩
        · obtain ⟨y, hy, e⟩ := has_iff.1 h2
          exact has_filter.2 ⟨y, hy, e, hup x (by simp) hx (by omega) y (by simp [hy]) e⟩
        · rw [Bool.eq_false_iff]
          intro hh
          obtain ⟨y, hy, e, _⟩ := has_filter.1 hh
          rw [has_iff.2 ⟨y, hy, e⟩] at h3
          cases h3
      · rw [List.filter_cons_of_neg hx]
        exact ht
/-- What somebody sees. -/
def sees : St → Int → Str → Str
  | [], _, _ => []
  | x :: t, i, k => if x.id = i then (match mget x.wr k with
    | some v => v
    | none => match cellOf x.rd k with
      | some v => v
      | none => sees t x.par k) else sees t i k
def seesKeys : St → Int → Str → List Str
  | [], _, _ => []
  | x :: t, i, p => if x.id = i then over x.wr p (match keysOf x.rd p with
    | some l => l
    | none => seesKeys t x.par p) else seesKeys t i p
/-- Is the one i, or below it? -/
def below : St → Int → Int → Bool
  | [], _, _ => false
  | x :: t, i, j => if x.id = j then decide (j = i) || below t i x.par else below t i j

def opn (x : One) (k : Str) : Bool := decide (x.id ≠ 0) && (mget x.wr k).isNone && (cellOf x.rd k).isNone
def addRd (r : Rd) (x : One) : One := { x with rd := x.rd ++ [r] }
def setWr (f : List (Str × Str) → List (Str × Str)) (x : One) : One := { x with wr := f x.wr }
def setLg (f : List (Str × Str) → List (Str × Str)) (x : One) : One := { x with lg := f x.lg }
def askP (C : St) (i : Int) (k : Str) : St := match find C i with
  | none => C
  | some x => if opn x k then upd C i (addRd (.cell k (sees C x.par k))) else C
def askKP (C : St) (i : Int) (p : Str) : St := match find C i with
  | none => C
  | some x => if x.id ≠ 0 ∧ keysOf x.rd p = none then upd C i (addRd (.keys p (seesKeys C x.par p))) else C
def wrPut (i : Int) (k v : Str) (m : List (Str × Str)) : List (Str × Str) := if i = 0 ∧ v = [] then mdel m k else mput m k v
def putP (C : St) (i : Int) (k v : Str) : St := upd C i (setWr (wrPut i k v))
def lgAdd (n s : Str) (m : List (Str × Str)) : List (Str × Str) := mput m n ((mget m n).getD [] ++ s)
def logP (C : St) (i : Int) (n s : Str) : St := upd C i (setLg (lgAdd n s))
def proper (p : Str) (l : List Str) : Bool := l.all (pre p) && decide (l.Pairwise (· < ·))
/-- The argument of Note. -/
structure RdA where
  kind : Int
  key : Str
  val : Str
  list : List Str
def noteP (C : St) (i : Int) (r : RdA) : St := match find C i with
  | none => C
  | some x => if x.id = 0 then C else if r.kind = 0 then (if opn x r.key then upd C i (addRd (.cell r.key r.val)) else C)
    else if r.kind = 1 then (if keysOf x.rd r.key = none ∧ proper r.key r.list = true then upd C i (addRd (.keys r.key r.list)) else C) else C
def beginP (C : St) (i p : Int) : Int × St := if i < 1 then (1, C) else if has C i then (5, C) else if has C p then (0, ⟨i, p, [], [], []⟩ :: C) else (4, C)
def reAsk1 (p : Int) (C : St) (r : Rd) : St := match r with
  | .cell k _ => askP C p k
  | .keys q _ => askKP C p q
def reAsk (C : St) (p : Int) (l : List Rd) : St := l.foldl (reAsk1 p) C
def putAll (C : St) (p : Int) (l : List (Str × Str)) : St := l.foldl (fun C e => putP C p e.1 e.2) C
def logAll (C : St) (p : Int) (l : List (Str × Str)) : St := l.foldl (fun C e => logP C p e.1 e.2) C
def dropP (C : St) (i : Int) : St := C.filter fun x => decide (x.id ≠ i)
def give (C : St) (x : One) : St := logAll (putAll (reAsk C x.par x.rd) x.par x.wr) x.par x.lg
def commitP (C : St) (i : Int) : Int × St := match find C i with
  | none => (4, C)
  | some x => if i = 0 then (4, C) else if 0 < kids C i then (8, C) else (0, dropP (give C x) i)
def abortP (C : St) (i : Int) : St := if i = 0 ∨ has C i = false then C else C.filter fun x => !below C i x.id
/-- An operation. -/
structure Opn where
  dw : Int
  who : Int
  n : Int
  key : Str
  val : Str
  r : RdA
def doing (x : Opn) : Int := x.dw % 16
def doP (C : St) (x : Opn) : (Str × List Str × Int) × St :=
  if doing x < 4 then (([], [], 0), putP C x.who x.key x.val)
  else if doing x = 6 then (([], seesKeys (askKP C x.who x.key) x.who x.key, 0), askKP C x.who x.key)
  else if doing x = 7 then (([], [], 0), if x.val = [] then C else logP C x.who x.key x.val)
  else if doing x = 8 then (([], [], (beginP C x.n x.who).1), (beginP C x.n x.who).2)
  else if doing x = 9 then (([], [], (commitP C x.who).1), (commitP C x.who).2)
  else if doing x = 10 then (([], [], 0), abortP C x.who)
  else if doing x = 11 then (([], [], 0), noteP C x.who ⟨0, x.key, x.val, []⟩)
  else if doing x = 12 then (([], [], 0), noteP C x.who x.r)
  else ((sees (askP C x.who x.key) x.who x.key, [], 0), askP C x.who x.key)
end Go.Proofs.YtbllmpcpfmlemaaGreat
namespace Go.Proofs.YtbllmpcpfmlemaaGreat

/-- One's maps and reads are in order; its strings are of P. -/
structure OneOk (P : List Str) (x : One) : Prop where
  id1 : -9223372036854775808 ≤ x.id
  id2 : x.id ≤ 9223372036854775807
  wr : AscK x.wr
  lg : AscK x.lg
  wp : ∀ e ∈ x.wr, e.1 ∈ P
  lp : ∀ e ∈ x.lg, e.1 ∈ P
  l1 : ∀ e ∈ x.lg, e.2 ≠ []
  w0 : x.id = 0 → ∀ e ∈ x.wr, e.2 ≠ []
  cn : (cellKeys x.rd).Nodup
  cp : ∀ k ∈ cellKeys x.rd, k ∈ P
  pn : (prefixes x.rd).Nodup
  pp : ∀ k ∈ prefixes x.rd, k ∈ P
  ls : ∀ p l, Rd.keys p l ∈ x.rd → Asc l ∧ ∀ k ∈ l, k ∈ P ∧ pre p k = true
structure WF (P : List Str) (C : St) : Prop where
  tree : Tree C
  ok : ∀ x ∈ C, OneOk P x
theorem OneOk.mono {P Q : List Str} {x : One} (h : OneOk P x) (hs : ∀ k ∈ P, k ∈ Q) : OneOk Q x :=
  ⟨h.id1, h.id2, h.wr, h.lg, fun e he => hs _ (h.wp e he), fun e he => hs _ (h.lp e he), h.l1, h.w0, h.cn, fun k hk => hs k (h.cp k hk), h.pn, fun k hk => hs k (h.pp k hk),
    fun p l hl => ⟨(h.ls p l hl).1, fun k hk => ⟨hs k ((h.ls p l hl).2 k hk).1, ((h.ls p l hl).2 k hk).2⟩⟩⟩
theorem WF.mono {P Q : List Str} {C : St} (h : WF P C) (hs : ∀ k ∈ P, k ∈ Q) : WF Q C := ⟨h.tree, fun x hx => (h.ok x hx).mono hs⟩
theorem OneOk.new {P : List Str} {i p : Int} (h1 : -9223372036854775808 ≤ i) (h2 : i ≤ 9223372036854775807) : OneOk P ⟨i, p, [], [], []⟩ :=
  ⟨h1, h2, ascK_nil, ascK_nil, by simp, by simp, by simp, by simp, by simp [cellKeys], by simp [cellKeys], by simp [prefixes], by simp [prefixes], by simp⟩
theorem OneOk.sub {P : List Str} {x : One} (h : OneOk P x) {k : Str} {v : List Str} (hk : keysOf x.rd k = some v) : Asc v ∧ ∀ s ∈ v, s ∈ P ∧ pre k s = true := h.ls k v (mem_keysOf hk)
theorem over_ok {P : List Str} {wr : List (Str × Str)} (hw : AscK wr) (hp : ∀ e ∈ wr, e.1 ∈ P) {p : Str} {l : List Str} (hl : Asc l) (hs : ∀ s ∈ l, s ∈ P ∧ pre p s = true) : Asc (over wr p l) ∧ ∀ s ∈ over wr p l, s ∈ P ∧ pre p s = true := by
  refine ⟨asc_over wr p hl, fun s hsm => ?_⟩
  rw [mem_over hw p hl] at hsm
  unfold inOver at hsm
  by_cases hps : pre p s = true
  · rw [if_pos hps] at hsm
    cases hg : mget wr s with
    | none => rw [hg] at hsm; exact hs s hsm
    | some v => exact ⟨hp _ (mem_of_mget hg), hps⟩
  · rw [if_neg hps] at hsm
    exact hs s hsm
theorem seesKeys_ok {P : List Str} {C : St} (h : ∀ x ∈ C, OneOk P x) (i : Int) (p : Str) : Asc (seesKeys C i p) ∧ ∀ k ∈ seesKeys C i p, k ∈ P ∧ pre p k = true := by
  induction C generalizing i with
  | nil => exact ⟨asc_nil, by simp [seesKeys]⟩
  | cons x t ih =>
    have hx := h x (by simp)
    have ht := fun i => ih (fun y hy => h y (by simp [hy])) i
    rw [seesKeys]
    split
    · cases hk : keysOf x.rd p with
      | none => exact over_ok hx.wr hx.wp (ht x.par).1 (ht x.par).2
      | some l => exact over_ok hx.wr hx.wp (hx.sub hk).1 (hx.sub hk).2
    · exact ht i
theorem WF.up {P : List Str} {C : St} (h : WF P C) {i : Int} {g : One → One} (hid : ∀ x, (g x).id = x.id) (hpar : ∀ x, (g x).par = x.par) (hrd : i = 0 → ∀ x, (g x).rd = x.rd)
    (hok : ∀ x, find C i = some x → OneOk P x → OneOk P (g x)) : WF P (upd C i g) := by
  refine ⟨h.tree.updT hid hpar hrd, fun y hy => ?_⟩
  obtain ⟨x, hx, ⟨hi, rfl⟩ | ⟨_, rfl⟩⟩ := mem_upd hy
  · exact hok x (by rw [← hi]; exact h.tree.find hx) (h.ok x hx)
  · exact h.ok y hx
theorem opn_iff {x : One} {k : Str} : opn x k = true ↔ x.id ≠ 0 ∧ mget x.wr k = none ∧ cellOf x.rd k = none := by
  unfold opn
  simp [and_assoc]
theorem OneOk.cell {P : List Str} {x : One} (h : OneOk P x) {k : Str} (v : Str) (hk : k ∈ P) (hc : cellOf x.rd k = none) : OneOk P (addRd (.cell k v) x) := by
  refine ⟨h.id1, h.id2, h.wr, h.lg, h.wp, h.lp, h.l1, h.w0, ?_, ?_, ?_, ?_, ?_⟩
  · show (cellKeys (x.rd ++ [_])).Nodup
    rw [cellKeys_append, List.nodup_append]
    refine ⟨h.cn, by simp [cellKeys], fun a ha b hb => ?_⟩
    rw [show b = k by simpa [cellKeys] using hb]
    rintro rfl
    exact cellOf_none.1 hc ha
  · show ∀ j ∈ cellKeys (x.rd ++ [_]), j ∈ P
    rw [cellKeys_append]
    intro j hj
    rcases List.mem_append.1 hj with hj | hj
    · exact h.cp j hj
    · rw [show j = k by simpa [cellKeys] using hj]; exact hk
  · show (prefixes (x.rd ++ [_])).Nodup
    rw [prefixes_append]
    simpa [prefixes] using h.pn
  · show ∀ j ∈ prefixes (x.rd ++ [_]), j ∈ P
    rw [prefixes_append]
    simpa [prefixes] using h.pp
  · intro p l hl
    rcases List.mem_append.1 (show _ ∈ x.rd ++ [_] from hl) with hl | hl
    · exact h.ls p l hl
    · simp at hl
theorem OneOk.keys {P : List Str} {x : One} (h : OneOk P x) {k : Str} {v : List Str} (hk : k ∈ P) (hc : keysOf x.rd k = none) (hv : Asc v ∧ ∀ s ∈ v, s ∈ P ∧ pre k s = true) : OneOk P (addRd (.keys k v) x) := by
  refine ⟨h.id1, h.id2, h.wr, h.lg, h.wp, h.lp, h.l1, h.w0, ?_, ?_, ?_, ?_, ?_⟩
  · show (cellKeys (x.rd ++ [_])).Nodup
    rw [cellKeys_append]
    simpa [cellKeys] using h.cn
  · show ∀ j ∈ cellKeys (x.rd ++ [_]), j ∈ P
    rw [cellKeys_append]
    simpa [cellKeys] using h.cp
  · show (prefixes (x.rd ++ [_])).Nodup
    rw [prefixes_append, List.nodup_append]
    refine ⟨h.pn, by simp [prefixes], fun a ha b hb => ?_⟩
    rw [show b = k by simpa [prefixes] using hb]
    rintro rfl
    exact keysOf_none.1 hc ha
  · show ∀ j ∈ prefixes (x.rd ++ [_]), j ∈ P
    rw [prefixes_append]
    intro j hj
    rcases List.mem_append.1 hj with hj | hj
    · exact h.pp j hj
    · rw [show j = k by simpa [prefixes] using hj]; exact hk
  · intro p l hl
    rcases List.mem_append.1 (show _ ∈ x.rd ++ [_] from hl) with hl | hl
    · exact h.ls p l hl
    · rw [List.mem_singleton] at hl
      injection hl with e1 e2
      subst e1; subst e2
      exact hv
theorem OneOk.put {P : List Str} {x : One} (h : OneOk P x) {k : Str} (v : Str) (hk : k ∈ P) {i : Int} (hi : x.id = i) : OneOk P (setWr (wrPut i k v) x) := by
  have hm : ∀ e ∈ wrPut i k v x.wr, e = (k, v) ∧ ¬ (i = 0 ∧ v = []) ∨ e ∈ x.wr := by
    intro e he
    unfold wrPut at he
    split at he
    · exact .inr (List.mem_filter.1 he).1
    · rename_i hn
      rcases mem_mput he with h | h
      · exact .inl ⟨h, hn⟩
      · exact .inr h
  refine ⟨h.id1, h.id2, ?_, h.lg, ?_, h.lp, h.l1, ?_, h.cn, h.cp, h.pn, h.pp, h.ls⟩
  · show AscK (wrPut i k v x.wr)
    unfold wrPut
    split
    · exact ascK_mdel h.wr _
    · exact ascK_mput h.wr _ _
  · intro e he
    rcases hm e he with ⟨rfl, _⟩ | he
    · exact hk
    · exact h.wp e he
  · intro h0 e he
    rcases hm e he with ⟨rfl, hn⟩ | he
    · exact fun hv => hn ⟨hi.symm.trans h0, hv⟩
    · exact h.w0 h0 e he
theorem OneOk.log {P : List Str} {x : One} (h : OneOk P x) {k s : Str} (hk : k ∈ P) (hs : s ≠ []) : OneOk P (setLg (lgAdd k s) x) := by
  have hm : ∀ e ∈ lgAdd k s x.lg, (e.1 = k ∧ e.2 ≠ []) ∨ e ∈ x.lg := by
    intro e he
    rcases mem_mput he with rfl | h
    · exact .inl ⟨rfl, by simp [hs]⟩
    · exact .inr h
  refine ⟨h.id1, h.id2, h.wr, ascK_mput h.lg _ _, h.wp, ?_, ?_, h.w0, h.cn, h.cp, h.pn, h.pp, h.ls⟩
  · intro e he
    rcases hm e he with ⟨e1, _⟩ | he
    · rw [e1]; exact hk
    · exact h.lp e he
  · intro e he
    rcases hm e he with ⟨_, e1⟩ | he
    · exact e1
    · exact h.l1 e he
section
variable {P : List Str} {C : St}
theorem WF.ask (h : WF P C) (i : Int) {k : Str} (hk : k ∈ P) : WF P (askP C i k) := by
  unfold askP
  cases hf : Proofs.YtbllmpcpfmlemaaGreat.find C i with
  | none => exact h
  | some x =>
    dsimp only
    split
    · rename_i ho
      obtain ⟨h0, _, hc⟩ := opn_iff.1 ho
      refine h.up (fun _ => rfl) (fun _ => rfl) (fun hi => absurd ((find_mem hf).2.trans hi) h0) (fun y hy hok => ?_)
      obtain rfl : x = y := by rw [hf] at hy; injection hy
      exact hok.cell _ hk hc
    · exact h
theorem WF.askK (h : WF P C) (i : Int) {k : Str} (hk : k ∈ P) : WF P (askKP C i k) := by
  unfold askKP
  cases hf : Proofs.YtbllmpcpfmlemaaGreat.find C i with
  | none => exact h
  | some x =>
    dsimp only
    split
    · rename_i ho
      obtain ⟨h0, hc⟩ := ho
      refine h.up (fun _ => rfl) (fun _ => rfl) (fun hi => absurd ((find_mem hf).2.trans hi) h0) (fun y hy hok => ?_)
      obtain rfl : x = y := by rw [hf] at hy; injection hy
      exact hok.keys hk hc (seesKeys_ok h.ok _ _)
    · exact h
theorem WF.put (h : WF P C) (i : Int) {k : Str} (v : Str) (hk : k ∈ P) : WF P (putP C i k v) :=
  h.up (fun _ => rfl) (fun _ => rfl) (fun _ _ => rfl) (fun _ hy hok => hok.put v hk (find_mem hy).2)
theorem WF.log (h : WF P C) (i : Int) {k s : Str} (hk : k ∈ P) (hs : s ≠ []) : WF P (logP C i k s) :=
  h.up (fun _ => rfl) (fun _ => rfl) (fun _ _ => rfl) (fun _ _ hok => hok.log hk hs)
theorem proper_iff {p : Str} {l : List Str} : proper p l = true ↔ (∀ k ∈ l, pre p k = true) ∧ Asc l := by
  unfold proper Asc
  simp
theorem WF.note (h : WF P C) (i : Int) {r : RdA} (hk : r.key ∈ P) (hl : ∀ k ∈ r.list, k ∈ P) : WF P (noteP C i r) := by
  unfold noteP
  cases hf : Proofs.YtbllmpcpfmlemaaGreat.find C i with
  | none => exact h
  | some x =>
    dsimp only
    have e := (find_mem hf).2
    split
    · exact h
    rename_i h0
    split
    · split
      · rename_i ho
        obtain ⟨_, _, hc⟩ := opn_iff.1 ho
        refine h.up (fun _ => rfl) (fun _ => rfl) (fun hi => absurd (e.trans hi) h0) (fun y hy hok => ?_)
        obtain rfl : x = y := by rw [hf] at hy; injection hy
        exact hok.cell _ hk hc
      · exact h
    · split
      · split
        · rename_i ho
          obtain ⟨hc, hp⟩ := ho
          obtain ⟨p1, p2⟩ := proper_iff.1 hp
          refine h.up (fun _ => rfl) (fun _ => rfl) (fun hi => absurd (e.trans hi) h0) (fun y hy hok => ?_)
          obtain rfl : x = y := by rw [hf] at hy; injection hy
          exact hok.keys hk hc ⟨p2, fun s hs => ⟨hl s hs, p1 s hs⟩⟩
        · exact h
      · exact h
theorem WF.begin_ (h : WF P C) {i p : Int} (hi : i ≤ 9223372036854775807) : WF P (beginP C i p).2 := by
  unfold beginP
  split
  · exact h
  split
  · exact h
  split
  · rename_i h1 h2 h3
    refine ⟨.inr ⟨by show 1 ≤ i; omega, h3, by simpa using h2, h.tree⟩, fun x hx => ?_⟩
    rcases List.mem_cons.1 hx with rfl | hx
    · exact OneOk.new (by omega) hi
    · exact h.ok x hx
  · exact h
theorem WF.filter (h : WF P C) {p : One → Bool} (hp : ∀ x ∈ C, x.id = 0 → p x = true) (hup : ∀ x ∈ C, p x = true → x.id ≠ 0 → ∀ y ∈ C, y.id = x.par → p y = true) : WF P (C.filter p) :=
  ⟨h.tree.filter hp hup, fun x hx => h.ok x (List.mem_filter.1 hx).1⟩
theorem WF.drop (h : WF P C) {i : Int} (h0 : i ≠ 0) (hk : kids C i = 0) : WF P (dropP C i) := by
  refine h.filter (fun x _ e => by rw [e]; simpa using Ne.symm h0) (fun x hx _ h1 y hy e => ?_)
  unfold kids at hk
  rw [List.countP_eq_zero] at hk
  have := hk x hx
  simp only [decide_eq_true_eq, not_and] at this
  rw [decide_eq_true_eq, e]
  exact this h1
theorem WF.reAsk1 (h : WF P C) (p : Int) {r : Rd} (hr : ∀ k ∈ cellKeys [r] ++ prefixes [r], k ∈ P) : WF P (Proofs.YtbllmpcpfmlemaaGreat.reAsk1 p C r) := by
  cases r with
  | cell k v => exact h.ask p (hr k (by simp [cellKeys]))
  | keys k v => exact h.askK p (hr k (by simp [cellKeys, prefixes]))
end
theorem WF.reAsk {P : List Str} (p : Int) (l : List Rd) : ∀ {C : St}, WF P C → (∀ k ∈ cellKeys l, k ∈ P) → (∀ k ∈ prefixes l, k ∈ P) → WF P (Proofs.YtbllmpcpfmlemaaGreat.reAsk C p l) := by
  induction l with
  | nil => intro C h _ _; exact h
  | cons r l ih =>
    intro C h h1 h2
    refine ih (h.reAsk1 p (r := r) fun k hk => ?_) (fun k hk => h1 k ?_) (fun k hk => h2 k ?_)
    · rcases List.mem_append.1 hk with hk | hk
      · exact h1 k (by rw [show r :: l = [r] ++ l from rfl, cellKeys_append]; exact List.mem_append_left _ hk)
      · exact h2 k (by rw [show r :: l = [r] ++ l from rfl, prefixes_append]; exact List.mem_append_left _ hk)
    · rw [show r :: l = [r] ++ l from rfl, cellKeys_append]; exact List.mem_append_right _ hk
    · rw [show r :: l = [r] ++ l from rfl, prefixes_append]; exact List.mem_append_right _ hk
theorem WF.putAll {P : List Str} (p : Int) (l : List (Str × Str)) : ∀ {C : St}, WF P C → (∀ e ∈ l, e.1 ∈ P) → WF P (Proofs.YtbllmpcpfmlemaaGreat.putAll C p l) := by
  induction l with
  | nil => intro C h _; exact h
  | cons r l ih => intro C h h1; exact ih (h.put p r.2 (h1 r (by simp))) (fun e he => h1 e (by simp [he]))
theorem WF.logAll {P : List Str} (p : Int) (l : List (Str × Str)) : ∀ {C : St}, WF P C → (∀ e ∈ l, e.1 ∈ P ∧ e.2 ≠ []) → WF P (Proofs.YtbllmpcpfmlemaaGreat.logAll C p l) := by
  induction l with
  | nil => intro C h _; exact h
  | cons r l ih => intro C h h1; exact ih (h.log p (h1 r (by simp)).1 (h1 r (by simp)).2) (fun e he => h1 e (by simp [he]))
theorem WF.give {P : List Str} {C : St} (h : WF P C) {x : One} (hx : OneOk P x) : WF P (Proofs.YtbllmpcpfmlemaaGreat.give C x) :=
  ((h.reAsk x.par x.rd hx.cp hx.pp).putAll x.par x.wr hx.wp).logAll x.par x.lg (fun e he => ⟨hx.lp e he, hx.l1 e he⟩)

/-- Everybody is still there, under the same parent, with what it had read, and perhaps more. -/
def Grow (C D : St) : Prop := (∀ j, has D j = has C j) ∧ (∀ j, kids D j = kids C j) ∧ ∀ j x, find C j = some x → ∃ y, find D j = some y ∧ y.par = x.par ∧ ∃ e, y.rd = x.rd ++ e
theorem Grow.refl (C : St) : Grow C C := ⟨fun _ => rfl, fun _ => rfl, fun _ x h => ⟨x, h, rfl, [], by simp⟩⟩
theorem Grow.trans {C D E : St} (h : Grow C D) (k : Grow D E) : Grow C E := by
  refine ⟨fun j => (k.1 j).trans (h.1 j), fun j => (k.2.1 j).trans (h.2.1 j), fun j x hx => ?_⟩
  obtain ⟨y, hy, e1, a, e2⟩ := h.2.2 j x hx
  obtain ⟨z, hz, e3, b, e4⟩ := k.2.2 j y hy
  exact ⟨z, hz, e3.trans e1, a ++ b, by rw [e4, e2, List.append_assoc]⟩
theorem kids_upd {C : St} {i : Int} {g : One → One} (hid : ∀ x, (g x).id = x.id) (hpar : ∀ x, (g x).par = x.par) (j : Int) : kids (upd C i g) j = kids C j := by
  unfold kids upd
  rw [List.countP_map]
  refine List.countP_congr fun x _ => ?_
  simp only [Function.comp_apply, decide_eq_true_eq]
  split
  · rw [hid, hpar]
  · rfl
theorem grow_upd (C : St) (i : Int) {g : One → One} (hid : ∀ x, (g x).id = x.id) (hpar : ∀ x, (g x).par = x.par) (hrd : ∀ x, ∃ e, (g x).rd = x.rd ++ e) : Grow C (upd C i g) := by
  refine ⟨fun j => has_upd hid, kids_upd hid hpar, fun j x hx => ?_⟩
  rw [find_upd hid]
  by_cases hj : j = i
  · subst hj
    rw [if_pos rfl, hx]
    exact ⟨_, rfl, hpar x, hrd x⟩
  · rw [if_neg hj]
    exact ⟨x, hx, rfl, [], by simp⟩
theorem grow_ask (C : St) (i : Int) (k : Str) : Grow C (askP C i k) := by
  unfold askP
  split
  · exact Grow.refl C
  · split
    · exact grow_upd C i (fun _ => rfl) (fun _ => rfl) (fun x => ⟨_, rfl⟩)
    · exact Grow.refl C
theorem grow_askK (C : St) (i : Int) (k : Str) : Grow C (askKP C i k) := by
  unfold askKP
  split
  · exact Grow.refl C
  · split
    · exact grow_upd C i (fun _ => rfl) (fun _ => rfl) (fun x => ⟨_, rfl⟩)
    · exact Grow.refl C
theorem grow_put (C : St) (i : Int) (k v : Str) : Grow C (putP C i k v) := grow_upd C i (fun _ => rfl) (fun _ => rfl) (fun x => ⟨[], by simp [setWr]⟩)
theorem grow_log (C : St) (i : Int) (k v : Str) : Grow C (logP C i k v) := grow_upd C i (fun _ => rfl) (fun _ => rfl) (fun x => ⟨[], by simp [setLg]⟩)
theorem grow_note (C : St) (i : Int) (r : RdA) : Grow C (noteP C i r) := by
  unfold noteP
  split
  · exact Grow.refl C
  split
  · exact Grow.refl C
  split
  · split
    · exact grow_upd C i (fun _ => rfl) (fun _ => rfl) (fun x => ⟨_, rfl⟩)
    · exact Grow.refl C
  split
  · split
    · exact grow_upd C i (fun _ => rfl) (fun _ => rfl) (fun x => ⟨_, rfl⟩)
    · exact Grow.refl C
  · exact Grow.refl C
theorem grow_reAsk (p : Int) (l : List Rd) : ∀ C : St, Grow C (reAsk C p l) := by
  induction l with
  | nil => exact fun C => Grow.refl C
  | cons r l ih =>
    intro C
    refine Grow.trans ?_ (ih _)
    cases r with
    | cell k v => exact grow_ask C p k
    | keys k v => exact grow_askK C p k
theorem grow_putAll (p : Int) (l : List (Str × Str)) : ∀ C : St, Grow C (putAll C p l) := by
  induction l with
  | nil => exact fun C => Grow.refl C
  | cons r l ih => exact fun C => (grow_put C p _ _).trans (ih _)
theorem grow_logAll (p : Int) (l : List (Str × Str)) : ∀ C : St, Grow C (logAll C p l) := by
  induction l with
  | nil => exact fun C => Grow.refl C
  | cons r l ih => exact fun C => (grow_log C p _ _).trans (ih _)
theorem grow_give (C : St) (x : One) : Grow C (give C x) := (grow_reAsk _ _ _).trans ((grow_putAll _ _ _).trans (grow_logAll _ _ _))

/-- The strings of an operation. -/
def pool (x : Opn) : List Str := x.key :: x.r.key :: x.r.list
theorem below_par {C : St} (h : Tree C) (i : Int) {x : One} (hx : x ∈ C) (h0 : x.id ≠ 0) : below C i x.id = (decide (x.id = i) || below C i x.par) := by
  induction C with
  | nil => cases h
  | cons z t ih =>
    rcases h with ⟨h1, _, rfl⟩ | ⟨h1, h2, h3, h4⟩
    · obtain rfl : x = z := by simpa using hx
      exact absurd h1 h0
    · rcases List.mem_cons.1 hx with e | hx2
      · have hne : ¬ x.id = x.par := fun e2 => by
          rw [← e] at h2 h3
          rw [← e2, h3] at h2
          cases h2
        rw [← e, below, below, if_pos rfl, if_neg hne]
      · have hxt := has_iff.2 ⟨x, hx2, rfl⟩
        have hne : ¬ z.id = x.id := fun e => by rw [e, hxt] at h3; cases h3
        have hp := h4.par hx2 h0
        have hnp : ¬ z.id = x.par := fun e => by rw [e, hp] at h3; cases h3
        rw [below, below, if_neg hne, if_neg hnp]
        exact ih h4 hx2
theorem below_zero {C : St} (h : Tree C) {i : Int} (hi : i ≠ 0) : below C i 0 = false := by
  induction C with
  | nil => cases h
  | cons z t ih =>
    rw [below]
    rcases h with ⟨h1, _, rfl⟩ | ⟨h1, h2, h3, h4⟩
    · rw [if_pos h1]
      simp [below, Ne.symm hi]
    · rw [if_neg (by omega)]
      exact ih h4
theorem WF.abort {P : List Str} {C : St} (h : WF P C) (i : Int) : WF P (abortP C i) := by
  unfold abortP
  split
  · exact h
  · rename_i hn
    have hi : i ≠ 0 := fun e => hn (.inl e)
    refine h.filter (fun x hx e => by rw [e, below_zero h.tree hi]; rfl) (fun x hx hp h0 y hy e => ?_)
    rw [below_par h.tree i hx h0] at hp
    rw [e]
    simp at hp ⊢
    exact hp.2
theorem WF.commit {P : List Str} {C : St} (h : WF P C) (i : Int) : WF P (commitP C i).2 := by
  unfold commitP
  cases hf : Proofs.YtbllmpcpfmlemaaGreat.find C i with
  | none => exact h
  | some x =>
    dsimp only
    split
    · exact h
    split
    · exact h
    · rename_i h0 hk
      refine (h.give (h.ok x (find_mem hf).1)).drop h0 ?_
      rw [(grow_give C x).2.1]
      omega
theorem WF.do_ {P : List Str} {C : St} (h : WF P C) (x : Opn) (hx : ∀ k ∈ pool x, k ∈ P) (hn : x.n ≤ 9223372036854775807) : WF P (doP C x).2 := by
  have h1 : x.key ∈ P := hx _ (by simp [pool])
  have h2 : x.r.key ∈ P := hx _ (by simp [pool])
  have h3 : ∀ k ∈ x.r.list, k ∈ P := fun k hk => hx k (by simp [pool, hk])
  unfold doP
  split
  · exact h.put _ _ h1
  split
  · exact h.askK _ h1
  split
  · dsimp only
    split
    · exact h
    · rename_i hs; exact h.log _ h1 hs
  split
  · exact h.begin_ hn
  split
  · exact h.commit _
  split
  · exact h.abort _
  split
  · exact h.note _ h1 (by simp)
  split
  · exact h.note _ h2 h3
  · exact h.ask _ h1
/-- Who is there before and after an operation: the same parent, the same reads, and perhaps more. -/
theorem find_filter {C : St} (h : Tree C) {p : One → Bool} {j : Int} {y : One} (hy : find (C.filter p) j = some y) : find C j = some y := by
  obtain ⟨h1, h2⟩ := find_mem hy
  rw [← h2]
  exact h.find (List.mem_filter.1 h1).1
theorem do_rd {P : List Str} {C : St} (h : WF P C) (x : Opn) {j : Int} {o o' : One} (ho : find C j = some o) (ho' : find (doP C x).2 j = some o') : o'.par = o.par ∧ ∃ e, o'.rd = o.rd ++ e := by
  have key : ∀ D : St, Grow C D → find D j = some o' → o'.par = o.par ∧ ∃ e, o'.rd = o.rd ++ e := by
    intro D hg hd
    obtain ⟨y, hy, e⟩ := hg.2.2 j o ho
    rw [hd] at hy
    injection hy with hy
    rw [hy]
    exact e
  unfold doP at ho'
  split at ho'
  · exact key _ (grow_put C _ _ _) ho'
  split at ho'
  · exact key _ (grow_askK C _ _) ho'
  split at ho'
  · dsimp only at ho'
    split at ho'
    · exact key _ (Grow.refl C) ho'
    · exact key _ (grow_log C _ _ _) ho'
  split at ho'
  · unfold beginP at ho'
    split at ho'
    · exact key _ (Grow.refl C) ho'
    split at ho'
    · exact key _ (Grow.refl C) ho'
    split at ho'
    · rename_i h2 _
      dsimp only at ho'
      rw [find_cons] at ho'
      split at ho'
      · rename_i e
        have hh : has C j = true := by rw [← find_has, ho]; rfl
        dsimp only at e
        rw [e, hh] at h2
        exact absurd rfl h2
      · exact key _ (Grow.refl C) ho'
    · exact key _ (Grow.refl C) ho'
  split at ho'
  · unfold commitP at ho'
    cases hf : find C x.who with
    | none => rw [hf] at ho'; exact key _ (Grow.refl C) ho'
    | some z =>
      rw [hf] at ho'
      dsimp only at ho'
      split at ho'
      · exact key _ (Grow.refl C) ho'
      split at ho'
      · exact key _ (Grow.refl C) ho'
      · exact key _ (grow_give C z) (find_filter (h.give (h.ok z (find_mem hf).1)).tree ho')
  split at ho'
  · unfold abortP at ho'
    dsimp only at ho'
    split at ho'
    · exact key _ (Grow.refl C) ho'
    · exact key _ (Grow.refl C) (find_filter h.tree ho')
  split at ho'
  · exact key _ (grow_note C _ _) ho'
  split at ho'
  · exact key _ (grow_note C _ _) ho'
  · exact key _ (grow_ask C _ _) ho'
end Go.Proofs.YtbllmpcpfmlemaaGreat
