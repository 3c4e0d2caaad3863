/- Texts of the elder seat, turned to this one: P4 P5 P6. -/
import Derived.Test.YtbllmpcpfmlemaaGreatMA
namespace Go.Proofs.YtbllmpcpfmlemaaGreat

theorem upd_cons (x : One) (t : St) (i : Int) (g : One → One) : upd (x :: t) i g = (if x.id = i then g x else x) :: upd t i g := rfl
theorem upd_upd {C : St} {i : Int} {f g : One → One} (hid : ∀ x, (f x).id = x.id) : upd (upd C i f) i g = upd C i (g ∘ f) := by
  unfold upd
  rw [List.map_map]
  refine List.map_congr_left fun x _ => ?_
  simp only [Function.comp_apply]
  by_cases h : x.id = i
  · rw [if_pos h, if_pos h, if_pos ((hid x).trans h)]
  · rw [if_neg h, if_neg h, if_neg h]
theorem upd_id {C : St} {i : Int} {g : One → One} (h : ∀ x, find C i = some x → g x = x) (ht : Tree C) : upd C i g = C := by
  unfold upd
  refine (List.map_congr_left fun x hx => ?_).trans (List.map_id C)
  by_cases hi : x.id = i
  · rw [if_pos hi, h x (by rw [← hi]; exact ht.find hx)]; rfl
  · rw [if_neg hi]; rfl
theorem upd_congr {C : St} {i : Int} {f g : One → One} (h : ∀ x, find C i = some x → f x = g x) (ht : Tree C) : upd C i f = upd C i g := by
  unfold upd
  refine List.map_congr_left fun x hx => ?_
  by_cases hi : x.id = i
  · rw [if_pos hi, if_pos hi, h x (by rw [← hi]; exact ht.find hx)]
  · rw [if_neg hi, if_neg hi]
theorem find_rd (C : St) (i : Int) (r : Rd) (j : Int) : find (upd C i (addRd r)) j = if j = i then (find C i).map (addRd r) else find C j := find_upd (fun _ => rfl)
theorem find_wr (C : St) (i : Int) (f : List (Str × Str) → List (Str × Str)) (j : Int) : find (upd C i (setWr f)) j = if j = i then (find C i).map (setWr f) else find C j := find_upd (fun _ => rfl)
theorem find_lg (C : St) (i : Int) (f : List (Str × Str) → List (Str × Str)) (j : Int) : find (upd C i (setLg f)) j = if j = i then (find C i).map (setLg f) else find C j := find_upd (fun _ => rfl)
/-- A record of what the parent sees turns nothing that anyone sees. -/
theorem sees_addRd {C : St} (h : Tree C) {i : Int} {x : One} (hx : find C i = some x) (h0 : i ≠ 0) (r : Rd) (hr : ∀ k v, r = .cell k v → v = sees C x.par k) (j : Int) (k : Str) :
    sees (upd C i (addRd r)) j k = sees C j k := by
  induction C generalizing j with
  | nil => cases h
  | cons z t ih =>
    rcases h with ⟨h1, _, rfl⟩ | ⟨h1, h2, h3, h4⟩
    · rw [find_cons] at hx
      split at hx
      · rename_i e; exact absurd (e.symm.trans h1) h0
      · cases hx
    · rw [upd_cons]
      by_cases hz : z.id = i
      · rw [if_pos hz]
        have hn : upd t i (addRd r) = t := upd_none _ (by rw [← hz]; exact h3)
        rw [find_cons, if_pos hz] at hx
        injection hx with hx
        subst hx
        rw [hn, sees, sees]
        by_cases hj : z.id = j
        · rw [if_pos hj, if_pos (show (addRd r z).id = j from hj)]
          show (match mget z.wr k with | some v => v | none => match cellOf (z.rd ++ [r]) k with | some v => v | none => sees t z.par k) = _
          cases mget z.wr k with
          | some v => rfl
          | none =>
            dsimp only
            rw [cellOf_append]
            cases hc : cellOf z.rd k with
            | some v => rfl
            | none =>
              rw [Option.none_or]
              cases r with
              | keys a b => rfl
              | cell a b =>
                have := hr a b rfl
                rw [sees, if_neg (fun e => by rw [← e] at h2; rw [h2] at h3; cases h3)] at this
                rw [cellOf]
                by_cases ha : a = k
                · rw [if_pos ha]
                  dsimp only
                  rw [this, ha]
                · rw [if_neg ha]; rfl
        · rw [if_neg hj, if_neg (show ¬ (addRd r z).id = j from hj)]
      · rw [if_neg hz]
        rw [find_cons, if_neg hz] at hx
        have hxt := (find_mem hx).1
        have e := ih h4 hx (fun a b hab => by
          have := hr a b hab
          have h0' : x.id ≠ 0 := fun e => h0 ((find_mem hx).2.symm.trans e)
          have hp := h4.par hxt h0'
          rw [sees, if_neg (fun e => by rw [e, hp] at h3; cases h3)] at this
          exact this)
        rw [sees, sees]
        by_cases hj : z.id = j
        · rw [if_pos hj, if_pos hj, e]
        · rw [if_neg hj, if_neg hj, e]
theorem seesKeys_addRd {C : St} (h : Tree C) {i : Int} {x : One} (hx : find C i = some x) (h0 : i ≠ 0) (r : Rd) (hr : ∀ p l, r = .keys p l → l = seesKeys C x.par p) (j : Int) (k : Str) :
    seesKeys (upd C i (addRd r)) j k = seesKeys C j k := by
  induction C generalizing j with
  | nil => cases h
  | cons z t ih =>
    rcases h with ⟨h1, _, rfl⟩ | ⟨h1, h2, h3, h4⟩
    · rw [find_cons] at hx
      split at hx
      · rename_i e; exact absurd (e.symm.trans h1) h0
      · cases hx
    · rw [upd_cons]
      by_cases hz : z.id = i
      · rw [if_pos hz]
        have hn : upd t i (addRd r) = t := upd_none _ (by rw [← hz]; exact h3)
        rw [find_cons, if_pos hz] at hx
        injection hx with hx
        subst hx
        rw [hn, seesKeys, seesKeys]
        by_cases hj : z.id = j
        · rw [if_pos hj, if_pos (show (addRd r z).id = j from hj)]
          show over z.wr k (match keysOf (z.rd ++ [r]) k with | some v => v | none => seesKeys t z.par k) = _
          congr 1
          rw [keysOf_append]
          cases hc : keysOf z.rd k with
          | some v => rfl
          | none =>
            rw [Option.none_or]
            cases r with
            | cell a b => rfl
            | keys a b =>
              have := hr a b rfl
              rw [seesKeys, if_neg (fun e => by rw [← e] at h2; rw [h2] at h3; cases h3)] at this
              rw [keysOf]
              by_cases ha : a = k
              · rw [if_pos ha]
                dsimp only
                rw [this, ha]
              · rw [if_neg ha]; rfl
        · rw [if_neg hj, if_neg (show ¬ (addRd r z).id = j from hj)]
      · rw [if_neg hz]
        rw [find_cons, if_neg hz] at hx
        have hxt := (find_mem hx).1
        have e := ih h4 hx (fun a b hab => by
          have := hr a b hab
          have h0' : x.id ≠ 0 := fun e => h0 ((find_mem hx).2.symm.trans e)
          have hp := h4.par hxt h0'
          rw [seesKeys, if_neg (fun e => by rw [e, hp] at h3; cases h3)] at this
          exact this)
        rw [seesKeys, seesKeys]
        by_cases hj : z.id = j
        · rw [if_pos hj, if_pos hj, e]
        · rw [if_neg hj, if_neg hj, e]
section
variable {C : St} (h : Tree C)
include h
theorem tree_ask (i : Int) (k : Str) : Tree (askP C i k) := by
  unfold askP
  cases hf : find C i with
  | none => exact h
  | some x =>
    dsimp only
    split
    · rename_i ho
      exact h.updT (fun _ => rfl) (fun _ => rfl) (fun hi => absurd ((find_mem hf).2.trans hi) (opn_iff.1 ho).1)
    · exact h
theorem tree_askK (i : Int) (k : Str) : Tree (askKP C i k) := by
  unfold askKP
  cases hf : find C i with
  | none => exact h
  | some x =>
    dsimp only
    split
    · rename_i ho
      exact h.updT (fun _ => rfl) (fun _ => rfl) (fun hi => absurd ((find_mem hf).2.trans hi) ho.1)
    · exact h
theorem sees_ask (i : Int) (k : Str) (j : Int) (q : Str) : sees (askP C i k) j q = sees C j q := by
  unfold askP
  cases hf : find C i with
  | none => rfl
  | some x =>
    dsimp only
    split
    · rename_i ho
      exact sees_addRd h hf (fun e => (opn_iff.1 ho).1 ((find_mem hf).2.trans e)) _ (fun a b e => by injection e with e1 e2; rw [← e1, ← e2]) j q
    · rfl
theorem seesKeys_ask (i : Int) (k : Str) (j : Int) (q : Str) : seesKeys (askP C i k) j q = seesKeys C j q := by
  unfold askP
  cases hf : find C i with
  | none => rfl
  | some x =>
    dsimp only
    split
    · rename_i ho
      exact seesKeys_addRd h hf (fun e => (opn_iff.1 ho).1 ((find_mem hf).2.trans e)) _ (fun a b e => by cases e) j q
    · rfl
theorem sees_askK (i : Int) (k : Str) (j : Int) (q : Str) : sees (askKP C i k) j q = sees C j q := by
  unfold askKP
  cases hf : find C i with
  | none => rfl
  | some x =>
    dsimp only
    split
    · rename_i ho
      exact sees_addRd h hf (fun e => ho.1 ((find_mem hf).2.trans e)) _ (fun a b e => by cases e) j q
    · rfl
theorem seesKeys_askK (i : Int) (k : Str) (j : Int) (q : Str) : seesKeys (askKP C i k) j q = seesKeys C j q := by
  unfold askKP
  cases hf : find C i with
  | none => rfl
  | some x =>
    dsimp only
    split
    · rename_i ho
      exact seesKeys_addRd h hf (fun e => ho.1 ((find_mem hf).2.trans e)) _ (fun a b e => by injection e with e1 e2; rw [← e1, ← e2]) j q
    · rfl
end

/-! Repeated reads. -/
/-- One has read a key and a prefix. -/
def Fix (C : St) (i : Int) (B : List (Str × Str)) (k v : Str) (q : List Str) : Prop :=
  ∃ x, find C i = some x ∧ x.wr = B ∧ (mget B k = some v ∨ (mget B k = none ∧ cellOf x.rd k = some v)) ∧ ∃ l, keysOf x.rd k = some l ∧ over B k l = q
theorem Fix.step {P : List Str} {C : St} {i : Int} {B : List (Str × Str)} {k v : Str} {q : List Str} (h : Fix C i B k v q) (hw : WF P C) (x : Opn) {y : One} (hy : find (doP C x).2 i = some y) (hB : y.wr = B) : Fix (doP C x).2 i B k v q := by
  obtain ⟨o, ho, hoB, h1, l, h2, h3⟩ := h
  obtain ⟨_, e, he⟩ := do_rd hw x ho hy
  refine ⟨y, hy, hB, ?_, l, ?_, h3⟩
  · rcases h1 with h1 | ⟨h1, h4⟩
    · exact .inl h1
    · exact .inr ⟨h1, by rw [he, cellOf_append, h4]; rfl⟩
  · rw [he, keysOf_append, h2]; rfl
theorem Fix.start {C : St} (h : Tree C) {i : Int} (h0 : i ≠ 0) {x : One} (hx : find C i = some x) (k : Str) :
    Fix (askKP (askP C i k) i k) i x.wr k (sees (askP C i k) i k) (seesKeys (askKP (askP C i k) i k) i k) := by
  have e1 : ∃ y, find (askP C i k) i = some y ∧ y.wr = x.wr ∧ y.par = x.par ∧ (mget x.wr k = some (sees (askP C i k) i k) ∨ (mget x.wr k = none ∧ cellOf y.rd k = some (sees (askP C i k) i k))) := by
    have ht := tree_ask h i k
    have hfind : ∃ y, find (askP C i k) i = some y ∧ y.wr = x.wr ∧ y.par = x.par ∧ ((mget x.wr k).isSome = true ∨ (cellOf y.rd k).isSome = true) := by
      unfold askP
      rw [hx]
      dsimp only
      split
      · rw [find_rd, if_pos rfl, hx]
        refine ⟨_, rfl, rfl, rfl, .inr ?_⟩
        show (cellOf (x.rd ++ [_]) k).isSome = true
        rw [cellOf_append]
        cases cellOf x.rd k <;> simp [cellOf]
      · rename_i ho
        refine ⟨x, hx, rfl, rfl, ?_⟩
        cases hm : mget x.wr k with
        | some v => exact .inl rfl
        | none =>
          cases hc : cellOf x.rd k with
          | some v => exact .inr rfl
          | none => exact absurd (opn_iff.2 ⟨fun e => h0 ((find_mem hx).2.symm.trans e), hm, hc⟩) ho
    obtain ⟨y, hy, hw, hp, ho⟩ := hfind
    refine ⟨y, hy, hw, hp, ?_⟩
    obtain ⟨hyC, hyi⟩ := find_mem hy
    have hs := sees_eq ht hyC k
    rw [hyi, hw] at hs
    cases hm : mget x.wr k with
    | some v => rw [hm] at hs; exact .inl (by rw [hs])
    | none =>
      rw [hm] at hs
      refine .inr ⟨rfl, ?_⟩
      cases hc : cellOf y.rd k with
      | some v => rw [hc] at hs; rw [hs]
      | none => rw [hm, hc] at ho; simp at ho
  obtain ⟨y, hy, hw, hp, hv⟩ := e1
  have ht := tree_ask h i k
  generalize hC1 : askP C i k = C1 at hy hv ht ⊢
  have ht2 := tree_askK ht i k
  have hyi := (find_mem hy).2
  have e2 : ∃ z, find (askKP C1 i k) i = some z ∧ z.wr = x.wr ∧ (∃ e, z.rd = y.rd ++ e) ∧ (keysOf z.rd k).isSome = true := by
    unfold askKP
    rw [hy]
    dsimp only
    split
    · rename_i ho
      rw [find_rd, if_pos rfl, hy]
      refine ⟨_, rfl, hw, ⟨_, rfl⟩, ?_⟩
      show (keysOf (y.rd ++ [_]) k).isSome = true
      rw [keysOf_append, ho.2]
      simp [keysOf]
    · rename_i ho
      refine ⟨y, hy, hw, ⟨[], by simp⟩, ?_⟩
      cases hc : keysOf y.rd k with
      | some v => rfl
      | none => exact absurd ⟨fun e => h0 (hyi.symm.trans e), hc⟩ ho
  obtain ⟨z, hz, hzw, ⟨e, he⟩, hk⟩ := e2
  obtain ⟨hzC, hzi⟩ := find_mem hz
  refine ⟨z, hz, hzw, ?_, ?_⟩
  · rcases hv with hv | ⟨h1, h2⟩
    · exact .inl hv
    · exact .inr ⟨h1, by rw [he, cellOf_append, h2]; rfl⟩
  · obtain ⟨l, hl⟩ := Option.isSome_iff_exists.1 hk
    refine ⟨l, hl, ?_⟩
    have := seesKeys_eq ht2 hzC k
    rw [hzi, hzw, hl] at this
    rw [this]
theorem Fix.end_ {C : St} (h : Tree C) {i : Int} {B : List (Str × Str)} {k v : Str} {q : List Str} (hf : Fix C i B k v q) :
    sees (askP C i k) i k = v ∧ seesKeys (askKP (askP C i k) i k) i k = q := by
  obtain ⟨x, hx, hB, h1, l, h2, h3⟩ := hf
  obtain ⟨hxC, hxi⟩ := find_mem hx
  constructor
  · rw [sees_ask h]
    have := sees_eq h hxC k
    rw [hxi, hB] at this
    rw [this]
    rcases h1 with h1 | ⟨h1, h4⟩
    · rw [h1]
    · rw [h1, h4]
  · rw [seesKeys_askK (tree_ask h _ _), seesKeys_ask h]
    have := seesKeys_eq h hxC k
    rw [hxi, hB, h2] at this
    rw [this, h3]
end Go.Proofs.YtbllmpcpfmlemaaGreat
namespace Go.Proofs.YtbllmpcpfmlemaaGreat

def okRd (C : St) (p : Int) (r : Rd) : Bool := match r with
  | .cell k v => decide (sees C p k = v)
  | .keys q l => decide (seesKeys C p q = l)
def validP (C : St) (i : Int) : Bool := match find C i with
  | none => false
  | some x => x.rd.all (okRd C x.par)
/-- Somebody is the same in two states. -/
structure AlikeP (C D : St) (i : Int) : Prop where
  f : find C i = find D i
  v : validP C i = validP D i
theorem AlikeP.refl (C : St) (i : Int) : AlikeP C C i := ⟨rfl, rfl⟩

/-- Ones laid upon a state: from B on, and so are their parents, but for B's. -/
def Above (B : Int) (C D : St) : Prop := ∃ N : St, D = N ++ C ∧ ∀ x ∈ N, B ≤ x.id ∧ (x.id ≠ B → B ≤ x.par)
theorem has_append (N C : St) (i : Int) : has (N ++ C) i = (has N i || has C i) := by simp [has]
theorem has_low {C : St} {B i : Int} (hC : ∀ x ∈ C, x.id < B) (hi : B ≤ i) : has C i = false := by
  rw [Bool.eq_false_iff]
  intro h
  obtain ⟨x, hx, e⟩ := has_iff.1 h
  have := hC x hx
  omega
theorem has_high {N : St} {B i : Int} (hN : ∀ x ∈ N, B ≤ x.id) (hi : i < B) : has N i = false := by
  rw [Bool.eq_false_iff]
  intro h
  obtain ⟨x, hx, e⟩ := has_iff.1 h
  have := hN x hx
  omega
theorem find_append {N C : St} {i : Int} (h : has N i = false) : find (N ++ C) i = find C i := by
  induction N with
  | nil => rfl
  | cons z N ih =>
    rw [has_cons, Bool.or_eq_false_iff] at h
    rw [List.cons_append, find_cons, if_neg (by simpa using h.1), ih h.2]
theorem sees_skip {N C : St} {i : Int} (h : has N i = false) (k : Str) : sees (N ++ C) i k = sees C i k := by
  induction N with
  | nil => rfl
  | cons z N ih =>
    rw [has_cons, Bool.or_eq_false_iff] at h
    rw [List.cons_append, sees, if_neg (by simpa using h.1), ih h.2]
theorem seesKeys_skip {N C : St} {i : Int} (h : has N i = false) (k : Str) : seesKeys (N ++ C) i k = seesKeys C i k := by
  induction N with
  | nil => rfl
  | cons z N ih =>
    rw [has_cons, Bool.or_eq_false_iff] at h
    rw [List.cons_append, seesKeys, if_neg (by simpa using h.1), ih h.2]
theorem below_skip {N C : St} {i j : Int} (h : has N j = false) : below (N ++ C) i j = below C i j := by
  induction N with
  | nil => rfl
  | cons z N ih =>
    rw [has_cons, Bool.or_eq_false_iff] at h
    rw [List.cons_append, below, if_neg (by simpa using h.1), ih h.2]
theorem below_low {C : St} {B i : Int} (hC : ∀ x ∈ C, x.id < B) (hi : B ≤ i) (j : Int) : below C i j = false := by
  induction C generalizing j with
  | nil => rfl
  | cons y t ih =>
    have hy := hC y (by simp)
    have iht := fun j => ih (fun x hx => hC x (by simp [hx])) j
    rw [below]
    split
    · rename_i e
      rw [iht, Bool.or_false, decide_eq_false_iff_not]
      omega
    · exact iht j
section
variable {B : Int} {C D : St} (hC : ∀ x ∈ C, x.id < B)
include hC
theorem Above.upd (h : Above B C D) {i : Int} (hi : B ≤ i) {g : One → One} (hid : ∀ x, (g x).id = x.id) (hpar : ∀ x, (g x).par = x.par) : Above B C (Proofs.YtbllmpcpfmlemaaGreat.upd D i g) := by
  obtain ⟨N, rfl, hN⟩ := h
  refine ⟨Proofs.YtbllmpcpfmlemaaGreat.upd N i g, ?_, fun x hx => ?_⟩
  · have : Proofs.YtbllmpcpfmlemaaGreat.upd (N ++ C) i g = Proofs.YtbllmpcpfmlemaaGreat.upd N i g ++ Proofs.YtbllmpcpfmlemaaGreat.upd C i g := List.map_append
    rw [this, upd_none _ (has_low hC hi)]
  · obtain ⟨y, hy, ⟨_, rfl⟩ | ⟨_, rfl⟩⟩ := mem_upd hx
    · rw [hid, hpar]; exact hN y hy
    · exact hN _ hy
theorem Above.ask (h : Above B C D) {i : Int} (hi : B ≤ i) (k : Str) : Above B C (askP D i k) := by
  unfold askP
  split
  · exact h
  · split
    · exact h.upd hC hi (fun _ => rfl) (fun _ => rfl)
    · exact h
theorem Above.askK (h : Above B C D) {i : Int} (hi : B ≤ i) (k : Str) : Above B C (askKP D i k) := by
  unfold askKP
  split
  · exact h
  · split
    · exact h.upd hC hi (fun _ => rfl) (fun _ => rfl)
    · exact h
theorem Above.put (h : Above B C D) {i : Int} (hi : B ≤ i) (k v : Str) : Above B C (putP D i k v) := h.upd hC hi (fun _ => rfl) (fun _ => rfl)
theorem Above.log (h : Above B C D) {i : Int} (hi : B ≤ i) (k v : Str) : Above B C (logP D i k v) := h.upd hC hi (fun _ => rfl) (fun _ => rfl)
theorem Above.note (h : Above B C D) {i : Int} (hi : B ≤ i) (r : RdA) : Above B C (noteP D i r) := by
  unfold noteP
  split
  · exact h
  split
  · exact h
  split
  · split
    · exact h.upd hC hi (fun _ => rfl) (fun _ => rfl)
    · exact h
  split
  · split
    · exact h.upd hC hi (fun _ => rfl) (fun _ => rfl)
    · exact h
  · exact h
omit hC in
theorem Above.begin_ (h : Above B C D) {n i : Int} (hi : B ≤ i) (hn : B < n) : Above B C (beginP D n i).2 := by
  unfold beginP
  split
  · exact h
  split
  · exact h
  split
  · obtain ⟨N, rfl, hN⟩ := h
    refine ⟨⟨n, i, [], [], []⟩ :: N, rfl, fun x hx => ?_⟩
    rcases List.mem_cons.1 hx with rfl | hx
    · exact ⟨Int.le_of_lt hn, fun _ => hi⟩
    · exact hN x hx
  · exact h
omit hC in
theorem Above.filter (h : Above B C D) {p : One → Bool} (hp : ∀ x ∈ C, p x = true) : Above B C (D.filter p) := by
  obtain ⟨N, rfl, hN⟩ := h
  refine ⟨N.filter p, ?_, fun x hx => hN x (List.mem_filter.1 hx).1⟩
  rw [List.filter_append, List.filter_eq_self.2 hp]
theorem Above.reAsk {p : Int} (hp : B ≤ p) (l : List Rd) : ∀ {D : St}, Above B C D → Above B C (Proofs.YtbllmpcpfmlemaaGreat.reAsk D p l) := by
  induction l with
  | nil => intro D h; exact h
  | cons r l ih =>
    intro D h
    refine ih ?_
    cases r with
    | cell k v => exact h.ask hC hp k
    | keys k v => exact h.askK hC hp k
theorem Above.putAll {p : Int} (hp : B ≤ p) (l : List (Str × Str)) : ∀ {D : St}, Above B C D → Above B C (Proofs.YtbllmpcpfmlemaaGreat.putAll D p l) := by
  induction l with
  | nil => intro D h; exact h
  | cons r l ih => intro D h; exact ih (h.put hC hp _ _)
theorem Above.logAll {p : Int} (hp : B ≤ p) (l : List (Str × Str)) : ∀ {D : St}, Above B C D → Above B C (Proofs.YtbllmpcpfmlemaaGreat.logAll D p l) := by
  induction l with
  | nil => intro D h; exact h
  | cons r l ih => intro D h; exact ih (h.log hC hp _ _)
theorem Above.give (h : Above B C D) {x : One} (hp : B ≤ x.par) : Above B C (Proofs.YtbllmpcpfmlemaaGreat.give D x) :=
  ((h.reAsk hC hp _).putAll hC hp _).logAll hC hp _
theorem Above.mem (h : Above B C D) {x : One} (hx : x ∈ D) (hi : B ≤ x.id) (hne : x.id ≠ B) : B ≤ x.par := by
  obtain ⟨N, rfl, hN⟩ := h
  rcases List.mem_append.1 hx with hx | hx
  · exact (hN x hx).2 hne
  · have := hC x hx; omega
theorem Above.commit (h : Above B C D) {i : Int} (hi : B < i) : Above B C (commitP D i).2 := by
  unfold commitP
  cases hf : Proofs.YtbllmpcpfmlemaaGreat.find D i with
  | none => exact h
  | some x =>
    dsimp only
    split
    · exact h
    split
    · exact h
    · obtain ⟨h1, h2⟩ := find_mem hf
      refine (h.give hC (h.mem hC h1 (by omega) (by omega))).filter (fun y hy => ?_)
      have := hC y hy
      rw [decide_eq_true_eq]
      omega
theorem Above.low (h : Above B C D) {i : Int} (hi : B ≤ i) {j : Int} (hj : j < B) : below D i j = false := by
  obtain ⟨N, rfl, hN⟩ := h
  rw [below_skip (has_high (fun x hx => (hN x hx).1) hj)]
  exact below_low hC hi j
theorem Above.abort (h : Above B C D) {i : Int} (hi : B ≤ i) : Above B C (abortP D i) := by
  unfold abortP
  split
  · exact h
  · exact h.filter (fun x hx => by rw [h.low hC hi (hC x hx)]; rfl)
theorem Above.do_ (h : Above B C D) {x : Opn} (hi : B ≤ x.who) (hn : B < x.n) (h9 : doing x = 9 → x.who ≠ B) : Above B C (doP D x).2 := by
  unfold doP
  split
  · exact h.put hC hi _ _
  split
  · exact h.askK hC hi _
  split
  · dsimp only
    split
    · exact h
    · exact h.log hC hi _ _
  split
  · exact h.begin_ hi hn
  split
  · rename_i h9'
    have := h9 h9'
    exact h.commit hC (by omega)
  split
  · exact h.abort hC hi
  split
  · exact h.note hC hi _
  split
  · exact h.note hC hi _
  · exact h.ask hC hi _
theorem Above.alike (h : Above B C D) (hT : Tree C) {j : Int} (hj : j < B) : AlikeP D C j := by
  obtain ⟨N, rfl, hN⟩ := h
  have hNi := fun x hx => (hN x hx).1
  have e := find_append (C := C) (has_high hNi hj)
  refine ⟨e, ?_⟩
  unfold validP
  rw [e]
  cases hf : Proofs.YtbllmpcpfmlemaaGreat.find C j with
  | none => rfl
  | some x =>
    dsimp only
    obtain ⟨hx, hxj⟩ := find_mem hf
    by_cases h0 : x.id = 0
    · rw [hT.rd0 hx h0]; rfl
    · obtain ⟨y, hy, hyi⟩ := has_iff.1 (hT.par hx h0)
      have hp : x.par < B := by have := hC y hy; omega
      have hh := has_high hNi hp
      congr 1
      funext r
      cases r with
      | cell k v => show decide (sees (N ++ C) x.par k = v) = _; rw [sees_skip hh]; rfl
      | keys k v => show decide (seesKeys (N ++ C) x.par k = v) = _; rw [seesKeys_skip hh]; rfl
theorem Above.root {N : St} (hN : ∀ x ∈ N, B ≤ x.id ∧ (x.id ≠ B → B ≤ x.par)) (hB : 0 < B) (hT : Tree (N ++ C)) (hne : N ≠ []) : has N B = true := by
  induction N with
  | nil => exact absurd rfl hne
  | cons z N ih =>
    obtain ⟨z1, z2⟩ := hN z (by simp)
    rw [List.cons_append] at hT
    rcases (show (z.id = 0 ∧ z.rd = [] ∧ N ++ C = []) ∨ (1 ≤ z.id ∧ has (N ++ C) z.par = true ∧ has (N ++ C) z.id = false ∧ Tree (N ++ C)) from hT) with ⟨h1, _, _⟩ | ⟨h1, h2, h3, h4⟩
    · omega
    · rw [has_cons]
      by_cases hz : z.id = B
      · simp [hz]
      · have hp := z2 hz
        rw [has_append, has_low hC hp, Bool.or_false] at h2
        have := ih (fun x hx => hN x (by simp [hx])) h4 (fun e => by rw [e] at h2; cases h2)
        simp [this]
theorem Above.under {N : St} (hN : ∀ x ∈ N, B ≤ x.id ∧ (x.id ≠ B → B ≤ x.par)) (hB : 0 < B) (hT : Tree (N ++ C)) : ∀ x ∈ N, below (N ++ C) B x.id = true := by
  induction N with
  | nil => simp
  | cons z N ih =>
    obtain ⟨z1, z2⟩ := hN z (by simp)
    rw [List.cons_append] at hT
    rcases (show (z.id = 0 ∧ z.rd = [] ∧ N ++ C = []) ∨ (1 ≤ z.id ∧ has (N ++ C) z.par = true ∧ has (N ++ C) z.id = false ∧ Tree (N ++ C)) from hT) with ⟨h1, _, _⟩ | ⟨h1, h2, h3, h4⟩
    · omega
    · have iht := ih (fun x hx => hN x (by simp [hx])) h4
      intro x hx
      rcases List.mem_cons.1 hx with rfl | hx
      · rw [List.cons_append, below, if_pos rfl]
        by_cases hz : x.id = B
        · simp [hz]
        · have hp := z2 hz
          rw [has_append, has_low hC hp, Bool.or_false] at h2
          obtain ⟨y, hy, e⟩ := has_iff.1 h2
          have := iht y hy
          rw [e] at this
          simp [this]
      · rw [List.cons_append, below, if_neg (fun e => by rw [has_iff.2 ⟨x, List.mem_append_left _ hx, e.symm⟩] at h3; cases h3)]
        exact iht x hx
theorem Above.end_ (h : Above B C D) (hB : 0 < B) (hT : Tree D) : abortP D B = C := by
  obtain ⟨N, rfl, hN⟩ := h
  unfold abortP
  by_cases hn : N = []
  · subst hn
    rw [if_pos (.inr (by rw [List.nil_append]; exact has_low hC (Int.le_refl _)))]
    rfl
  · have h1 := Above.root hC hN hB hT hn
    rw [if_neg (by rintro (e | e); omega; rw [has_append, h1] at e; cases e), List.filter_append]
    have e1 : N.filter (fun x => !below (N ++ C) B x.id) = [] := by
      rw [List.filter_eq_nil_iff]
      intro x hx
      rw [Above.under hC hN hB hT x hx]
      simp
    have e2 : C.filter (fun x => !below (N ++ C) B x.id) = C := by
      rw [List.filter_eq_self]
      intro x hx
      rw [below_skip (has_high (fun x hx => (hN x hx).1) (hC x hx)), below_low hC (Int.le_refl _)]
      rfl
    rw [e1, e2]
    rfl
end
theorem Above.start {B p : Int} {C D : St} (h : (beginP C B p).1 = 0) (hD : (beginP C B p).2 = D) : Above B C D := by
  unfold beginP at h hD
  split at h
  · cases h
  split at h
  · cases h
  split at h
  · rename_i h1 h2 h3
    rw [if_neg h1, if_neg h2, if_pos h3] at hD
    refine ⟨[⟨B, p, [], [], []⟩], hD.symm, fun x hx => ?_⟩
    rw [List.mem_singleton.1 hx]
    exact ⟨Int.le_refl _, fun e => absurd rfl e⟩
  · cases h
end Go.Proofs.YtbllmpcpfmlemaaGreat
namespace Go.Proofs.YtbllmpcpfmlemaaGreat

theorem upd_refl {C : St} {i : Int} {g : One → One} (h : ∀ x, g x = x) : upd C i g = C := by
  unfold upd
  refine (List.map_congr_left fun x _ => ?_).trans (List.map_id C)
  split
  · rw [h]; rfl
  · rfl
def wrAll (p : Int) (l m : List (Str × Str)) : List (Str × Str) := l.foldl (fun m e => wrPut p e.1 e.2 m) m
def lgAll (l m : List (Str × Str)) : List (Str × Str) := l.foldl (fun m e => lgAdd e.1 e.2 m) m
theorem putAll_eq (p : Int) (l : List (Str × Str)) : ∀ C : St, putAll C p l = upd C p (setWr (wrAll p l)) := by
  induction l with
  | nil => intro C; exact (upd_refl (fun _ => rfl)).symm
  | cons e l ih =>
    intro C
    show putAll (putP C p e.1 e.2) p l = _
    rw [ih, putP, upd_upd (f := setWr _) (fun _ => rfl)]
    rfl
theorem logAll_eq (p : Int) (l : List (Str × Str)) : ∀ C : St, logAll C p l = upd C p (setLg (lgAll l)) := by
  induction l with
  | nil => intro C; exact (upd_refl (fun _ => rfl)).symm
  | cons e l ih =>
    intro C
    show logAll (logP C p e.1 e.2) p l = _
    rw [ih, logP, upd_upd (f := setLg _) (fun _ => rfl)]
    rfl
/-- What one's writes and logs do to its parent. -/
def mix (x : One) (o : One) : One := { o with wr := wrAll x.par x.wr o.wr, lg := lgAll x.lg o.lg }
theorem find_mix (C : St) (i : Int) (x : One) (j : Int) : find (upd C i (mix x)) j = if j = i then (find C i).map (mix x) else find C j := find_upd (fun _ => rfl)
theorem give_eq (C : St) (x : One) : give C x = upd (reAsk C x.par x.rd) x.par (mix x) := by
  unfold give
  rw [logAll_eq, putAll_eq, upd_upd (f := setWr _) (fun _ => rfl)]
  rfl
theorem ascK_wrPut {m : List (Str × Str)} (h : AscK m) (p : Int) (k v : Str) : AscK (wrPut p k v m) := by
  unfold wrPut
  split
  · exact ascK_mdel h _
  · exact ascK_mput h _ _
theorem mget_wrPut {m : List (Str × Str)} (h : AscK m) (p : Int) (k v j : Str) : mget (wrPut p k v m) j = if j = k then (if p = 0 ∧ v = [] then none else some v) else mget m j := by
  unfold wrPut
  split
  · rw [mget_mdel]
  · rw [mget_mput h]
def over1 (p : Int) (o : Option Str) (d : Option Str) : Option Str := match o with
  | some v => if p = 0 ∧ v = [] then none else some v
  | none => d
theorem ascK_wrAll (p : Int) (l : List (Str × Str)) : ∀ {m : List (Str × Str)}, AscK m → AscK (wrAll p l m) := by
  induction l with
  | nil => intro m h; exact h
  | cons e l ih => intro m h; exact ih (ascK_wrPut h _ _ _)
theorem mget_wrAll (p : Int) {l : List (Str × Str)} (hl : AscK l) : ∀ {m : List (Str × Str)}, AscK m → ∀ j, mget (wrAll p l m) j = over1 p (mget l j) (mget m j) := by
  induction l with
  | nil => intro m _ j; rfl
  | cons e l ih =>
    obtain ⟨a, u⟩ := e
    obtain ⟨h1, h2⟩ := ascK_cons.1 hl
    have hn : mget l a = none := mget_none.2 fun hm => by
      obtain ⟨e, he, hx⟩ := List.mem_map.1 hm
      exact str_ne (h1 e he) hx.symm
    intro m hm j
    show mget (wrAll p l (wrPut p a u m)) j = _
    rw [ih h2 (ascK_wrPut hm _ _ _), mget_wrPut hm, mget]
    by_cases hj : a = j
    · subst hj
      rw [hn, if_pos rfl, if_pos rfl]
      rfl
    · rw [if_neg hj, if_neg (Ne.symm hj)]
theorem wr_step {p : Int} {l m : List (Str × Str)} (hl : AscK l) (hm : AscK m) (k v : Str) : wrPut p k v (wrAll p l m) = wrAll p (mput l k v) m := by
  refine ascK_ext (ascK_wrPut (ascK_wrAll p l hm) _ _ _) (ascK_wrAll p _ hm) fun j => ?_
  rw [mget_wrPut (ascK_wrAll p l hm), mget_wrAll p hl hm, mget_wrAll p (ascK_mput hl k v) hm, mget_mput hl]
  by_cases hj : j = k
  · rw [if_pos hj, if_pos hj]; rfl
  · rw [if_neg hj, if_neg hj]
theorem ascK_lgAdd {m : List (Str × Str)} (h : AscK m) (k s : Str) : AscK (lgAdd k s m) := ascK_mput h _ _
theorem mget_lgAdd {m : List (Str × Str)} (h : AscK m) (k s j : Str) : mget (lgAdd k s m) j = if j = k then some ((mget m k).getD [] ++ s) else mget m j := mget_mput h _ _ _
theorem ascK_lgAll (l : List (Str × Str)) : ∀ {m : List (Str × Str)}, AscK m → AscK (lgAll l m) := by
  induction l with
  | nil => intro m h; exact h
  | cons e l ih => intro m h; exact ih (ascK_mput h _ _)
def add1 (o : Option Str) (d : Option Str) : Option Str := match o with
  | some s => some (d.getD [] ++ s)
  | none => d
theorem mget_lgAll {l : List (Str × Str)} (hl : AscK l) : ∀ {m : List (Str × Str)}, AscK m → ∀ j, mget (lgAll l m) j = add1 (mget l j) (mget m j) := by
  induction l with
  | nil => intro m _ j; rfl
  | cons e l ih =>
    obtain ⟨a, u⟩ := e
    obtain ⟨h1, h2⟩ := ascK_cons.1 hl
    have hn : mget l a = none := mget_none.2 fun hm => by
      obtain ⟨e, he, hx⟩ := List.mem_map.1 hm
      exact str_ne (h1 e he) hx.symm
    intro m hm j
    show mget (lgAll l (lgAdd a u m)) j = _
    rw [ih h2 (ascK_lgAdd hm _ _), mget_lgAdd hm, mget]
    by_cases hj : a = j
    · subst hj
      rw [hn, if_pos rfl, if_pos rfl]
      rfl
    · rw [if_neg hj, if_neg (Ne.symm hj)]
theorem lg_step {l m : List (Str × Str)} (hl : AscK l) (hm : AscK m) (k s : Str) : lgAdd k s (lgAll l m) = lgAll (lgAdd k s l) m := by
  refine ascK_ext (ascK_mput (ascK_lgAll l hm) _ _) (ascK_lgAll _ hm) fun j => ?_
  rw [mget_lgAdd (ascK_lgAll l hm), mget_lgAll hl hm, mget_lgAll (ascK_lgAdd hl k s) hm, mget_lgAll hl hm, mget_lgAdd hl]
  by_cases hj : j = k
  · subst hj
    rw [if_pos rfl, if_pos rfl]
    cases mget l j <;> simp [add1, List.append_assoc]
  · rw [if_neg hj, if_neg hj]

/-! Asking on behalf of a trial. -/
theorem tree_reAsk (p : Int) (l : List Rd) : ∀ {C : St}, Tree C → Tree (reAsk C p l) := by
  induction l with
  | nil => intro C h; exact h
  | cons r l ih =>
    intro C h
    refine ih ?_
    cases r with
    | cell k v => exact tree_ask h p k
    | keys k v => exact tree_askK h p k
theorem sees_reAsk (p : Int) (l : List Rd) : ∀ {C : St}, Tree C → ∀ j k, sees (reAsk C p l) j k = sees C j k := by
  induction l with
  | nil => intro C _ j k; rfl
  | cons r l ih =>
    intro C h j k
    cases r with
    | cell a v => exact (ih (tree_ask h p a) j k).trans (sees_ask h p a j k)
    | keys a v => exact (ih (tree_askK h p a) j k).trans (sees_askK h p a j k)
theorem seesKeys_reAsk (p : Int) (l : List Rd) : ∀ {C : St}, Tree C → ∀ j k, seesKeys (reAsk C p l) j k = seesKeys C j k := by
  induction l with
  | nil => intro C _ j k; rfl
  | cons r l ih =>
    intro C h j k
    cases r with
    | cell a v => exact (ih (tree_ask h p a) j k).trans (seesKeys_ask h p a j k)
    | keys a v => exact (ih (tree_askK h p a) j k).trans (seesKeys_askK h p a j k)
theorem reAsk_append (C : St) (p : Int) (l m : List Rd) : reAsk C p (l ++ m) = reAsk (reAsk C p l) p m := List.foldl_append
theorem find_ask {C : St} {i : Int} {k : Str} {j : Int} {o : One} (h : find (askP C i k) j = some o) : ∃ o0, find C j = some o0 ∧ o.id = o0.id ∧ o.par = o0.par ∧ o.wr = o0.wr ∧ o.lg = o0.lg ∧ ∃ e, o.rd = o0.rd ++ e := by
  unfold askP at h
  split at h
  · exact ⟨o, h, rfl, rfl, rfl, rfl, [], by simp⟩
  · split at h
    · rw [find_rd] at h
      split at h
      · rename_i e
        rw [e]
        rename_i x hx _ 
        rw [hx] at h ⊢
        injection h with h
        subst h
        exact ⟨x, rfl, rfl, rfl, rfl, rfl, _, rfl⟩
      · exact ⟨o, h, rfl, rfl, rfl, rfl, [], by simp⟩
    · exact ⟨o, h, rfl, rfl, rfl, rfl, [], by simp⟩
theorem find_askK {C : St} {i : Int} {k : Str} {j : Int} {o : One} (h : find (askKP C i k) j = some o) : ∃ o0, find C j = some o0 ∧ o.id = o0.id ∧ o.par = o0.par ∧ o.wr = o0.wr ∧ o.lg = o0.lg ∧ ∃ e, o.rd = o0.rd ++ e := by
  unfold askKP at h
  split at h
  · exact ⟨o, h, rfl, rfl, rfl, rfl, [], by simp⟩
  · split at h
    · rw [find_rd] at h
      split at h
      · rename_i e
        rw [e]
        rename_i x hx _ 
        rw [hx] at h ⊢
        injection h with h
        subst h
        exact ⟨x, rfl, rfl, rfl, rfl, rfl, _, rfl⟩
      · exact ⟨o, h, rfl, rfl, rfl, rfl, [], by simp⟩
    · exact ⟨o, h, rfl, rfl, rfl, rfl, [], by simp⟩
theorem find_reAsk (p : Int) (l : List Rd) : ∀ {C : St} {j : Int} {o : One}, find (reAsk C p l) j = some o → ∃ o0, find C j = some o0 ∧ o.id = o0.id ∧ o.par = o0.par ∧ o.wr = o0.wr ∧ o.lg = o0.lg ∧ ∃ e, o.rd = o0.rd ++ e := by
  induction l with
  | nil => intro C j o h; exact ⟨o, h, rfl, rfl, rfl, rfl, [], by simp⟩
  | cons r l ih =>
    intro C j o h
    obtain ⟨o1, h1, a1, a2, a3, a4, e1, a5⟩ := ih h
    have : ∃ o0, find C j = some o0 ∧ o1.id = o0.id ∧ o1.par = o0.par ∧ o1.wr = o0.wr ∧ o1.lg = o0.lg ∧ ∃ e, o1.rd = o0.rd ++ e := by
      cases r with
      | cell a v => exact find_ask h1
      | keys a v => exact find_askK h1
    obtain ⟨o0, h0, b1, b2, b3, b4, e2, b5⟩ := this
    exact ⟨o0, h0, a1.trans b1, a2.trans b2, a3.trans b3, a4.trans b4, e2 ++ e1, by rw [a5, b5, List.append_assoc]⟩
theorem ask_closed {C : St} {p : Int} {k : Str} {o : One} (h : find (askP C p k) p = some o) : opn o k = false := by
  unfold askP at h
  cases hf : find C p with
  | none => rw [hf] at h; dsimp only at h; rw [hf] at h; cases h
  | some x =>
    rw [hf] at h
    dsimp only at h
    split at h
    · rw [find_rd, if_pos rfl, hf] at h
      injection h with h
      subst h
      rw [Bool.eq_false_iff]
      intro hh
      have h3 := (opn_iff.1 hh).2.2
      have : cellOf (x.rd ++ [Rd.cell k (sees C x.par k)]) k = none := h3
      rw [cellOf_append] at this
      cases hc : cellOf x.rd k <;> rw [hc] at this <;> simp [cellOf] at this
    · rename_i ho
      rw [hf] at h
      injection h with h
      subst h
      simpa using ho
theorem askK_closed {C : St} {p : Int} {k : Str} {o : One} (h : find (askKP C p k) p = some o) : ¬ (o.id ≠ 0 ∧ keysOf o.rd k = none) := by
  unfold askKP at h
  cases hf : find C p with
  | none => rw [hf] at h; dsimp only at h; rw [hf] at h; cases h
  | some x =>
    rw [hf] at h
    dsimp only at h
    split at h
    · rw [find_rd, if_pos rfl, hf] at h
      injection h with h
      subst h
      rintro ⟨_, h3⟩
      have : keysOf (x.rd ++ [Rd.keys k (seesKeys C x.par k)]) k = none := h3
      rw [keysOf_append] at this
      cases hc : keysOf x.rd k <;> rw [hc] at this <;> simp [keysOf] at this
    · rename_i ho
      rw [hf] at h
      injection h with h
      subst h
      exact ho
theorem opn_grow {o o0 : One} {k : Str} (h1 : o.id = o0.id) (h3 : o.wr = o0.wr) (h5 : ∃ e, o.rd = o0.rd ++ e) (h : opn o0 k = false) : opn o k = false := by
  rw [Bool.eq_false_iff] at h ⊢
  intro hh
  obtain ⟨a, b, c⟩ := opn_iff.1 hh
  obtain ⟨e, he⟩ := h5
  rw [he, cellOf_append] at c
  refine h (opn_iff.2 ⟨by rw [← h1]; exact a, by rw [← h3]; exact b, ?_⟩)
  cases hc : cellOf o0.rd k with
  | none => rfl
  | some v => rw [hc] at c; cases c
theorem reAsk_closed (p : Int) (l : List Rd) : ∀ {C : St} {k v : Str} {o : One}, Rd.cell k v ∈ l → find (reAsk C p l) p = some o → opn o k = false := by
  induction l with
  | nil => intro C k v o h; cases h
  | cons r l ih =>
    intro C k v o h ho
    rcases List.mem_cons.1 h with rfl | h
    · obtain ⟨o1, h1, a1, a2, a3, a4, a5⟩ := find_reAsk p l (C := askP C p k) ho
      exact opn_grow a1 a3 a5 (ask_closed h1)
    · exact ih h ho
theorem reAsk_closedK (p : Int) (l : List Rd) : ∀ {C : St} {k : Str} {v : List Str} {o : One}, Rd.keys k v ∈ l → find (reAsk C p l) p = some o → ¬ (o.id ≠ 0 ∧ keysOf o.rd k = none) := by
  induction l with
  | nil => intro C k v o h; cases h
  | cons r l ih =>
    intro C k v o h ho
    rcases List.mem_cons.1 h with rfl | h
    · obtain ⟨o1, h1, a1, a2, a3, a4, e, a5⟩ := find_reAsk p l (C := askKP C p k) ho
      have h2 := askK_closed h1
      rintro ⟨b1, b2⟩
      refine h2 ⟨by rw [← a1]; exact b1, ?_⟩
      rw [a5, keysOf_append] at b2
      cases hc : keysOf o1.rd k with
      | none => rfl
      | some v => rw [hc] at b2; cases b2
    · exact ih h ho
section
variable {C : St} (h : Tree C) {i : Int} {x : One} (hx : find C i = some x) (h0 : i ≠ 0) {g : One → One} (hid : ∀ x, (g x).id = x.id)
include h hx h0 hid
/-- What one's parent sees does not turn with what one has. -/
theorem sees_par (k : Str) : sees (upd C i g) x.par k = sees C x.par k := by
  induction C with
  | nil => cases h
  | cons z t ih =>
    rcases h with ⟨h1, _, rfl⟩ | ⟨h1, h2, h3, h4⟩
    · rw [find_cons] at hx
      split at hx
      · rename_i e; exact absurd (e.symm.trans h1) h0
      · cases hx
    · rw [find_cons] at hx
      rw [upd_cons]
      by_cases hz : z.id = i
      · rw [if_pos hz] at hx ⊢
        injection hx with hx
        subst hx
        have hne : ¬ z.id = z.par := fun e => by rw [← e] at h2; rw [h2] at h3; cases h3
        rw [upd_none _ (by rw [← hz]; exact h3), sees, sees, if_neg hne, if_neg (by rw [hid]; exact hne)]
      · rw [if_neg hz] at hx ⊢
        have hxt := (find_mem hx).1
        have h0' : x.id ≠ 0 := fun e => h0 ((find_mem hx).2.symm.trans e)
        have hp := h4.par hxt h0'
        have hn : ¬ z.id = x.par := fun e => by rw [e, hp] at h3; cases h3
        rw [sees, sees, if_neg hn, if_neg hn, ih h4 hx]
theorem seesKeys_par (k : Str) : seesKeys (upd C i g) x.par k = seesKeys C x.par k := by
  induction C with
  | nil => cases h
  | cons z t ih =>
    rcases h with ⟨h1, _, rfl⟩ | ⟨h1, h2, h3, h4⟩
    · rw [find_cons] at hx
      split at hx
      · rename_i e; exact absurd (e.symm.trans h1) h0
      · cases hx
    · rw [find_cons] at hx
      rw [upd_cons]
      by_cases hz : z.id = i
      · rw [if_pos hz] at hx ⊢
        injection hx with hx
        subst hx
        have hne : ¬ z.id = z.par := fun e => by rw [← e] at h2; rw [h2] at h3; cases h3
        rw [upd_none _ (by rw [← hz]; exact h3), seesKeys, seesKeys, if_neg hne, if_neg (by rw [hid]; exact hne)]
      · rw [if_neg hz] at hx ⊢
        have hxt := (find_mem hx).1
        have h0' : x.id ≠ 0 := fun e => h0 ((find_mem hx).2.symm.trans e)
        have hp := h4.par hxt h0'
        have hn : ¬ z.id = x.par := fun e => by rw [e, hp] at h3; cases h3
        rw [seesKeys, seesKeys, if_neg hn, if_neg hn, ih h4 hx]
end
/-- Asking goes past what a trial gives. -/
theorem ask_mix {R : St} (hR : Tree R) {x : One} (k : Str) (hk : mget x.wr k = none) (hx : AscK x.wr) (hw : ∀ o, find R x.par = some o → AscK o.wr) : askP (upd R x.par (mix x)) x.par k = upd (askP R x.par k) x.par (mix x) := by
  unfold askP
  rw [find_mix, if_pos rfl]
  cases hf : find R x.par with
  | none => rfl
  | some o =>
    dsimp only [Option.map]
    have e : opn (mix x o) k = opn o k := by
      unfold opn
      show (decide (o.id ≠ 0) && (mget (wrAll x.par x.wr o.wr) k).isNone && _) = _
      rw [mget_wrAll _ hx (hw o hf), hk]
      rfl
    rw [e]
    cases ho : opn o k with
    | false => rfl
    | true =>
      have h0 : x.par ≠ 0 := fun h => (opn_iff.1 ho).1 ((find_mem hf).2.trans h)
      have e2 : sees (upd R x.par (mix x)) (mix x o).par k = sees R o.par k := sees_par hR hf h0 (g := mix x) (fun _ => rfl) k
      rw [if_pos rfl, if_pos rfl, e2, upd_upd (f := mix x) (fun _ => rfl), upd_upd (f := addRd _) (fun _ => rfl)]
      rfl
theorem askK_mix {R : St} (hR : Tree R) {x : One} (k : Str) : askKP (upd R x.par (mix x)) x.par k = upd (askKP R x.par k) x.par (mix x) := by
  unfold askKP
  rw [find_mix, if_pos rfl]
  cases hf : find R x.par with
  | none => rfl
  | some o =>
    dsimp only [Option.map]
    have e : ((mix x o).id ≠ 0 ∧ keysOf (mix x o).rd k = none) = (o.id ≠ 0 ∧ keysOf o.rd k = none) := rfl
    simp only [e]
    by_cases ho : o.id ≠ 0 ∧ keysOf o.rd k = none
    · have h0 : x.par ≠ 0 := fun h => ho.1 ((find_mem hf).2.trans h)
      have e2 : seesKeys (upd R x.par (mix x)) (mix x o).par k = seesKeys R o.par k := seesKeys_par hR hf h0 (g := mix x) (fun _ => rfl) k
      rw [if_pos ho, if_pos ho, e2, upd_upd (f := mix x) (fun _ => rfl), upd_upd (f := addRd _) (fun _ => rfl)]
      rfl
    · rw [if_neg ho, if_neg ho]
theorem ask_same {C : St} {i : Int} {k : Str} (h : ∀ o, find C i = some o → opn o k = false) : askP C i k = C := by
  unfold askP
  cases hf : find C i with
  | none => rfl
  | some o => dsimp only; rw [h o hf]; rfl
theorem askK_same {C : St} {i : Int} {k : Str} (h : ∀ o, find C i = some o → ¬ (o.id ≠ 0 ∧ keysOf o.rd k = none)) : askKP C i k = C := by
  unfold askKP
  cases hf : find C i with
  | none => rfl
  | some o => dsimp only; rw [if_neg (h o hf)]
def pick1 (o : Option Str) (d : Str) : Str := match o with
  | some v => v
  | none => d
def pickL (o : Option (List Str)) (d : List Str) : List Str := match o with
  | some v => v
  | none => d
theorem tree_give {V : St} (h : Tree V) (x : One) : Tree (give V x) := by
  rw [give_eq]
  exact (tree_reAsk _ _ h).updT (fun _ => rfl) (fun _ => rfl) (fun _ _ => rfl)
/-- What the parent sees when it has been given a trial. -/
theorem sees_give {V : St} (h : Tree V) {x : One} (hp : has V x.par = true) (hx : AscK x.wr) (hw : ∀ o, find V x.par = some o → AscK o.wr) (k : Str) : sees (give V x) x.par k = pick1 (mget x.wr k) (sees V x.par k) := by
  rw [give_eq, ← sees_reAsk x.par x.rd h]
  have hR := tree_reAsk x.par x.rd h
  have hw' : ∀ o, find (reAsk V x.par x.rd) x.par = some o → AscK o.wr := fun o ho => by
    obtain ⟨o0, h1, _, _, h2, _⟩ := find_reAsk _ _ ho
    rw [h2]; exact hw o0 h1
  have hh : has (reAsk V x.par x.rd) x.par = true := by rw [(grow_reAsk _ _ _).1]; exact hp
  generalize reAsk V x.par x.rd = R at hR hw' hh ⊢
  obtain ⟨o, ho⟩ := has_find hh
  obtain ⟨hoR, hoi⟩ := find_mem ho
  have hT : Tree (upd R x.par (mix x)) := hR.updT (fun _ => rfl) (fun _ => rfl) (fun _ _ => rfl)
  have hf : find (upd R x.par (mix x)) x.par = some (mix x o) := by rw [find_mix, if_pos rfl, ho]; rfl
  have e1 := sees_eq hT (find_mem hf).1 k
  have e2 := sees_eq hR hoR k
  rw [(find_mem hf).2] at e1
  rw [hoi] at e2
  rw [e1, e2]
  show (match mget (wrAll x.par x.wr o.wr) k with
    | some v => v
    | none => match cellOf o.rd k with
      | some v => v
      | none => if x.par = 0 then [] else sees (upd R x.par (mix x)) o.par k) = _
  rw [mget_wrAll _ hx (hw' o ho)]
  cases hm : mget x.wr k with
  | some v =>
    show (match (if x.par = 0 ∧ v = [] then none else some v) with
    | some v => v
    | none => _) = v
    by_cases hv : x.par = 0 ∧ v = []
    · rw [if_pos hv]
      dsimp only
      rw [hR.rd0 hoR (hoi.trans hv.1)]
      dsimp only [cellOf]
      rw [if_pos hv.1, hv.2]
    · rw [if_neg hv]
  | none =>
    show (match mget o.wr k with
    | some v => v
    | none => _) = (match mget o.wr k with
    | some v => v
    | none => _)
    cases mget o.wr k with
    | some v => rfl
    | none =>
      dsimp only
      cases cellOf o.rd k with
      | some v => rfl
      | none =>
        dsimp only
        by_cases h0 : x.par = 0
        · rw [if_pos h0, if_pos h0]
        · rw [if_neg h0, if_neg h0, sees_par hR ho h0 (g := mix x) (fun _ => rfl)]
theorem over_over {p : Int} {l m : List (Str × Str)} (hl : AscK l) (hm : AscK m) (q : Str) {b : List Str} (hb : Asc b) (h0 : p = 0 → b = []) : over (wrAll p l m) q b = over l q (over m q b) := by
  refine asc_ext (asc_over _ _ hb) (asc_over _ _ (asc_over _ _ hb)) fun x => ?_
  rw [mem_over (ascK_wrAll p l hm) q hb, mem_over hl q (asc_over _ _ hb)]
  unfold inOver
  by_cases hq : pre q x = true
  · rw [if_pos hq, if_pos hq, mget_wrAll p hl hm]
    cases hm1 : mget l x with
    | some v =>
      show (match (if p = 0 ∧ v = [] then none else some v) with
      | some v => v ≠ []
      | none => x ∈ b) ↔ v ≠ []
      by_cases hv : p = 0 ∧ v = []
      · rw [if_pos hv]
        dsimp only
        rw [h0 hv.1, hv.2]
        simp
      · rw [if_neg hv]
    | none =>
      dsimp only [over1]
      rw [mem_over hm q hb]
      unfold inOver
      rw [if_pos hq]
  · rw [if_neg hq, if_neg hq]
    dsimp only
    rw [mem_over hm q hb]
    unfold inOver
    rw [if_neg hq]
theorem seesKeys_give {P : List Str} {V : St} (h : WF P V) {x : One} (hox : OneOk P x) (hp : has V x.par = true) (q : Str) : seesKeys (give V x) x.par q = over x.wr q (seesKeys V x.par q) := by
  have hRW : WF P (reAsk V x.par x.rd) := h.reAsk x.par x.rd hox.cp hox.pp
  rw [give_eq, ← seesKeys_reAsk x.par x.rd h.tree]
  have hh : has (reAsk V x.par x.rd) x.par = true := by rw [(grow_reAsk _ _ _).1]; exact hp
  generalize reAsk V x.par x.rd = R at hRW hh ⊢
  have hR := hRW.tree
  obtain ⟨o, ho⟩ := has_find hh
  obtain ⟨hoR, hoi⟩ := find_mem ho
  have hoo := hRW.ok o hoR
  have hT : Tree (upd R x.par (mix x)) := hR.updT (fun _ => rfl) (fun _ => rfl) (fun _ _ => rfl)
  have hf : find (upd R x.par (mix x)) x.par = some (mix x o) := by rw [find_mix, if_pos rfl, ho]; rfl
  have e1 := seesKeys_eq hT (find_mem hf).1 q
  have e2 := seesKeys_eq hR hoR q
  rw [(find_mem hf).2] at e1
  rw [hoi] at e2
  rw [e1, e2]
  have e3 : (match keysOf (mix x o).rd q with
    | some l => l
    | none => if x.par = 0 then [] else seesKeys (upd R x.par (mix x)) (mix x o).par q) = (match keysOf o.rd q with
    | some l => l
    | none => if x.par = 0 then [] else seesKeys R o.par q) := by
    show (match keysOf o.rd q with
    | some l => l
    | none => if x.par = 0 then [] else seesKeys (upd R x.par (mix x)) o.par q) = _
    cases keysOf o.rd q with
    | some l => rfl
    | none =>
      dsimp only
      by_cases h0 : x.par = 0
      · rw [if_pos h0, if_pos h0]
      · rw [if_neg h0, if_neg h0, seesKeys_par hR ho h0 (g := mix x) (fun _ => rfl)]
  refine (congrArg (over (mix x o).wr q) e3).trans ?_
  show over (wrAll x.par x.wr o.wr) q _ = _
  refine over_over hox.wr hoo.wr q ?_ (fun h0 => ?_)
  · cases hk : keysOf o.rd q with
    | some l => exact (hoo.sub hk).1
    | none =>
      dsimp only
      split
      · exact asc_nil
      · exact (seesKeys_ok hRW.ok _ _).1
  · rw [hR.rd0 hoR (hoi.trans h0)]
    dsimp only [keysOf]
    rw [if_pos h0]
end Go.Proofs.YtbllmpcpfmlemaaGreat
