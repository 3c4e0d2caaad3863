/- Texts of the elder seat, turned to this one: P4 P5 P6. -/
import Derived.Test.YtbllmpcpfmlemaaGreatMA
namespace Go.Proofs.YtbllmpcpfmlemaaGreat
theorem upd_cons (x : One) (t : St) (i : Int) (g : One → One) : upd (x :: t) i g = (if x.id = i then g x else x) :: upd t i g := rfl
theorem upd_upd {C : St} {i : Int} {f g : One → One} (hid : ∀ x, (f x).id = x.id) : upd (upd C i f) i g = upd C i (g ∘ f) := by
  unfold upd
  rw [List.map_map]
  refine List.map_congr_left fun x _ => ?_
  simp only [Function.comp_apply]
  by_cases h : x.id = i
  · rw [if_pos h, if_pos h, if_pos ((hid x).trans h)]
  · rw [if_neg h, if_neg h, if_neg h]
theorem upd_id {C : St} {i : Int} {g : One → One} (h : ∀ x, find C i = some x → g x = x) (ht : Tree C) : upd C i g = C := by
  unfold upd
  refine (List.map_congr_left fun x hx => ?_).trans (List.map_id C)
  by_cases hi : x.id = i
  · rw [if_pos hi, h x (by rw [← hi]; exact ht.find hx)]; rfl
  · rw [if_neg hi]; rfl
theorem upd_congr {C : St} {i : Int} {f g : One → One} (h : ∀ x, find C i = some x → f x = g x) (ht : Tree C) : upd C i f = upd C i g := by
  unfold upd
  refine List.map_congr_left fun x hx => ?_
  by_cases hi : x.id = i
  · rw [if_pos hi, if_pos hi, h x (by rw [← hi]; exact ht.find hx)]
  · rw [if_neg hi, if_neg hi]
theorem find_wr (C : St) (i : Int) (f : List (Str × Str) → List (Str × Str)) (j : Int) : find (upd C i (setWr f)) j = if j = i then (find C i).map (setWr f) else find C j := find_upd (fun _ => rfl)
theorem find_lg (C : St) (i : Int) (f : List (Str × Str) → List (Str × Str)) (j : Int) : find (upd C i (setLg f)) j = if j = i then (find C i).map (setLg f) else find C j := find_upd (fun _ => rfl)
/-- A record of what the parent sees turns nothing that anyone sees. -/
theorem sees_addRd {C : St} (h : Tree C) {i : Int} {x : One} (hx : find C i = some x) (h0 : i ≠ 0) (r : Rd) (hr : ∀ k v, r = .cell k v → v = sees C x.par k) (j : Int) (k : Str) :
    sees (upd C i (addRd r)) j k = sees C j k := by
  induction C generalizing j with
  | nil => cases h
  | cons z t ih =>
    rcases h with ⟨h1, _, rfl⟩ | ⟨h1, h2, h3, h4⟩
    · rw [find_cons] at hx
      split at hx
      · rename_i e; exact absurd (e.symm.trans h1) h0
      · cases hx
    · rw [upd_cons]
      by_cases hz : z.id = i
      · rw [if_pos hz]
        have hn : upd t i (addRd r) = t := upd_none _ (by rw [← hz]; exact h3)
        rw [find_cons, if_pos hz] at hx
        injection hx with hx
        subst hx
        rw [hn, sees, sees]
        by_cases hj : z.id = j
        · rw [if_pos hj, if_pos (show (addRd r z).id = j from hj)]
          show (match mget z.wr k with | some v => v | none => match cellOf (z.rd ++ [r]) k with | some v => v | none => sees t z.par k) = _
          cases mget z.wr k with
          | some v => rfl
          | none =>
            dsimp only
            rw [cellOf_append]
            cases hc : cellOf z.rd k with
            | some v => rfl
            | none =>
              rw [Option.none_or]
              cases r with
              | keys a b => rfl
              | cell a b =>
                have := hr a b rfl
                rw [sees, if_neg (fun e => by rw [← e] at h2; rw [h2] at h3; cases h3)] at this
                rw [cellOf]
                by_cases ha : a = k
                · rw [if_pos ha]
                  dsimp only
                  rw [this, ha]
                · rw [if_neg ha]; rfl
        · rw [if_neg hj, if_neg (show ¬ (addRd r z).id = j from hj)]
      · rw [if_neg hz]
        rw [find_cons, if_neg hz] at hx
        have hxt := (find_mem hx).1
        have e := ih h4 hx (fun a b hab => by
          have := hr a b hab
          have h0' : x.id ≠ 0 := fun e => h0 ((find_mem hx).2.symm.trans e)
          have hp := h4.par hxt h0'
          rw [sees, if_neg (fun e => by rw [e, hp] at h3; cases h3)] at this
          exact this)
        rw [sees, sees]
        by_cases hj : z.id = j
        · rw [if_pos hj, if_pos hj, e]
        · rw [if_neg hj, if_neg hj, e]
section
variable {C : St} (h : Tree C)
include h
theorem tree_ask (i : Int) (k : Str) : Tree (askP C i k) := by
  unfold askP
  cases hf : find C i with
  | none => exact h
  | some x =>
    dsimp only
    split
    · rename_i ho
      exact h.updT (fun _ => rfl) (fun _ => rfl) (fun hi => absurd ((find_mem hf).2.trans hi) (opn_iff.1 ho).1)
    · exact h
theorem tree_askK (i : Int) (k : Str) : Tree (askKP C i k) := by
  unfold askKP
  cases hf : find C i with
  | none => exact h
  | some x =>
    dsimp only
    split
    · rename_i ho
      exact h.updT (fun _ => rfl) (fun _ => rfl) (fun hi => absurd ((find_mem hf).2.trans hi) ho.1)
    · exact h
end
end Go.Proofs.YtbllmpcpfmlemaaGreat
namespace Go.Proofs.YtbllmpcpfmlemaaGreat
def okRd (C : St) (p : Int) (r : Rd) : Bool := match r with
  | .cell k v => decide (sees C p k = v)
  | .keys q l => decide (seesKeys C p q = l)
def validP (C : St) (i : Int) : Bool := match find C i with
  | none => false
  | some x => x.rd.all (okRd C x.par)
section
variable {B : Int} {C D : St} (hC : ∀ x ∈ C, x.id < B)
include hC
end
end Go.Proofs.YtbllmpcpfmlemaaGreat
namespace Go.Proofs.YtbllmpcpfmlemaaGreat
theorem upd_refl {C : St} {i : Int} {g : One → One} (h : ∀ x, g x = x) : upd C i g = C := by
  unfold upd
  refine (List.map_congr_left fun x _ => ?_).trans (List.map_id C)
  split
  · rw [h]; rfl
  · rfl
def wrAll (p : Int) (l m : List (Str × Str)) : List (Str × Str) := l.foldl (fun m e => wrPut p e.1 e.2 m) m
def lgAll (l m : List (Str × Str)) : List (Str × Str) := l.foldl (fun m e => lgAdd e.1 e.2 m) m
theorem putAll_eq (p : Int) (l : List (Str × Str)) : ∀ C : St, putAll C p l = upd C p (setWr (wrAll p l)) := by
  induction l with
  | nil => intro C; exact (upd_refl (fun _ => rfl)).symm
  | cons e l ih =>
    intro C
    show putAll (putP C p e.1 e.2) p l = _
    rw [ih, putP, upd_upd (f := setWr _) (fun _ => rfl)]
    rfl
theorem logAll_eq (p : Int) (l : List (Str × Str)) : ∀ C : St, logAll C p l = upd C p (setLg (lgAll l)) := by
  induction l with
  | nil => intro C; exact (upd_refl (fun _ => rfl)).symm
  | cons e l ih =>
    intro C
    show logAll (logP C p e.1 e.2) p l = _
    rw [ih, logP, upd_upd (f := setLg _) (fun _ => rfl)]
    rfl
/-- What one's writes and logs do to its parent. -/
def mix (x : One) (o : One) : One := { o with wr := wrAll x.par x.wr o.wr, lg := lgAll x.lg o.lg }
theorem give_eq (C : St) (x : One) : give C x = upd (reAsk C x.par x.rd) x.par (mix x) := by
  unfold give
  rw [logAll_eq, putAll_eq, upd_upd (f := setWr _) (fun _ => rfl)]
  rfl
theorem ascK_wrPut {m : List (Str × Str)} (h : AscK m) (p : Int) (k v : Str) : AscK (wrPut p k v m) := by
  unfold wrPut
  split
  · exact ascK_mdel h _
  · exact ascK_mput h _ _
theorem mget_wrPut {m : List (Str × Str)} (h : AscK m) (p : Int) (k v j : Str) : mget (wrPut p k v m) j = if j = k then (if p = 0 ∧ v = [] then none else some v) else mget m j := by
  unfold wrPut
  split
  · rw [mget_mdel]
  · rw [mget_mput h]
def over1 (p : Int) (o : Option Str) (d : Option Str) : Option Str := match o with
  | some v => if p = 0 ∧ v = [] then none else some v
  | none => d
theorem ascK_wrAll (p : Int) (l : List (Str × Str)) : ∀ {m : List (Str × Str)}, AscK m → AscK (wrAll p l m) := by
  induction l with
  | nil => intro m h; exact h
  | cons e l ih => intro m h; exact ih (ascK_wrPut h _ _ _)
theorem mget_wrAll (p : Int) {l : List (Str × Str)} (hl : AscK l) : ∀ {m : List (Str × Str)}, AscK m → ∀ j, mget (wrAll p l m) j = over1 p (mget l j) (mget m j) := by
  induction l with
  | nil => intro m _ j; rfl
  | cons e l ih =>
    obtain ⟨a, u⟩ := e
    obtain ⟨h1, h2⟩ := ascK_cons.1 hl
    have hn : mget l a = none := mget_none.2 fun hm => by
      obtain ⟨e, he, hx⟩ := List.mem_map.1 hm
      exact str_ne (h1 e he) hx.symm
    intro m hm j
    show mget (wrAll p l (wrPut p a u m)) j = _
    rw [ih h2 (ascK_wrPut hm _ _ _), mget_wrPut hm, mget]
    by_cases hj : a = j
    · subst hj
      rw [hn, if_pos rfl, if_pos rfl]
      rfl
    · rw [if_neg hj, if_neg (Ne.symm hj)]
theorem ascK_lgAdd {m : List (Str × Str)} (h : AscK m) (k s : Str) : AscK (lgAdd k s m) := ascK_mput h _ _
theorem mget_lgAdd {m : List (Str × Str)} (h : AscK m) (k s j : Str) : mget (lgAdd k s m) j = if j = k then some ((mget m k).getD [] ++ s) else mget m j := mget_mput h _ _ _
theorem ascK_lgAll (l : List (Str × Str)) : ∀ {m : List (Str × Str)}, AscK m → AscK (lgAll l m) := by
  induction l with
  | nil => intro m h; exact h
  | cons e l ih => intro m h; exact ih (ascK_mput h _ _)
def add1 (o : Option Str) (d : Option Str) : Option Str := match o with
  | some s => some (d.getD [] ++ s)
  | none => d
theorem mget_lgAll {l : List (Str × Str)} (hl : AscK l) : ∀ {m : List (Str × Str)}, AscK m → ∀ j, mget (lgAll l m) j = add1 (mget l j) (mget m j) := by
  induction l with
  | nil => intro m _ j; rfl
  | cons e l ih =>
    obtain ⟨a, u⟩ := e
    obtain ⟨h1, h2⟩ := ascK_cons.1 hl
    have hn : mget l a = none := mget_none.2 fun hm => by
      obtain ⟨e, he, hx⟩ := List.mem_map.1 hm
      exact str_ne (h1 e he) hx.symm
    intro m hm j
    show mget (lgAll l (lgAdd a u m)) j = _
    rw [ih h2 (ascK_lgAdd hm _ _), mget_lgAdd hm, mget]
    by_cases hj : a = j
    · subst hj
      rw [hn, if_pos rfl, if_pos rfl]
      rfl
    · rw [if_neg hj, if_neg (Ne.symm hj)]
/-! Asking on behalf of a trial. -/
theorem tree_reAsk (p : Int) (l : List Rd) : ∀ {C : St}, Tree C → Tree (reAsk C p l) := by
  induction l with
  | nil => intro C h; exact h
  | cons r l ih =>
    intro C h
    refine ih ?_
    cases r with
    | cell k v => exact tree_ask h p k
    | keys k v => exact tree_askK h p k
theorem reAsk_append (C : St) (p : Int) (l m : List Rd) : reAsk C p (l ++ m) = reAsk (reAsk C p l) p m := List.foldl_append
section
variable {C : St} (h : Tree C) {i : Int} {x : One} (hx : find C i = some x) (h0 : i ≠ 0) {g : One → One} (hid : ∀ x, (g x).id = x.id)
include h hx h0 hid
end
theorem tree_give {V : St} (h : Tree V) (x : One) : Tree (give V x) := by
  rw [give_eq]
  exact (tree_reAsk _ _ h).updT (fun _ => rfl) (fun _ => rfl) (fun _ _ => rfl)
end Go.Proofs.YtbllmpcpfmlemaaGreat
