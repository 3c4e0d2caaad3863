/- Texts of the elder seat, turned to this one: P9 P10. -/
import Derived.Test.YtbllmpcpfmlemaaGreatMD
namespace Go.Proofs.YtbllmpcpfmlemaaGreat
def lgLen (m : List (Str × Str)) : Nat := (m.map (·.2.length)).sum
def lgOne (x : One) : Nat := lgLen x.lg
def lgSize (C : St) : Nat := (C.map lgOne).sum
theorem lgLen_cons (e : Str × Str) (m : List (Str × Str)) : lgLen (e :: m) = e.2.length + lgLen m := by simp [lgLen]
theorem lgSize_cons (x : One) (C : St) : lgSize (x :: C) = lgOne x + lgSize C := by simp [lgSize]
theorem lgLen_get {m : List (Str × Str)} {k v : Str} (h : mget m k = some v) : v.length ≤ lgLen m := by
  induction m with
  | nil => cases h
  | cons e m ih =>
    obtain ⟨a, u⟩ := e
    rw [lgLen_cons]
    rw [mget] at h
    split at h
    · injection h with h
      subst h
      exact Nat.le_add_right _ _
    · exact Nat.le_trans (ih h) (Nat.le_add_left _ _)
theorem lgLen_put {m : List (Str × Str)} (hm : AscK m) (k v : Str) : lgLen (mput m k v) + ((mget m k).getD []).length ≤ lgLen m + v.length := by
  induction m with
  | nil => simp [mput, mget, lgLen]
  | cons e m ih =>
    obtain ⟨a, u⟩ := e
    obtain ⟨h3, h4⟩ := ascK_cons.1 hm
    rw [mput, mget]
    by_cases h1 : a < k
    · have := ih h4
      rw [if_pos h1, if_neg (str_ne h1), lgLen_cons, lgLen_cons]
      omega
    · rw [if_neg h1]
      by_cases h2 : a = k
      · rw [if_pos h2, if_pos h2, lgLen_cons, lgLen_cons]
        simp only [Option.getD_some]
        omega
      · have hka : k < a := by
          rcases str_tri k a with h | h | h
          · exact h
          · exact absurd h.symm h2
          · exact absurd h h1
        have h5 : mget m k = none := mget_none.2 fun hm' => by
          obtain ⟨e, he, hx⟩ := List.mem_map.1 hm'
          exact str_ne (str_lt_trans hka (h3 e he)) hx.symm
        rw [if_neg h2, if_neg h2, lgLen_cons, h5]
        simp only [Option.getD_none, List.length_nil]
        omega
theorem lgLen_add {m : List (Str × Str)} (hm : AscK m) (k s : Str) : lgLen (lgAdd k s m) ≤ lgLen m + s.length := by
  have := lgLen_put hm k ((mget m k).getD [] ++ s)
  rw [List.length_append] at this
  unfold lgAdd
  omega
theorem lgLen_all (l : List (Str × Str)) : ∀ {m : List (Str × Str)}, AscK m → lgLen (lgAll l m) ≤ lgLen m + lgLen l := by
  induction l with
  | nil => intro m _; exact Nat.le_refl _
  | cons e l ih =>
    intro m hm
    have h1 := ih (ascK_lgAdd hm e.1 e.2)
    have h2 := lgLen_add hm e.1 e.2
    rw [lgLen_cons]
    show lgLen (lgAll l (lgAdd e.1 e.2 m)) ≤ _
    omega
theorem lgSize_mem {C : St} {x : One} (h : x ∈ C) : lgOne x ≤ lgSize C := by
  induction C with
  | nil => cases h
  | cons y t ih =>
    rw [lgSize_cons]
    rcases List.mem_cons.1 h with rfl | h
    · exact Nat.le_add_right _ _
    · exact Nat.le_trans (ih h) (Nat.le_add_left _ _)
theorem lgSize_upd {C : St} (h : Tree C) {i : Int} {g : One → One} {d : Nat} (hg : ∀ x ∈ C, lgOne (g x) ≤ lgOne x + d) : lgSize (upd C i g) ≤ lgSize C + d := by
  induction C with
  | nil => cases h
  | cons z t ih =>
    rw [upd_cons, lgSize_cons, lgSize_cons]
    by_cases hz : z.id = i
    · rw [if_pos hz]
      have hn : upd t i g = t := by
        rcases h with ⟨_, _, rfl⟩ | ⟨_, _, h3, _⟩
        · rfl
        · exact upd_none _ (by rw [← hz]; exact h3)
      rw [hn]
      have := hg z (by simp)
      omega
    · rw [if_neg hz]
      rcases h with ⟨_, _, rfl⟩ | ⟨_, _, _, h4⟩
      · exact Nat.le_add_right _ _
      · have := ih h4 (fun x hx => hg x (by simp [hx]))
        omega
theorem lgSize_same {C : St} {i : Int} {g : One → One} (hg : ∀ x, lgOne (g x) = lgOne x) : lgSize (upd C i g) = lgSize C := by
  induction C with
  | nil => rfl
  | cons z t ih =>
    rw [upd_cons, lgSize_cons, lgSize_cons, ih]
    split
    · rw [hg]
    · rfl
theorem lgSize_filter (C : St) (p : One → Bool) : lgSize (C.filter p) ≤ lgSize C := by
  induction C with
  | nil => exact Nat.le_refl _
  | cons z t ih =>
    rw [List.filter_cons]
    split
    · rw [lgSize_cons, lgSize_cons]; omega
    · rw [lgSize_cons]; omega
theorem lgSize_drop {C : St} {i : Int} {x : One} (hx : find C i = some x) : lgSize (dropP C i) + lgOne x ≤ lgSize C := by
  induction C with
  | nil => cases hx
  | cons z t ih =>
    rw [find_cons] at hx
    rw [drop_cons, lgSize_cons]
    by_cases hz : z.id = i
    · rw [if_pos hz] at hx ⊢
      injection hx with hx
      subst hx
      have := lgSize_filter t (fun y => decide (y.id ≠ i))
      show lgSize (t.filter _) + _ ≤ _
      omega
    · rw [if_neg hz] at hx ⊢
      rw [lgSize_cons]
      have := ih hx
      omega
theorem lgSize_ask (C : St) (i : Int) (k : Str) : lgSize (askP C i k) = lgSize C := by
  unfold askP
  split
  · rfl
  · split
    · exact lgSize_same (fun _ => rfl)
    · rfl
theorem lgSize_askK (C : St) (i : Int) (k : Str) : lgSize (askKP C i k) = lgSize C := by
  unfold askKP
  split
  · rfl
  · split
    · exact lgSize_same (fun _ => rfl)
    · rfl
theorem lgSize_note (C : St) (i : Int) (r : RdA) : lgSize (noteP C i r) = lgSize C := by
  unfold noteP
  split
  · rfl
  split
  · rfl
  split
  · split
    · exact lgSize_same (fun _ => rfl)
    · rfl
  split
  · split
    · exact lgSize_same (fun _ => rfl)
    · rfl
  · rfl
theorem lgSize_reAsk (p : Int) (l : List Rd) : ∀ C : St, lgSize (reAsk C p l) = lgSize C := by
  induction l with
  | nil => intro C; rfl
  | cons r l ih =>
    intro C
    refine (ih _).trans ?_
    cases r with
    | cell k v => exact lgSize_ask C p k
    | keys k v => exact lgSize_askK C p k
theorem lgSize_put (C : St) (i : Int) (k v : Str) : lgSize (putP C i k v) = lgSize C := lgSize_same (fun _ => rfl)
theorem lgSize_log {P : List Str} {C : St} (h : WF P C) (i : Int) (k s : Str) : lgSize (logP C i k s) ≤ lgSize C + s.length := lgSize_upd h.tree (fun x hx => lgLen_add (h.ok x hx).lg k s)
theorem lgSize_give {P : List Str} {C : St} (h : WF P C) {x : One} (hx : OneOk P x) : lgSize (give C x) ≤ lgSize C + lgOne x := by
  have hR := h.reAsk x.par x.rd hx.cp hx.pp
  rw [give_eq, ← lgSize_reAsk x.par x.rd C]
  exact lgSize_upd hR.tree (fun o ho => lgLen_all x.lg (hR.ok o ho).lg)
theorem find_give {C : St} {i : Int} {x : One} (hx : find C i = some x) : find (give C x) i = some x ∨ x.par = i := by
  by_cases hp : x.par = i
  · exact .inr hp
  · refine .inl ?_
    rcases (Off.give (i := i) (C := C) hp).f with h1 | h1
    · exact h1.trans hx
    · rw [(grow_give C x).1, ← find_has, hx] at h1
      cases h1
theorem lgSize_commit {P : List Str} {C : St} (h : WF P C) (i : Int) : lgSize (commitP C i).2 ≤ lgSize C := by
  unfold commitP
  cases hf : find C i with
  | none => exact Nat.le_refl _
  | some x =>
    dsimp only
    split
    · exact Nat.le_refl _
    split
    · exact Nat.le_refl _
    · rename_i h0 hk
      have hp : x.par ≠ i := by
        have h1 := noKids_iff.1 (show kids C i = 0 by omega)
        obtain ⟨h2, h3⟩ := find_mem hf
        exact h1 x h2 (by rw [h3]; exact h0)
      have h1 := lgSize_give h (h.ok x (find_mem hf).1)
      rcases find_give hf with h2 | h2
      · have := lgSize_drop h2
        show lgSize (dropP (give C x) i) ≤ _
        omega
      · exact absurd h2 hp
theorem lgSize_do {P : List Str} {C : St} (h : WF P C) (x : Opn) : lgSize (doP C x).2 ≤ lgSize C + x.val.length := by
  unfold doP
  split
  · show lgSize (putP C _ _ _) ≤ _
    rw [lgSize_put]; omega
  split
  · show lgSize (askKP C _ _) ≤ _
    rw [lgSize_askK]; omega
  split
  · dsimp only
    split
    · omega
    · exact lgSize_log h _ _ _
  split
  · unfold beginP
    split
    · exact Nat.le_add_right _ _
    split
    · exact Nat.le_add_right _ _
    split
    · show lgSize (_ :: C) ≤ _
      rw [lgSize_cons]
      have : lgOne ⟨x.n, x.who, [], [], []⟩ = 0 := rfl
      omega
    · exact Nat.le_add_right _ _
  split
  · exact Nat.le_trans (lgSize_commit h _) (Nat.le_add_right _ _)
  split
  · show lgSize (abortP C _) ≤ _
    unfold abortP
    split
    · omega
    · exact Nat.le_trans (lgSize_filter _ _) (Nat.le_add_right _ _)
  split
  · show lgSize (noteP C _ _) ≤ _
    rw [lgSize_note]; omega
  split
  · show lgSize (noteP C _ _) ≤ _
    rw [lgSize_note]; omega
  · show lgSize (askP C _ _) ≤ _
    rw [lgSize_ask]; omega
theorem len_ask (C : St) (i : Int) (k : Str) : (askP C i k).length = C.length := by
  unfold askP
  split
  · rfl
  · split
    · exact upd_len _ _ _
    · rfl
theorem len_askK (C : St) (i : Int) (k : Str) : (askKP C i k).length = C.length := by
  unfold askKP
  split
  · rfl
  · split
    · exact upd_len _ _ _
    · rfl
theorem len_note (C : St) (i : Int) (r : RdA) : (noteP C i r).length = C.length := by
  unfold noteP
  split
  · rfl
  split
  · rfl
  split
  · split
    · exact upd_len _ _ _
    · rfl
  split
  · split
    · exact upd_len _ _ _
    · rfl
  · rfl
theorem len_reAsk (p : Int) (l : List Rd) : ∀ C : St, (reAsk C p l).length = C.length := by
  induction l with
  | nil => intro C; rfl
  | cons r l ih =>
    intro C
    refine (ih _).trans ?_
    cases r with
    | cell k v => exact len_ask C p k
    | keys k v => exact len_askK C p k
theorem len_give (C : St) (x : One) : (give C x).length = C.length := by rw [give_eq, upd_len, len_reAsk]
theorem len_do (C : St) (x : Opn) : (doP C x).2.length ≤ C.length + 1 := by
  unfold doP
  split
  · exact Nat.le_trans (Nat.le_of_eq (upd_len _ _ _)) (Nat.le_succ _)
  split
  · show (askKP C _ _).length ≤ _
    rw [len_askK]; omega
  split
  · dsimp only
    split
    · omega
    · exact Nat.le_trans (Nat.le_of_eq (upd_len _ _ _)) (Nat.le_succ _)
  split
  · unfold beginP
    split
    · exact Nat.le_succ _
    split
    · exact Nat.le_succ _
    split
    · exact Nat.le_refl _
    · exact Nat.le_succ _
  split
  · unfold commitP
    split
    · exact Nat.le_succ _
    split
    · exact Nat.le_succ _
    split
    · exact Nat.le_succ _
    · refine Nat.le_trans (List.length_filter_le _ _) ?_
      rw [len_give]; omega
  split
  · show (abortP C _).length ≤ _
    unfold abortP
    split
    · omega
    · exact Nat.le_trans (List.length_filter_le _ _) (Nat.le_succ _)
  split
  · show (noteP C _ _).length ≤ _
    rw [len_note]; omega
  split
  · show (noteP C _ _).length ≤ _
    rw [len_note]; omega
  · show (askP C _ _).length ≤ _
    rw [len_ask]; omega
/-- A state after n operations. -/
structure Fit (P : List Str) (n : Nat) (C : St) : Prop where
  wf : WF P C
  len : C.length ≤ n + 1
  lg : lgSize C ≤ 100 * n
theorem Fit.do_ {P : List Str} {n : Nat} {C : St} (h : Fit P n C) {x : Opn} (hx : ∀ k ∈ pool x, k ∈ P) (hn : x.n ≤ 9223372036854775807) (hv : x.val.length ≤ 100) : Fit P (n + 1) (doP C x).2 := by
  have h1 := lgSize_do h.wf x
  have h2 := len_do C x
  have := h.len
  have := h.lg
  exact ⟨h.wf.do_ x hx hn, by omega, by omega⟩
/-- Nobody but the present. -/
def new0 : St := [⟨0, 0, [], [], []⟩]
theorem Fit.new0 (P : List Str) : Fit P 0 new0 := by
  refine ⟨⟨.inl ⟨rfl, rfl, rfl⟩, fun x hx => ?_⟩, by simp [Proofs.YtbllmpcpfmlemaaGreat.new0], by simp [Proofs.YtbllmpcpfmlemaaGreat.new0, lgSize, lgOne, lgLen]⟩
  rw [List.mem_singleton.1 hx]
  exact OneOk.new (by omega) (by omega)
end Go.Proofs.YtbllmpcpfmlemaaGreat
namespace Go.Proofs.YtbllmpcpfmlemaaGreat
/-- How many are newer. -/
def pos : St → Int → Nat
  | [], _ => 0
  | x :: t, j => if x.id = j then 0 else pos t j + 1
theorem pos_par {C : St} (h : Tree C) {x : One} (hx : x ∈ C) (h0 : x.id ≠ 0) : pos C x.id < pos C x.par := by
  induction C with
  | nil => cases h
  | cons z t ih =>
    rcases h with ⟨h1, _, rfl⟩ | ⟨h1, h2, h3, h4⟩
    · obtain rfl : x = z := by simpa using hx
      exact absurd h1 h0
    · rcases List.mem_cons.1 hx with e | hx2
      · have hne : ¬ x.id = x.par := fun e2 => by
          rw [← e] at h2 h3
          rw [← e2, h3] at h2
          cases h2
        rw [← e, pos, if_pos rfl, pos, if_neg hne]
        omega
      · have hxt := has_iff.2 ⟨x, hx2, rfl⟩
        have hne : ¬ z.id = x.id := fun e => by rw [e, hxt] at h3; cases h3
        have hp := h4.par hx2 h0
        have hnp : ¬ z.id = x.par := fun e => by rw [e, hp] at h3; cases h3
        have := ih h4 hx2
        rw [pos, if_neg hne, pos, if_neg hnp]
        omega
theorem pos_filter (C : St) (p : One → Bool) (hT : Tree C) {x : One} (hx : x ∈ C) (hp : p x = true) : pos (C.filter p) x.id ≤ pos C x.id := by
  induction C with
  | nil => cases hx
  | cons z t ih =>
    by_cases hz : z.id = x.id
    · have : z = x := hT.inj (by simp) hx hz
      subst this
      rw [List.filter_cons_of_pos hp, pos, if_pos rfl]
      exact Nat.zero_le _
    · have hxt : x ∈ t := by
        rcases List.mem_cons.1 hx with rfl | h
        · exact absurd rfl hz
        · exact h
      have ht : Tree t := by
        rcases hT with ⟨_, _, rfl⟩ | ⟨_, _, _, h4⟩
        · cases hxt
        · exact h4
      have h := ih ht hxt
      rw [List.filter_cons, pos, if_neg hz]
      split
      · rw [pos, if_neg hz]; omega
      · omega
theorem below_has {C : St} {k : Int} : ∀ {j : Int}, below C k j = true → has C k = true := by
  induction C with
  | nil => intro j h; cases h
  | cons z t ih =>
    intro j h
    rw [below] at h
    rw [has_cons]
    split at h
    · rename_i e
      rw [Bool.or_eq_true, decide_eq_true_eq] at h
      rcases h with h | h
      · simp [e, h]
      · simp [ih h]
    · simp [ih h]
theorem below_self {C : St} {i : Int} (h : has C i = true) : below C i i = true := by
  induction C with
  | nil => cases h
  | cons z t ih =>
    rw [below]
    by_cases hz : z.id = i
    · rw [if_pos hz]; simp
    · rw [if_neg hz]
      rw [has_cons] at h
      simp [hz] at h
      exact ih h
theorem pos_below {C : St} (hT : Tree C) {k : Int} : ∀ {j : Int}, below C k j = true → pos C j ≤ pos C k := by
  induction C with
  | nil => intro j h; cases h
  | cons z t ih =>
    intro j h
    rw [below] at h
    rw [pos, pos]
    split at h
    · rename_i e
      rw [if_pos e]
      exact Nat.zero_le _
    · rename_i e
      rw [if_neg e]
      have hk := below_has h
      rcases hT with ⟨_, _, rfl⟩ | ⟨_, _, h3, h4⟩
      · cases h
      · rw [if_neg (fun e => by rw [e, hk] at h3; cases h3)]
        have := ih h4 h
        omega
theorem below_filter {C : St} (hT : Tree C) {p : One → Bool} (hup : ∀ x ∈ C, p x = true → x.id ≠ 0 → ∀ y ∈ C, y.id = x.par → p y = true) (k : Int) {x : One} (hx : x ∈ C) (hp : p x = true) : below (C.filter p) k x.id = below C k x.id := by
  induction C generalizing x with
  | nil => cases hx
  | cons z t ih =>
    rcases hT with ⟨h1, _, rfl⟩ | ⟨h1, h2, h3, h4⟩
    · obtain rfl : x = z := by simpa using hx
      rw [List.filter_cons_of_pos hp]
      rfl
    · have iht : ∀ {y : One}, y ∈ t → p y = true → below (t.filter p) k y.id = below t k y.id := fun hy hpy => ih h4 (fun x hx hpx h0 y hy e => hup x (by simp [hx]) hpx h0 y (by simp [hy]) e) hy hpy
      rcases List.mem_cons.1 hx with e | hx2
      · subst e
        obtain ⟨y, hy, hyp⟩ := has_iff.1 h2
        have hpy := hup x (by simp) hp (by omega) y (by simp [hy]) hyp
        have := iht hy hpy
        rw [hyp] at this
        rw [List.filter_cons_of_pos hp, below, below, if_pos rfl, if_pos rfl, this]
      · have hne : ¬ z.id = x.id := fun e => by rw [e, has_iff.2 ⟨x, hx2, rfl⟩] at h3; cases h3
        have := iht hx2 hp
        rw [List.filter_cons]
        split
        · rw [below, below, if_neg hne, if_neg hne, this]
        · rw [below, if_neg hne, this]
/-- Is k a child of i? -/
def isKid (C : St) (i k : Int) : Bool := match find C k with
  | some z => decide (k ≠ 0) && decide (z.par = i)
  | none => false
/-- Without those below the children of i that are in ks. -/
def cutK (C : St) (i : Int) (ks : List Int) : St := C.filter fun z => !(ks.any fun k => isKid C i k && below C k z.id)
theorem isKid_iff {C : St} {i k : Int} : isKid C i k = true ↔ ∃ z, find C k = some z ∧ k ≠ 0 ∧ z.par = i := by
  unfold isKid
  cases find C k <;> simp
theorem cutK_nil (C : St) (i : Int) : cutK C i [] = C := by
  unfold cutK
  rw [List.filter_eq_self]
  intro x _
  rfl
section
variable {C : St} (hT : Tree C) {i : Int}
include hT
theorem kid_pos {k : Int} (h : isKid C i k = true) : pos C k < pos C i := by
  obtain ⟨z, h1, h2, h3⟩ := isKid_iff.1 h
  obtain ⟨h4, h5⟩ := find_mem h1
  have := pos_par hT h4 (by rw [h5]; exact h2)
  rw [h5, h3] at this
  exact this
theorem kid_not_above {k : Int} (h : isKid C i k = true) : below C k i = false := by
  rw [Bool.eq_false_iff]
  intro hb
  have h1 := pos_below hT hb
  have h2 := kid_pos hT h
  omega
theorem kid_kid {k k' : Int} (h : isKid C i k = true) (h' : isKid C i k' = true) (hne : k ≠ k') : below C k' k = false := by
  obtain ⟨z, h1, h2, h3⟩ := isKid_iff.1 h
  obtain ⟨h4, h5⟩ := find_mem h1
  have := below_par hT k' h4 (by rw [h5]; exact h2)
  rw [h5, h3, kid_not_above hT h'] at this
  rw [this]
  simp [hne]
theorem cutK_up (ks : List Int) : ∀ x ∈ C, (!(ks.any fun k => isKid C i k && below C k x.id)) = true → x.id ≠ 0 → ∀ y ∈ C, y.id = x.par → (!(ks.any fun k => isKid C i k && below C k y.id)) = true := by
  intro x hx hp h0 y _ e
  rw [Bool.not_eq_true', Bool.eq_false_iff] at hp ⊢
  intro hh
  refine hp ?_
  obtain ⟨k, hk, hb⟩ := List.any_eq_true.1 hh
  rw [Bool.and_eq_true] at hb
  refine List.any_eq_true.2 ⟨k, hk, ?_⟩
  rw [hb.1, below_par hT k hx h0, ← e, hb.2]
  simp
theorem cutK_zero (ks : List Int) : ∀ x ∈ C, x.id = 0 → (!(ks.any fun k => isKid C i k && below C k x.id)) = true := by
  intro x _ e
  rw [Bool.not_eq_true', Bool.eq_false_iff]
  intro hh
  obtain ⟨k, _, hb⟩ := List.any_eq_true.1 hh
  rw [Bool.and_eq_true] at hb
  obtain ⟨z, _, h2, _⟩ := isKid_iff.1 hb.1
  rw [e, below_zero hT h2] at hb
  cases hb.2
theorem cutK_self (ks : List Int) {x : One} (hx : find C i = some x) : find (cutK C i ks) i = some x := by
  obtain ⟨h1, h2⟩ := find_mem hx
  have hm : x ∈ cutK C i ks := List.mem_filter.2 ⟨h1, by
    rw [Bool.not_eq_true', Bool.eq_false_iff]
    intro hh
    obtain ⟨k, _, hb⟩ := List.any_eq_true.1 hh
    rw [Bool.and_eq_true, h2, kid_not_above hT hb.1] at hb
    cases hb.2⟩
  have hT2 : Tree (cutK C i ks) := hT.filter (cutK_zero hT ks) (cutK_up hT ks)
  have := hT2.find hm
  rw [h2] at this
  exact this
omit hT in
theorem cutK_skip (ks : List Int) {k : Int} (h : isKid C i k = false) : cutK C i (ks ++ [k]) = cutK C i ks := by
  unfold cutK
  refine List.filter_congr fun z _ => ?_
  rw [List.any_append]
  simp [h]
/-- The next child is still there. -/
theorem cutK_there (ks : List Int) {k : Int} (h : isKid C i k = true) (hn : k ∉ ks) : ∃ z, find (cutK C i ks) k = some z ∧ z.par = i := by
  obtain ⟨z, h1, h2, h3⟩ := isKid_iff.1 h
  obtain ⟨h4, h5⟩ := find_mem h1
  have hm : z ∈ cutK C i ks := List.mem_filter.2 ⟨h4, by
    rw [Bool.not_eq_true', Bool.eq_false_iff]
    intro hh
    obtain ⟨k', hk', hb⟩ := List.any_eq_true.1 hh
    rw [Bool.and_eq_true, h5, kid_kid hT h hb.1 (fun e => hn (by rw [e]; exact hk'))] at hb
    cases hb.2⟩
  have hT2 : Tree (cutK C i ks) := hT.filter (cutK_zero hT ks) (cutK_up hT ks)
  refine ⟨z, ?_, h3⟩
  rw [← h5]
  exact hT2.find hm
theorem cutK_kid (ks : List Int) {k : Int} {z : One} (h : find (cutK C i ks) k = some z) (h0 : k ≠ 0) (hp : z.par = i) : isKid C i k = true :=
  isKid_iff.2 ⟨z, find_filter hT h, h0, hp⟩
theorem cutK_step (ks : List Int) {k : Int} (h : isKid C i k = true) (hn : k ∉ ks) : abortP (cutK C i ks) k = cutK C i (ks ++ [k]) := by
  obtain ⟨z, hz, _⟩ := cutK_there hT ks h hn
  obtain ⟨_, _, h0, _⟩ := isKid_iff.1 h
  unfold abortP
  rw [if_neg (by
    rintro (e | e)
    · exact h0 e
    · rw [← find_has, hz] at e; cases e)]
  unfold cutK
  rw [List.filter_filter]
  refine List.filter_congr fun y hy => ?_
  rw [List.any_append]
  simp only [List.any_cons, List.any_nil, Bool.or_false, h, Bool.true_and, Bool.not_or]
  cases hq : (ks.any fun k => isKid C i k && below C k y.id) with
  | true => simp
  | false =>
    have := below_filter hT (cutK_up (i := i) hT ks) k hy (by rw [hq]; rfl)
    rw [this]
    simp
theorem pos_cutK (ks : List Int) {k : Int} (h : isKid C i k = true) (hn : k ∉ ks) : pos (cutK C i ks) k < pos C i := by
  obtain ⟨z, hz, _⟩ := cutK_there hT ks h hn
  obtain ⟨h1, h2⟩ := find_mem hz
  obtain ⟨h3, h4⟩ := List.mem_filter.1 h1
  have := pos_filter C (fun z => !(ks.any fun k => isKid C i k && below C k z.id)) hT h3 h4
  rw [h2] at this
  have h5 := kid_pos hT h
  exact Nat.lt_of_le_of_lt this h5
theorem below_kids (h0 : i ≠ 0) {x : One} (hx : x ∈ C) : below C i x.id = true ↔ x.id = i ∨ ∃ k, isKid C i k = true ∧ below C k x.id = true := by
  obtain ⟨n, hn⟩ : ∃ n, C.length - pos C x.id = n := ⟨_, rfl⟩
  induction n using Nat.strongRecOn generalizing x with
  | ind n ih =>
    by_cases hz : x.id = 0
    · rw [hz, below_zero hT h0]
      constructor
      · intro h; cases h
      · rintro (h | ⟨k, h1, h2⟩)
        · exact absurd h.symm h0
        · obtain ⟨_, _, h3, _⟩ := isKid_iff.1 h1
          rw [below_zero hT h3] at h2
          cases h2
    · obtain ⟨y, hy, hyp⟩ := has_iff.1 (hT.par hx hz)
      have hpp := pos_par hT hx hz
      have hpl : ∀ {C : St} {j : Int}, has C j = true → pos C j < C.length := by
        intro C
        induction C with
        | nil => intro j h; cases h
        | cons a t iht =>
          intro j h
          rw [pos]
          split
          · simp
          · rename_i e
            rw [has_cons] at h
            simp [e] at h
            have := iht h
            simp; omega
      have hlt := hpl (has_iff.2 ⟨y, hy, rfl⟩)
      rw [← hyp] at hpp
      have IH := ih (C.length - pos C y.id) (by omega) hy rfl
      rw [below_par hT i hx hz, ← hyp, Bool.or_eq_true, decide_eq_true_eq, IH]
      constructor
      · rintro (h | h | ⟨k, h1, h2⟩)
        · exact .inl h
        · refine .inr ⟨x.id, isKid_iff.2 ⟨x, hT.find hx, hz, hyp.symm.trans h⟩, below_self (has_iff.2 ⟨x, hx, rfl⟩)⟩
        · exact .inr ⟨k, h1, by rw [below_par hT k hx hz, ← hyp, h2]; simp⟩
      · rintro (h | ⟨k, h1, h2⟩)
        · exact .inl h
        · rw [below_par hT k hx hz, ← hyp, Bool.or_eq_true, decide_eq_true_eq] at h2
          rcases h2 with h2 | h2
          · obtain ⟨z, h3, _, h5⟩ := isKid_iff.1 h1
            rw [← h2, hT.find hx] at h3
            injection h3 with h3
            subst h3
            exact .inr (.inl (hyp.trans h5))
          · exact .inr (.inr ⟨k, h1, h2⟩)
theorem cutK_end (hi : has C i = true) (h0 : i ≠ 0) {ks : List Int} (hks : ∀ k, isKid C i k = true → k ∈ ks) : dropP (cutK C i ks) i = abortP C i := by
  unfold abortP dropP cutK
  rw [if_neg (by rintro (e | e); exact h0 e; rw [hi] at e; cases e), List.filter_filter]
  refine List.filter_congr fun x hx => ?_
  have h := below_kids hT h0 hx
  have e : below C i x.id = (decide (x.id = i) || ks.any fun k => isKid C i k && below C k x.id) := by
    rw [Bool.eq_iff_iff, h, Bool.or_eq_true, decide_eq_true_eq, List.any_eq_true]
    refine or_congr_right ?_
    constructor
    · rintro ⟨k, h1, h2⟩
      exact ⟨k, hks k h1, by rw [h1, h2]; rfl⟩
    · rintro ⟨k, _, h2⟩
      rw [Bool.and_eq_true] at h2
      exact ⟨k, h2⟩
  rw [e]
  cases (ks.any fun k => isKid C i k && below C k x.id) <;> by_cases hxi : x.id = i <;> simp [hxi]
end
end Go.Proofs.YtbllmpcpfmlemaaGreat
