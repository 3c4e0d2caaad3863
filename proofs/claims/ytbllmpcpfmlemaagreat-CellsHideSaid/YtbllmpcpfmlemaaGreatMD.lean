/- Texts of the elder seat, turned to this one: P7 P8. -/
import Derived.Test.YtbllmpcpfmlemaaGreatMC
namespace Go.Proofs.YtbllmpcpfmlemaaGreat

/-- An operation as one of somebody else. -/
def asP (x : Opn) (i : Int) : Opn := { x with who := i, dw := if 7 < doing x then 4 else x.dw }
theorem doing_as (x : Opn) (i : Int) : doing (asP x i) = if 7 < doing x then 4 else doing x := by
  unfold asP doing
  dsimp only
  split <;> rfl
theorem do_as (C : St) (x : Opn) (i : Int) : doP C (asP x i) = if doing x < 4 then (([], [], 0), putP C i x.key x.val) else if doing x = 6 then (([], seesKeys (askKP C i x.key) i x.key, 0), askKP C i x.key)
    else if doing x = 7 then (([], [], 0), if x.val = [] then C else logP C i x.key x.val) else ((sees (askP C i x.key) i x.key, [], 0), askP C i x.key) := by
  unfold doP
  rw [doing_as]
  have e1 : (asP x i).who = i := rfl
  have e2 : (asP x i).key = x.key := rfl
  have e3 : (asP x i).val = x.val := rfl
  rw [e1, e2, e3]
  by_cases h : 7 < doing x
  · rw [if_pos h, if_neg (by omega), if_neg (by omega), if_neg (by omega), if_neg (by omega), if_neg (by omega), if_neg (by omega), if_neg (by omega), if_neg (by omega), if_neg (by omega), if_neg (by omega), if_neg (by omega)]
  · rw [if_neg h]
    by_cases h1 : doing x < 4
    · rw [if_pos h1, if_pos h1]
    · rw [if_neg h1, if_neg h1]
      by_cases h2 : doing x = 6
      · rw [if_pos h2, if_pos h2]
      · rw [if_neg h2, if_neg h2]
        by_cases h3 : doing x = 7
        · rw [if_pos h3, if_pos h3]
        · rw [if_neg h3, if_neg h3, if_neg (by omega), if_neg (by omega), if_neg (by omega), if_neg (by omega), if_neg (by omega)]
abbrev Ans := Str × List Str × Int
def stAt (V : St) (p : Int) (l : List Opn) : St := l.foldl (fun C x => (doP C (asP x p)).2) V
theorem stAt_snoc (V : St) (p : Int) (l : List Opn) (x : Opn) : stAt V p (l ++ [x]) = (doP (stAt V p l) (asP x p)).2 := by unfold stAt; rw [List.foldl_append]; rfl
def Agree (V : St) (p : Int) (l : List Rd) : Prop := ∀ r ∈ l, okRd V p r = true
/-- The operations of a trial X got these answers: its parent gets them too, in every state that agrees with what X has read. -/
def Told (P : List Str) (X : One) (l : List Opn) (ans : List Ans) : Prop :=
  ∀ V : St, WF P V → has V X.par = true → Agree V X.par X.rd → (∀ i x a, l[i]? = some x → ans[i]? = some a → (doP (stAt V X.par (l.take i)) (asP x X.par)).1 = a) ∧ stAt V X.par l = give V X
theorem Told.start (P : List Str) (i p : Int) : Told P ⟨i, p, [], [], []⟩ [] [] := by
  intro V _ _ _
  refine ⟨fun i x a h => by simp at h, ?_⟩
  rfl
/-- One more. -/
theorem Told.snoc {P : List Str} {X X' : One} {l : List Opn} {ans : List Ans} (h : Told P X l ans) (hl : ans.length = l.length) (hpar : X'.par = X.par) (hrd : ∃ e, X'.rd = X.rd ++ e) {x : Opn} {a : Ans}
    (hs : ∀ V : St, WF P V → has V X.par = true → Agree V X.par X'.rd → doP (give V X) (asP x X.par) = (a, give V X')) : Told P X' (l ++ [x]) (ans ++ [a]) := by
  intro V hV hp ha
  rw [hpar] at hp ha ⊢
  obtain ⟨e, he⟩ := hrd
  have ha' : Agree V X.par X.rd := fun r hr => ha r (by rw [he]; exact List.mem_append_left _ hr)
  obtain ⟨h1, h2⟩ := h V hV hp ha'
  have h3 := hs V hV hp ha
  refine ⟨fun i y b hy hb => ?_, ?_⟩
  · by_cases hi : i < l.length
    · rw [List.getElem?_append_left hi] at hy
      rw [List.getElem?_append_left (by omega)] at hb
      rw [List.take_append_of_le_length (by omega)]
      exact h1 i y b hy hb
    · rw [List.getElem?_append_right (by omega)] at hy
      rw [List.getElem?_append_right (by omega)] at hb
      have e0 : i - l.length = 0 := by
        rcases Nat.eq_zero_or_pos (i - l.length) with h0 | h0
        · exact h0
        · rw [List.getElem?_eq_none (by simp; omega)] at hy; cases hy
      rw [e0] at hy
      rw [hl, e0] at hb
      have ei : i = l.length := by omega
      rw [ei, List.take_left, h2]
      simp at hy hb
      rw [← hy, ← hb, h3]
  · rw [stAt_snoc, h2, h3]
theorem sees_one {C : St} (h : Tree C) {i : Int} {X : One} (hX : find C i = some X) (h0 : i ≠ 0) (k : Str) : sees C i k = pick1 (mget X.wr k) (pick1 (cellOf X.rd k) (sees C X.par k)) := by
  obtain ⟨h1, h2⟩ := find_mem hX
  have := sees_eq h h1 k
  rw [h2, if_neg h0] at this
  exact this
theorem seesKeys_one {C : St} (h : Tree C) {i : Int} {X : One} (hX : find C i = some X) (h0 : i ≠ 0) (k : Str) : seesKeys C i k = over X.wr k (pickL (keysOf X.rd k) (seesKeys C X.par k)) := by
  obtain ⟨h1, h2⟩ := find_mem hX
  have := seesKeys_eq h h1 k
  rw [h2, if_neg h0] at this
  exact this
section
variable {P : List Str} {C : St} (hC : WF P C) {i : Int} {X : One} (hX : find C i = some X) (h0 : i ≠ 0) {l : List Opn} {ans : List Ans} (hT : Told P X l ans) (hl : ans.length = l.length)
include hC hX h0 hT hl
theorem told_put (x : Opn) (hx : doing x < 4) : ∃ X', find (putP C i x.key x.val) i = some X' ∧ X'.par = X.par ∧ Told P X' (l ++ [x]) (ans ++ [([], [], 0)]) := by
  have hok := hC.ok X (find_mem hX).1
  refine ⟨setWr (wrPut i x.key x.val) X, by unfold putP; rw [find_wr, if_pos rfl, hX]; rfl, rfl, hT.snoc (X' := setWr (wrPut i x.key x.val) X) hl rfl ⟨[], by simp [setWr]⟩ fun V hV hp ha => ?_⟩
  rw [do_as, if_pos hx]
  congr 1
  rw [give_eq, give_eq, putP]
  show upd (upd _ X.par (mix X)) X.par (setWr (wrPut X.par x.key x.val)) = upd (reAsk V X.par X.rd) X.par (mix (setWr (wrPut i x.key x.val) X))
  rw [upd_upd (f := mix X) (fun _ => rfl)]
  refine upd_congr (fun o ho => ?_) (tree_reAsk _ _ hV.tree)
  obtain ⟨o0, h1, _, _, h2, _⟩ := find_reAsk _ _ ho
  have hw : AscK o.wr := by rw [h2]; exact (hV.ok _ (find_mem h1).1).wr
  show ({ o with wr := wrPut X.par x.key x.val (wrAll X.par X.wr o.wr), lg := lgAll X.lg o.lg } : One) = { o with wr := wrAll X.par (wrPut i x.key x.val X.wr) o.wr, lg := lgAll X.lg o.lg }
  rw [wr_step hok.wr hw]
  unfold wrPut
  rw [if_neg (fun h => h0 h.1)]
omit h0 in
theorem told_log (x : Opn) (hx : doing x = 7) : ∃ X', find (if x.val = [] then C else logP C i x.key x.val) i = some X' ∧ X'.par = X.par ∧ Told P X' (l ++ [x]) (ans ++ [([], [], 0)]) := by
  have hok := hC.ok X (find_mem hX).1
  by_cases hv : x.val = []
  · rw [if_pos hv]
    refine ⟨X, hX, rfl, hT.snoc hl rfl ⟨[], by simp⟩ fun V hV hp ha => ?_⟩
    rw [do_as, if_neg (by omega), if_neg (by omega), if_pos hx, if_pos hv]
  · rw [if_neg hv]
    refine ⟨setLg (lgAdd x.key x.val) X, by unfold logP; rw [find_lg, if_pos rfl, hX]; rfl, rfl, hT.snoc (X' := setLg (lgAdd x.key x.val) X) hl rfl ⟨[], by simp [setLg]⟩ fun V hV hp ha => ?_⟩
    rw [do_as, if_neg (by omega), if_neg (by omega), if_pos hx, if_neg hv]
    congr 1
    rw [give_eq, give_eq, logP]
    show upd (upd _ X.par (mix X)) X.par (setLg (lgAdd x.key x.val)) = upd (reAsk V X.par X.rd) X.par (mix (setLg (lgAdd x.key x.val) X))
    rw [upd_upd (f := mix X) (fun _ => rfl)]
    refine upd_congr (fun o ho => ?_) (tree_reAsk _ _ hV.tree)
    obtain ⟨o0, h1, _, _, _, h2, _⟩ := find_reAsk _ _ ho
    have hw : AscK o.lg := by rw [h2]; exact (hV.ok _ (find_mem h1).1).lg
    show ({ o with wr := wrAll X.par X.wr o.wr, lg := lgAdd x.key x.val (lgAll X.lg o.lg) } : One) = { o with wr := wrAll X.par X.wr o.wr, lg := lgAll (lgAdd x.key x.val X.lg) o.lg }
    rw [lg_step hok.lg hw]
theorem told_get (x : Opn) (h4 : ¬ doing x < 4) (h6 : ¬ doing x = 6) (h7 : ¬ doing x = 7) : ∃ X', find (askP C i x.key) i = some X' ∧ X'.par = X.par ∧ Told P X' (l ++ [x]) (ans ++ [(sees (askP C i x.key) i x.key, [], 0)]) := by
  have hok := hC.ok X (find_mem hX).1
  have hXi := (find_mem hX).2
  rw [sees_ask hC.tree, sees_one hC.tree hX h0]
  generalize hk : x.key = k
  -- what the trial is now
  have hX' : ∃ X', find (askP C i k) i = some X' ∧ (opn X k = false ∧ X' = X ∨ opn X k = true ∧ X' = addRd (.cell k (sees C X.par k)) X) := by
    unfold askP
    rw [hX]
    dsimp only
    cases ho : opn X k with
    | false => exact ⟨X, hX, .inl ⟨rfl, rfl⟩⟩
    | true =>
      rw [if_pos rfl, find_rd, if_pos rfl, hX]
      exact ⟨_, rfl, .inr ⟨rfl, rfl⟩⟩
  obtain ⟨X', hf, hX'⟩ := hX'
  have hpar : X'.par = X.par := by rcases hX' with ⟨_, rfl⟩ | ⟨_, rfl⟩ <;> rfl
  have hrd : ∃ e, X'.rd = X.rd ++ e := by
    rcases hX' with ⟨_, rfl⟩ | ⟨_, rfl⟩
    · exact ⟨[], by simp⟩
    · exact ⟨_, rfl⟩
  refine ⟨X', hf, hpar, hT.snoc hl hpar hrd fun V hV hp ha => ?_⟩
  rw [do_as, if_neg h4, if_neg h6, if_neg h7, hk]
  have hw : ∀ o, find V X.par = some o → AscK o.wr := fun o ho => (hV.ok o (find_mem ho).1).wr
  have hR := tree_reAsk X.par X.rd hV.tree
  have hwR : ∀ o, find (reAsk V X.par X.rd) X.par = some o → AscK o.wr := fun o ho => by
    obtain ⟨o0, h1, _, _, h2, _⟩ := find_reAsk _ _ ho
    rw [h2]; exact hw o0 h1
  refine Prod.ext ?_ ?_
  · show (sees (askP (give V X) X.par k) X.par k, ([] : List Str), (0 : Int)) = _
    rw [sees_ask (tree_give hV.tree X), sees_give hV.tree hp hok.wr hw]
    congr 1
    cases hm : mget X.wr k with
    | some v => rfl
    | none =>
      show sees V X.par k = pick1 (cellOf X.rd k) (sees C X.par k)
      cases hc : cellOf X.rd k with
      | some v =>
        have := ha (.cell k v) (by obtain ⟨e, he⟩ := hrd; rw [he]; exact List.mem_append_left _ (mem_cellOf hc))
        exact of_decide_eq_true this
      | none =>
        have ho : opn X k = true := opn_iff.2 ⟨by rw [hXi]; exact h0, hm, hc⟩
        rcases hX' with ⟨h1, _⟩ | ⟨_, rfl⟩
        · rw [ho] at h1; cases h1
        · have := ha (.cell k (sees C X.par k)) (List.mem_append_right _ (by simp))
          exact of_decide_eq_true this
  · show askP (give V X) X.par k = give V X'
    rcases hX' with ⟨h1, rfl⟩ | ⟨h1, rfl⟩
    · refine ask_same fun o' ho' => ?_
      rw [give_eq, find_mix, if_pos rfl] at ho'
      obtain ⟨o, ho, rfl⟩ := Option.map_eq_some_iff.1 ho'
      have e : opn (mix X' o) k = (decide (o.id ≠ 0) && (over1 X'.par (mget X'.wr k) (mget o.wr k)).isNone && (cellOf o.rd k).isNone) := by
        unfold opn
        show (decide (o.id ≠ 0) && (mget (wrAll X'.par X'.wr o.wr) k).isNone && _) = _
        rw [mget_wrAll _ hok.wr (hwR o ho)]
        rfl
      have hoi := (find_mem ho).2
      rw [e]
      cases hm : mget X'.wr k with
      | some v =>
        by_cases hp0 : X'.par = 0
        · rw [hoi, hp0]; rfl
        · show (_ && (if X'.par = 0 ∧ v = [] then none else some v).isNone && _) = false
          rw [if_neg (fun h => hp0 h.1)]
          simp
      | none =>
        cases hc : cellOf X'.rd k with
        | some v => exact reAsk_closed X'.par X'.rd (mem_cellOf hc) ho
        | none => rw [opn_iff.2 ⟨by rw [hXi]; exact h0, hm, hc⟩] at h1; cases h1
    · obtain ⟨_, hm, _⟩ := opn_iff.1 h1
      rw [give_eq, ask_mix hR k hm hok.wr hwR, give_eq]
      show _ = upd (reAsk V X.par (X.rd ++ [Rd.cell k (sees C X.par k)])) X.par _
      rw [reAsk_append]
      rfl
theorem told_keys (x : Opn) (h6 : doing x = 6) : ∃ X', find (askKP C i x.key) i = some X' ∧ X'.par = X.par ∧ Told P X' (l ++ [x]) (ans ++ [([], seesKeys (askKP C i x.key) i x.key, 0)]) := by
  have hok := hC.ok X (find_mem hX).1
  have hXi := (find_mem hX).2
  rw [seesKeys_askK hC.tree, seesKeys_one hC.tree hX h0]
  generalize hk : x.key = k
  have hX' : ∃ X', find (askKP C i k) i = some X' ∧ ((keysOf X.rd k).isSome = true ∧ X' = X ∨ keysOf X.rd k = none ∧ X' = addRd (.keys k (seesKeys C X.par k)) X) := by
    unfold askKP
    rw [hX]
    dsimp only
    cases ho : keysOf X.rd k with
    | some v => rw [if_neg (by rintro ⟨_, h⟩; cases h)]; exact ⟨X, hX, .inl ⟨rfl, rfl⟩⟩
    | none =>
      rw [if_pos ⟨by rw [hXi]; exact h0, rfl⟩, find_rd, if_pos rfl, hX]
      exact ⟨_, rfl, .inr ⟨rfl, rfl⟩⟩
  obtain ⟨X', hf, hX'⟩ := hX'
  have hpar : X'.par = X.par := by rcases hX' with ⟨_, rfl⟩ | ⟨_, rfl⟩ <;> rfl
  have hrd : ∃ e, X'.rd = X.rd ++ e := by
    rcases hX' with ⟨_, rfl⟩ | ⟨_, rfl⟩
    · exact ⟨[], by simp⟩
    · exact ⟨_, rfl⟩
  refine ⟨X', hf, hpar, hT.snoc hl hpar hrd fun V hV hp ha => ?_⟩
  rw [do_as, if_neg (by omega), if_pos h6, hk]
  have hR := tree_reAsk X.par X.rd hV.tree
  refine Prod.ext ?_ ?_
  · show (([] : Str), seesKeys (askKP (give V X) X.par k) X.par k, (0 : Int)) = _
    rw [seesKeys_askK (tree_give hV.tree X), seesKeys_give hV hok hp]
    congr 2
    congr 1
    cases hc : keysOf X.rd k with
    | some v =>
      have := ha (.keys k v) (by obtain ⟨e, he⟩ := hrd; rw [he]; exact List.mem_append_left _ (mem_keysOf hc))
      exact of_decide_eq_true this
    | none =>
      rcases hX' with ⟨h1, _⟩ | ⟨_, rfl⟩
      · rw [hc] at h1; cases h1
      · have := ha (.keys k (seesKeys C X.par k)) (List.mem_append_right _ (by simp))
        exact of_decide_eq_true this
  · show askKP (give V X) X.par k = give V X'
    rcases hX' with ⟨h1, rfl⟩ | ⟨h1, rfl⟩
    · refine askK_same fun o' ho' => ?_
      rw [give_eq, find_mix, if_pos rfl] at ho'
      obtain ⟨o, ho, rfl⟩ := Option.map_eq_some_iff.1 ho'
      obtain ⟨v, hv⟩ := Option.isSome_iff_exists.1 h1
      have := reAsk_closedK X'.par X'.rd (mem_keysOf hv) ho
      exact this
    · rw [give_eq, askK_mix hR k, give_eq]
      show _ = upd (reAsk V X.par (X.rd ++ [Rd.keys k (seesKeys C X.par k)])) X.par _
      rw [reAsk_append]
      rfl
/-- One more operation of the trial. -/
theorem told_step (x : Opn) : ∃ X', find (doP C (asP x i)).2 i = some X' ∧ X'.par = X.par ∧ Told P X' (l ++ [x]) (ans ++ [(doP C (asP x i)).1]) := by
  rw [do_as]
  by_cases h4 : doing x < 4
  · rw [if_pos h4]; exact told_put hC hX h0 hT hl x h4
  rw [if_neg h4]
  by_cases h6 : doing x = 6
  · rw [if_pos h6]; exact told_keys hC hX h0 hT hl x h6
  rw [if_neg h6]
  by_cases h7 : doing x = 7
  · rw [if_pos h7]; exact told_log hC hX hT hl x h7
  rw [if_neg h7]
  exact told_get hC hX h0 hT hl x h4 h6 h7
end
end Go.Proofs.YtbllmpcpfmlemaaGreat
namespace Go.Proofs.YtbllmpcpfmlemaaGreat

/-- Nobody's parent is i. -/
def NoKids (C : St) (i : Int) : Prop := ∀ x ∈ C, x.id ≠ 0 → x.par ≠ i
theorem noKids_iff {C : St} {i : Int} : kids C i = 0 ↔ NoKids C i := by
  unfold kids NoKids
  rw [List.countP_eq_zero]
  simp
/-- What others do: i is as it was, or gone; and it has no new children. -/
structure Off (i : Int) (C D : St) : Prop where
  f : find D i = find C i ∨ has D i = false
  k : NoKids C i → NoKids D i
section
variable {i : Int} {C D E : St}
theorem Off.refl (i : Int) (C : St) : Off i C C := ⟨.inl rfl, id⟩
theorem Off.gone (h : Off i C D) (hc : has C i = false) : has D i = false := by
  rcases h.f with h1 | h1
  · rw [← find_has, h1, find_has]; exact hc
  · exact h1
theorem Off.trans (h : Off i C D) (k : Off i D E) : Off i C E := by
  refine ⟨?_, fun hn => k.k (h.k hn)⟩
  rcases h.f with h1 | h1
  · rcases k.f with h2 | h2
    · exact .inl (h2.trans h1)
    · exact .inr h2
  · exact .inr (k.gone h1)
theorem Off.upd {j : Int} (hj : j ≠ i) {g : One → One} (hid : ∀ x, (g x).id = x.id) (hpar : ∀ x, (g x).par = x.par) : Off i C (Proofs.YtbllmpcpfmlemaaGreat.upd C j g) := by
  refine ⟨.inl (by rw [find_upd hid, if_neg (Ne.symm hj)]), fun h x hx h0 => ?_⟩
  obtain ⟨y, hy, ⟨_, rfl⟩ | ⟨_, rfl⟩⟩ := mem_upd hx
  · rw [hpar]; exact h y hy (by rw [← hid]; exact h0)
  · exact h _ hy h0
theorem Off.ask {j : Int} (hj : j ≠ i) (k : Str) : Off i C (askP C j k) := by
  unfold askP
  split
  · exact .refl _ _
  · split
    · exact .upd hj (fun _ => rfl) (fun _ => rfl)
    · exact .refl _ _
theorem Off.askK {j : Int} (hj : j ≠ i) (k : Str) : Off i C (askKP C j k) := by
  unfold askKP
  split
  · exact .refl _ _
  · split
    · exact .upd hj (fun _ => rfl) (fun _ => rfl)
    · exact .refl _ _
theorem Off.note {j : Int} (hj : j ≠ i) (r : RdA) : Off i C (noteP C j r) := by
  unfold noteP
  split
  · exact .refl _ _
  split
  · exact .refl _ _
  split
  · split
    · exact .upd hj (fun _ => rfl) (fun _ => rfl)
    · exact .refl _ _
  split
  · split
    · exact .upd hj (fun _ => rfl) (fun _ => rfl)
    · exact .refl _ _
  · exact .refl _ _
theorem Off.reAsk {p : Int} (hp : p ≠ i) (l : List Rd) : ∀ {C : St}, Off i C (Proofs.YtbllmpcpfmlemaaGreat.reAsk C p l) := by
  induction l with
  | nil => intro C; exact .refl _ _
  | cons r l ih =>
    intro C
    refine Off.trans ?_ (ih (C := reAsk1 p C r))
    cases r with
    | cell k v => exact .ask hp k
    | keys k v => exact .askK hp k
theorem Off.give {x : One} (hp : x.par ≠ i) : Off i C (Proofs.YtbllmpcpfmlemaaGreat.give C x) := by
  rw [give_eq]
  exact (Off.reAsk hp x.rd).trans (.upd hp (fun _ => rfl) (fun _ => rfl))
theorem Off.filter (h : Tree C) {p : One → Bool} : Off i C (C.filter p) := by
  refine ⟨?_, fun hn x hx => hn x (List.mem_filter.1 hx).1⟩
  cases hh : has (C.filter p) i with
  | false => exact .inr rfl
  | true =>
    obtain ⟨x, hx⟩ := has_find hh
    exact .inl (by rw [hx, find_filter h hx])
theorem Off.begin_ {n p : Int} (hn : n ≠ i) (hp : p ≠ i) : Off i C (beginP C n p).2 := by
  unfold beginP
  split
  · exact .refl _ _
  split
  · exact .refl _ _
  split
  · refine ⟨.inl (by rw [find_cons, if_neg hn]), fun h x hx h0 => ?_⟩
    rcases List.mem_cons.1 hx with rfl | hx
    · exact hp
    · exact h x hx h0
  · exact .refl _ _
theorem Off.do_ (hC : Tree C) (hk : NoKids C i) {x : Opn} (hw : x.who ≠ i) (hn : x.n ≠ i) : Off i C (doP C x).2 := by
  unfold doP
  split
  · exact .upd hw (fun _ => rfl) (fun _ => rfl)
  split
  · exact .askK hw _
  split
  · dsimp only
    split
    · exact .refl _ _
    · exact .upd hw (fun _ => rfl) (fun _ => rfl)
  split
  · exact .begin_ hn hw
  split
  · unfold commitP
    cases hf : Proofs.YtbllmpcpfmlemaaGreat.find C x.who with
    | none => exact .refl _ _
    | some z =>
      dsimp only
      split
      · exact .refl _ _
      split
      · exact .refl _ _
      · rename_i h0 _
        obtain ⟨h1, h2⟩ := find_mem hf
        have hp : z.par ≠ i := hk z h1 (by rw [h2]; exact h0)
        exact (Off.give hp).trans (.filter (tree_give hC z))
  split
  · unfold abortP
    dsimp only
    split
    · exact .refl _ _
    · exact .filter hC
  split
  · exact .note hw _
  split
  · exact .note hw _
  · exact .ask hw _
end
/-- A trial that is not there does not come back by its own operations. -/
theorem gone_as {C : St} {i : Int} (h : has C i = false) (x : Opn) : has (doP C (asP x i)).2 i = false := by
  have hf := find_none.2 h
  rw [do_as]
  split
  · exact ((grow_put C i _ _).1 i).trans h
  split
  · show has (askKP C i x.key) i = false
    unfold askKP; rw [hf]; exact h
  split
  · dsimp only
    split
    · exact h
    · exact ((grow_log C i _ _).1 i).trans h
  · show has (askP C i x.key) i = false
    unfold askP; rw [hf]; exact h
theorem gone_do {C : St} (hC : Tree C) {i : Int} (h : has C i = false) {x : Opn} (hn : x.n ≠ i) : has (doP C x).2 i = false := by
  have key : ∀ D : St, (∀ j, has D j = has C j) → has D i = false := fun D hD => by rw [hD]; exact h
  unfold doP
  split
  · exact key _ (grow_put C _ _ _).1
  split
  · exact key _ (grow_askK C _ _).1
  split
  · dsimp only
    split
    · exact h
    · exact key _ (grow_log C _ _ _).1
  split
  · unfold beginP
    split
    · exact h
    split
    · exact h
    split
    · show has (_ :: C) i = false
      rw [has_cons, h, Bool.or_false, decide_eq_false_iff_not]
      exact hn
    · exact h
  split
  · unfold commitP
    cases hf : find C x.who with
    | none => exact h
    | some z =>
      dsimp only
      split
      · exact h
      split
      · exact h
      · exact (Off.filter (i := i) (tree_give hC z)).gone (key _ (grow_give C z).1)
  split
  · unfold abortP
    dsimp only
    split
    · exact h
    · exact (Off.filter (i := i) hC).gone h
  split
  · exact key _ (grow_note C _ _).1
  split
  · exact key _ (grow_note C _ _).1
  · exact key _ (grow_ask C _ _).1
theorem noKids_as {C : St} {i : Int} (h : NoKids C i) (x : Opn) : NoKids (doP C (asP x i)).2 i := by
  have key : ∀ g : One → One, (∀ x, (g x).id = x.id) → (∀ x, (g x).par = x.par) → NoKids (upd C i g) i := by
    intro g hid hpar x hx h0
    obtain ⟨y, hy, ⟨_, rfl⟩ | ⟨_, rfl⟩⟩ := mem_upd hx
    · rw [hpar]; exact h y hy (by rw [← hid]; exact h0)
    · exact h _ hy h0
  rw [do_as]
  split
  · exact key _ (fun _ => rfl) (fun _ => rfl)
  split
  · show NoKids (askKP C i x.key) i
    unfold askKP
    split
    · exact h
    split
    · exact key _ (fun _ => rfl) (fun _ => rfl)
    · exact h
  split
  · dsimp only
    split
    · exact h
    · exact key _ (fun _ => rfl) (fun _ => rfl)
  · show NoKids (askP C i x.key) i
    unfold askP
    split
    · exact h
    split
    · exact key _ (fun _ => rfl) (fun _ => rfl)
    · exact h

/-! The end. -/
section
variable {C : St} {i : Int}
theorem drop_cons (x : One) (t : St) (i : Int) : dropP (x :: t) i = if x.id = i then dropP t i else x :: dropP t i := by
  unfold dropP
  rw [List.filter_cons]
  by_cases h : x.id = i <;> simp [h]
theorem drop_none (h : has C i = false) : dropP C i = C := by
  unfold dropP
  rw [List.filter_eq_self]
  intro x hx
  rw [decide_eq_true_eq]
  exact fun e => by rw [has_iff.2 ⟨x, hx, e⟩] at h; cases h
theorem find_drop {j : Int} (hj : j ≠ i) : find (dropP C i) j = find C j := by
  induction C with
  | nil => rfl
  | cons z t ih =>
    rw [drop_cons, find_cons]
    by_cases hz : z.id = i
    · rw [if_pos hz, if_neg (by omega), ih]
    · rw [if_neg hz, find_cons, ih]
theorem sees_drop (h : Tree C) (hk : NoKids C i) {j : Int} (hj : j ≠ i) (k : Str) : sees (dropP C i) j k = sees C j k := by
  induction C generalizing j with
  | nil => cases h
  | cons z t ih =>
    have hkt : NoKids t i := fun x hx => hk x (by simp [hx])
    rw [drop_cons]
    rcases h with ⟨h1, _, rfl⟩ | ⟨h1, h2, h3, h4⟩
    · by_cases hz : z.id = i
      · rw [if_pos hz, sees, if_neg (by omega)]; rfl
      · rw [if_neg hz]; rfl
    · by_cases hz : z.id = i
      · rw [if_pos hz, sees, if_neg (by omega), ih h4 hkt hj]
      · rw [if_neg hz, sees, sees, ih h4 hkt hj, ih h4 hkt (hk z (by simp) (by omega))]
theorem seesKeys_drop (h : Tree C) (hk : NoKids C i) {j : Int} (hj : j ≠ i) (k : Str) : seesKeys (dropP C i) j k = seesKeys C j k := by
  induction C generalizing j with
  | nil => cases h
  | cons z t ih =>
    have hkt : NoKids t i := fun x hx => hk x (by simp [hx])
    rw [drop_cons]
    rcases h with ⟨h1, _, rfl⟩ | ⟨h1, h2, h3, h4⟩
    · by_cases hz : z.id = i
      · rw [if_pos hz, seesKeys, if_neg (by omega)]; rfl
      · rw [if_neg hz]; rfl
    · by_cases hz : z.id = i
      · rw [if_pos hz, seesKeys, if_neg (by omega), ih h4 hkt hj]
      · rw [if_neg hz, seesKeys, seesKeys, ih h4 hkt hj, ih h4 hkt (hk z (by simp) (by omega))]
theorem below_drop (h : Tree C) (hk : NoKids C i) (j : Int) : below C i j = (decide (j = i) && has C j) := by
  induction C generalizing j with
  | nil => cases h
  | cons z t ih =>
    have hkt : NoKids t i := fun x hx => hk x (by simp [hx])
    rw [below, has_cons]
    rcases h with ⟨h1, _, rfl⟩ | ⟨h1, h2, h3, h4⟩
    · by_cases hz : z.id = j
      · rw [if_pos hz]; simp [below, hz]
      · rw [if_neg hz]; simp [below, has, hz]
    · by_cases hz : z.id = j
      · have e : decide (z.par = i) = false := decide_eq_false (hk z (by simp) (by omega))
        rw [if_pos hz, ih h4 hkt, e]
        simp [hz]
      · rw [if_neg hz, ih h4 hkt]
        simp [hz]
theorem abort_drop (h : Tree C) (hk : NoKids C i) (h0 : i ≠ 0) (hi : has C i = true) : abortP C i = dropP C i := by
  unfold abortP
  rw [if_neg (by rintro (e | e); exact h0 e; rw [hi] at e; cases e)]
  unfold dropP
  refine List.filter_congr fun x hx => ?_
  rw [below_drop h hk, has_iff.2 ⟨x, hx, rfl⟩]
  by_cases e : x.id = i <;> simp [e]
theorem drop_upd {p : Int} {g : One → One} (hid : ∀ x, (g x).id = x.id) : dropP (upd C p g) i = upd (dropP C i) p g := by
  induction C with
  | nil => rfl
  | cons z t ih =>
    rw [upd_cons, drop_cons, drop_cons, ih]
    have e : (if z.id = p then g z else z).id = z.id := by split; exact hid z; rfl
    rw [e]
    by_cases hz : z.id = i
    · rw [if_pos hz, if_pos hz]
    · rw [if_neg hz, if_neg hz, upd_cons]
theorem noKids_upd {p : Int} {g : One → One} (hid : ∀ x, (g x).id = x.id) (hpar : ∀ x, (g x).par = x.par) (h : NoKids C i) : NoKids (upd C p g) i := by
  intro x hx h0
  obtain ⟨y, hy, ⟨_, rfl⟩ | ⟨_, rfl⟩⟩ := mem_upd hx
  · rw [hpar]; exact h y hy (by rw [← hid]; exact h0)
  · exact h _ hy h0
theorem drop_ask (h : Tree C) (hk : NoKids C i) {p : Int} (hp : p ≠ i) (k : Str) : askP (dropP C i) p k = dropP (askP C p k) i := by
  unfold askP
  rw [find_drop hp]
  cases hf : find C p with
  | none => rfl
  | some x =>
    dsimp only
    cases ho : opn x k with
    | false => rfl
    | true =>
      obtain ⟨h1, h2⟩ := find_mem hf
      rw [if_pos rfl, if_pos rfl, sees_drop h hk (hk x h1 (opn_iff.1 ho).1), drop_upd (g := addRd _) (fun _ => rfl)]
theorem drop_askK (h : Tree C) (hk : NoKids C i) {p : Int} (hp : p ≠ i) (k : Str) : askKP (dropP C i) p k = dropP (askKP C p k) i := by
  unfold askKP
  rw [find_drop hp]
  cases hf : find C p with
  | none => rfl
  | some x =>
    dsimp only
    by_cases ho : x.id ≠ 0 ∧ keysOf x.rd k = none
    · obtain ⟨h1, h2⟩ := find_mem hf
      rw [if_pos ho, if_pos ho, seesKeys_drop h hk (hk x h1 ho.1), drop_upd (g := addRd _) (fun _ => rfl)]
    · rw [if_neg ho, if_neg ho]
end
theorem drop_reAsk {i p : Int} (hp : p ≠ i) (l : List Rd) : ∀ {C : St}, Tree C → NoKids C i → reAsk (dropP C i) p l = dropP (reAsk C p l) i := by
  induction l with
  | nil => intro C _ _; rfl
  | cons r l ih =>
    intro C h hk
    cases r with
    | cell k v =>
      show reAsk (askP (dropP C i) p k) p l = dropP (reAsk (askP C p k) p l) i
      rw [drop_ask h hk hp, ih (tree_ask h p k) ((Off.ask (i := i) hp k).k hk)]
    | keys k v =>
      show reAsk (askKP (dropP C i) p k) p l = dropP (reAsk (askKP C p k) p l) i
      rw [drop_askK h hk hp, ih (tree_askK h p k) ((Off.askK (i := i) hp k).k hk)]
/-- A valid trial without children: what it did, its parent does now, with the same answers; and then everything is as after its commit. -/
theorem told_end {P : List Str} {C : St} (hC : WF P C) {i : Int} {X : One} (hX : find C i = some X) (h0 : i ≠ 0) (hk : NoKids C i) {l : List Opn} {ans : List Ans} (hT : Told P X l ans) (hv : validP C i = true) :
    (commitP C i).1 = 0 ∧ abortP C i = dropP C i ∧ WF P (dropP C i) ∧ stAt (dropP C i) X.par l = (commitP C i).2 ∧
      ∀ n x a, l[n]? = some x → ans[n]? = some a → (doP (stAt (dropP C i) X.par (l.take n)) (asP x X.par)).1 = a := by
  obtain ⟨h1, h2⟩ := find_mem hX
  have hn : X.par ≠ i := hk X h1 (by rw [h2]; exact h0)
  have hk0 : kids C i = 0 := noKids_iff.2 hk
  have hV := hC.drop h0 hk0
  have hp : has (dropP C i) X.par = true := by
    rw [← find_has, find_drop hn, find_has]
    exact hC.tree.par h1 (by rw [h2]; exact h0)
  have ha : Agree (dropP C i) X.par X.rd := by
    intro r hr
    unfold validP at hv
    rw [hX] at hv
    have := List.all_eq_true.1 hv r hr
    cases r with
    | cell k v => show decide (sees (dropP C i) X.par k = v) = true; rw [sees_drop hC.tree hk hn]; exact this
    | keys k v => show decide (seesKeys (dropP C i) X.par k = v) = true; rw [seesKeys_drop hC.tree hk hn]; exact this
  obtain ⟨e1, e2⟩ := hT _ hV hp ha
  have ec : commitP C i = (0, dropP (give C X) i) := by
    unfold commitP
    rw [hX]
    dsimp only
    rw [if_neg h0, if_neg (by omega)]
  refine ⟨by rw [ec], abort_drop hC.tree hk h0 (has_iff.2 ⟨X, h1, h2⟩), hV, ?_, e1⟩
  rw [e2, ec, give_eq, give_eq, drop_reAsk hn X.rd hC.tree hk, drop_upd (g := mix X) (fun _ => rfl)]
/-- After the commit it is gone. -/
theorem drop_gone (C : St) (i : Int) : has (dropP C i) i = false := by
  rw [Bool.eq_false_iff]
  intro h
  obtain ⟨x, _, e, h2⟩ := has_filter.1 h
  rw [decide_eq_true_eq] at h2
  exact h2 e
end Go.Proofs.YtbllmpcpfmlemaaGreat
