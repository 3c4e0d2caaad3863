/- Packing as plain lists of bytes. No program in sight. -/
namespace Go.Proofs.Ytcoecpglnabbpaa

abbrev Bs := List UInt8
/-- How many bytes at the head are equal. -/
def eqN : Bs → Nat
  | [] => 0
  | a :: r => 1 + (r.takeWhile (· == a)).length
theorem eqN_cons (a : UInt8) (r : Bs) : eqN (a :: r) = 1 + (r.takeWhile (· == a)).length := rfl
theorem eqN_pos {a : UInt8} {r : Bs} : 1 ≤ eqN (a :: r) := by rw [eqN_cons]; omega
theorem eqN_le (l : Bs) : eqN l ≤ l.length := by
  cases l with
  | nil => simp [eqN]
  | cons a r => rw [eqN_cons]; have := (List.takeWhile_prefix (l := r) (· == a)).length_le; simp only [List.length_cons]; omega
theorem takeWhile_eq_replicate (a : UInt8) (r : Bs) : r.takeWhile (· == a) = List.replicate (r.takeWhile (· == a)).length a := by
  rw [List.eq_replicate_iff]
  refine ⟨rfl, fun b hb => ?_⟩
  induction r with
  | nil => simp at hb
  | cons c s ih =>
    rw [List.takeWhile_cons] at hb
    split at hb
    · rename_i h
      rcases List.mem_cons.1 hb with rfl | hb
      · exact by simpa using h
      · exact ih hb
    · simp at hb
theorem take_eqN (a : UInt8) (r : Bs) : (a :: r).take (eqN (a :: r)) = List.replicate (eqN (a :: r)) a := by
  rw [eqN_cons, Nat.add_comm, List.take_succ_cons, List.replicate_succ]
  congr 1
  have h := takeWhile_eq_replicate a r
  have h2 : r.take (r.takeWhile (· == a)).length = r.takeWhile (· == a) := (List.prefix_iff_eq_take.1 (List.takeWhile_prefix _)).symm
  rw [h2]
  exact h
/-- How many bytes come before a run. -/
def lit : Bs → Nat
  | [] => 0
  | a :: r => if 3 ≤ eqN (a :: r) then 0 else 1 + lit r
theorem lit_le (l : Bs) : lit l ≤ l.length := by
  induction l with
  | nil => simp [lit]
  | cons a r ih => unfold lit; split <;> simp only [List.length_cons] <;> omega
/-- The length of the first piece. -/
def hd (l : Bs) : Nat := if 3 ≤ eqN l then eqN l else lit l
theorem hd_pos {a : UInt8} {r : Bs} : 1 ≤ hd (a :: r) := by
  unfold hd
  split
  · omega
  · rename_i h
    unfold lit
    rw [if_neg h]
    omega
theorem hd_le (l : Bs) : hd l ≤ l.length := by
  unfold hd
  split
  · exact eqN_le l
  · exact lit_le l
/-- The pieces, and whether they are runs. -/
def pieces : (l : Bs) → List (Bs × Bool)
  | [] => []
  | a :: r => ((a :: r).take (hd (a :: r)), decide (3 ≤ eqN (a :: r))) :: pieces ((a :: r).drop (hd (a :: r)))
termination_by l => l.length
decreasing_by
  have := hd_pos (a := a) (r := r)
  simp only [List.length_drop, List.length_cons]
  omega
theorem pieces_cons (a : UInt8) (r : Bs) : pieces (a :: r) = ((a :: r).take (hd (a :: r)), decide (3 ≤ eqN (a :: r))) :: pieces ((a :: r).drop (hd (a :: r))) := by rw [pieces]
theorem pieces_nil : pieces [] = [] := by rw [pieces]
/-- A piece's packed form. -/
def enc : Bs × Bool → Bs
  | (p, true) => [UInt8.ofNat (128 + p.length), p.headD 0]
  | (p, false) => UInt8.ofNat p.length :: p
def form (l : Bs) : Bs := (pieces l).flatMap enc
theorem form_cons (a : UInt8) (r : Bs) : form (a :: r) = enc ((a :: r).take (hd (a :: r)), decide (3 ≤ eqN (a :: r))) ++ form ((a :: r).drop (hd (a :: r))) := by
  unfold form; rw [pieces_cons, List.flatMap_cons]
theorem form_nil : form [] = [] := by unfold form; rw [pieces_nil]; rfl
/-- What a packed form stands for. -/
def dec : (l : Bs) → Option Bs
  | [] => some []
  | n :: r =>
    if 128 ≤ n.toNat then
      if r = [] then none else (dec (r.drop 1)).map (List.replicate (n.toNat - 128) (r.headD 0) ++ ·)
    else if n.toNat ≤ r.length then (dec (r.drop n.toNat)).map (r.take n.toNat ++ ·) else none
termination_by l => l.length
decreasing_by
  all_goals simp only [List.length_drop, List.length_cons]; omega
theorem dec_nil : dec [] = some [] := by rw [dec]
theorem dec_run {n b : UInt8} {r : Bs} (h : 128 ≤ n.toNat) : dec (n :: b :: r) = (dec r).map (List.replicate (n.toNat - 128) b ++ ·) := by rw [dec, if_pos h, if_neg (by simp)]; rfl
theorem dec_end {n : UInt8} (h : 128 ≤ n.toNat) : dec [n] = none := by rw [dec, if_pos h, if_pos rfl]
theorem dec_lit {n : UInt8} {r : Bs} (h : n.toNat < 128) (h2 : n.toNat ≤ r.length) : dec (n :: r) = (dec (r.drop n.toNat)).map (r.take n.toNat ++ ·) := by rw [dec, if_neg (by omega), if_pos h2]
theorem dec_bad {n : UInt8} {r : Bs} (h : n.toNat < 128) (h2 : r.length < n.toNat) : dec (n :: r) = none := by rw [dec, if_neg (by omega), if_neg (by omega)]
/-- The reference's reading: what has come, the rest. -/
def rdec : (out l : Bs) → Bs
  | out, [] => out
  | out, n :: r =>
    if 64 < out.length then out
    else if 128 ≤ n.toNat then
      if r = [] then out else rdec (out ++ List.replicate (n.toNat - 128) (r.headD 0)) (r.drop 1)
    else rdec (out ++ r.take n.toNat) (r.drop n.toNat)
termination_by _ l => l.length
decreasing_by
  all_goals simp only [List.length_drop, List.length_cons]; omega
theorem toNat_ofNat {k : Nat} (h : k < 256) : (UInt8.ofNat k).toNat = k := by simp [UInt8.toNat_ofNat']; omega
theorem hd_run {l : Bs} (h : 3 ≤ eqN l) : hd l = eqN l := by unfold hd; rw [if_pos h]
theorem hd_lit {l : Bs} (h : ¬ 3 ≤ eqN l) : hd l = lit l := by unfold hd; rw [if_neg h]
/-- What is packed is read back. -/
theorem dec_form : ∀ (n : Nat) (l : Bs), l.length ≤ n → n ≤ 127 → dec (form l) = some l := by
  intro n
  induction n with
  | zero => intro l h _; obtain rfl : l = [] := List.eq_nil_of_length_eq_zero (by omega); rw [form_nil, dec_nil]
  | succ n ih =>
    intro l h hn
    cases l with
    | nil => rw [form_nil, dec_nil]
    | cons a r =>
      rw [form_cons]
      have h1 := hd_pos (a := a) (r := r)
      have h2 := hd_le (a :: r)
      have hr := ih ((a :: r).drop (hd (a :: r))) (by simp only [List.length_drop]; omega) (by omega)
      have hl : ((a :: r).take (hd (a :: r))).length = hd (a :: r) := by rw [List.length_take]; omega
      by_cases h3 : 3 ≤ eqN (a :: r)
      · rw [decide_eq_true h3]
        have he : (a :: r).take (hd (a :: r)) = List.replicate (eqN (a :: r)) a := by rw [hd_run h3, take_eqN]
        have hh : ((a :: r).take (hd (a :: r))).headD 0 = a := by
          obtain ⟨k, hk⟩ : ∃ k, hd (a :: r) = k + 1 := ⟨hd (a :: r) - 1, by omega⟩
          rw [hk]; rfl
        simp only [enc, hl, hh, List.cons_append, List.nil_append]
        have hb : (UInt8.ofNat (128 + hd (a :: r))).toNat = 128 + hd (a :: r) := toNat_ofNat (by omega)
        rw [dec_run (by rw [hb]; omega), hr, hb, Option.map_some]
        rw [show 128 + hd (a :: r) - 128 = hd (a :: r) by omega, hd_run h3, ← take_eqN, List.take_append_drop]
      · rw [decide_eq_false h3]
        simp only [enc, hl, List.cons_append]
        have hb : (UInt8.ofNat (hd (a :: r))).toNat = hd (a :: r) := toNat_ofNat (by omega)
        rw [dec_lit (by rw [hb]; omega) (by rw [hb, List.length_append, hl]; omega), hb]
        rw [List.drop_left' hl, hr, Option.map_some, List.take_left' hl, List.take_append_drop]
theorem rdec_form : ∀ (n : Nat) (l out : Bs), l.length ≤ n → out.length + l.length ≤ 64 → rdec out (form l) = out ++ l := by
  intro n
  induction n with
  | zero => intro l out h _; obtain rfl : l = [] := List.eq_nil_of_length_eq_zero (by omega); rw [form_nil, rdec]; simp
  | succ n ih =>
    intro l out h hn
    cases l with
    | nil => rw [form_nil, rdec]; simp
    | cons a r =>
      rw [form_cons]
      have h1 := hd_pos (a := a) (r := r)
      have h2 := hd_le (a :: r)
      have hl : ((a :: r).take (hd (a :: r))).length = hd (a :: r) := by rw [List.length_take]; omega
      by_cases h3 : 3 ≤ eqN (a :: r)
      · rw [decide_eq_true h3]
        have hh : ((a :: r).take (hd (a :: r))).headD 0 = a := by
          obtain ⟨k, hk⟩ : ∃ k, hd (a :: r) = k + 1 := ⟨hd (a :: r) - 1, by omega⟩
          rw [hk]; rfl
        simp only [enc, hl, hh, List.cons_append, List.nil_append]
        have hb : (UInt8.ofNat (128 + hd (a :: r))).toNat = 128 + hd (a :: r) := toNat_ofNat (by omega)
        rw [rdec, if_neg (by omega), hb, if_pos (by omega), if_neg (by simp), show 128 + hd (a :: r) - 128 = hd (a :: r) by omega]
        simp only [List.headD_cons, List.drop_succ_cons, List.drop_zero]
        have hr := ih ((a :: r).drop (hd (a :: r))) (out ++ List.replicate (hd (a :: r)) a) (by simp only [List.length_drop]; omega) (by simp only [List.length_drop, List.length_append, List.length_replicate]; omega)
        rw [hr, List.append_assoc]
        congr 1
        rw [hd_run h3, ← take_eqN, List.take_append_drop]
      · rw [decide_eq_false h3]
        simp only [enc, hl, List.cons_append]
        have hb : (UInt8.ofNat (hd (a :: r))).toNat = hd (a :: r) := toNat_ofNat (by omega)
        rw [rdec, if_neg (by omega), hb, if_neg (by omega)]
        rw [List.drop_left' hl, List.take_left' hl]
        have hr := ih ((a :: r).drop (hd (a :: r))) (out ++ (a :: r).take (hd (a :: r))) (by simp only [List.length_drop]; omega) (by simp only [List.length_drop, List.length_append, hl]; omega)
        rw [hr, List.append_assoc, List.take_append_drop]
/-- Pack, Unpack. -/
def packP (l : Bs) : Option Bs := if l.length = 64 ∧ (form l).length ≤ 47 then some (form l) else none
def unpackP (s : Bs) : Option Bs := if s.length ≤ 47 then (dec s).bind (fun x => if packP x = some s then some x else none) else none
/-- The reference's Unpack. -/
def runpackP (s : Bs) : Option Bs := if packP (rdec [] s) = some s then some (rdec [] s) else none
theorem packP_some {x s : Bs} (h : packP x = some s) : x.length = 64 ∧ s = form x ∧ s.length ≤ 47 := by
  unfold packP at h
  split at h
  · rename_i h1
    injection h with h
    subst h
    exact ⟨h1.1, rfl, h1.2⟩
  · cases h
theorem unpackP_some {x s : Bs} : unpackP s = some x ↔ packP x = some s := by
  constructor
  · intro h
    unfold unpackP at h
    split at h
    · cases hd : dec s with
      | none => rw [hd] at h; cases h
      | some y =>
        rw [hd] at h
        simp only [Option.bind_some] at h
        split at h
        · injection h with h; subst h; assumption
        · cases h
    · cases h
  · intro h
    obtain ⟨h1, rfl, h3⟩ := packP_some h
    unfold unpackP
    rw [if_pos h3, dec_form 64 x (by omega) (by omega), Option.bind_some, if_pos h]
theorem runpackP_eq (s : Bs) : runpackP s = unpackP s := by
  unfold runpackP
  split
  · rename_i h
    exact (unpackP_some.2 h).symm
  · rename_i h
    cases hu : unpackP s with
    | none => rfl
    | some x =>
      exfalso
      have hp := unpackP_some.1 hu
      obtain ⟨h1, rfl, h3⟩ := packP_some hp
      rw [rdec_form 64 x [] (by omega) (by simp only [List.length_nil]; omega), List.nil_append] at h
      exact h hp
end Go.Proofs.Ytcoecpglnabbpaa
