/- Texts of the elder seat, turned to this one: W16 W17. -/
import Derived.Test.YtbllmpcpfmlemaaGreatMI
import Derived.Test.YtbllmpcpfmlemaaGreatSh
namespace Go.Proofs.YtbllmpcpfmlemaaGreat
open Go.RowKit
noncomputable def begin9C : Code := ((Tryz.f34.body.bind (theRegion 9)).getD .skip)
set_option maxRecDepth 1000000 in
set_option maxHeartbeats 1600000 in
set_option linter.unusedSimpArgs false in
theorem begin9_any (w : World) (c m b cnt : Nat) (id : Int) (f : Int → Option Nat) (K : Exit → Act → World → Prop)
    (hS : ∀ W, Keeps [] w W → W.cell? ⟨c, 0, none⟩ = some (.map (some m))) (hG : ∀ W, Keeps [] w W → GMap kI eP W m cnt f) (hcnt : cnt < maxLen) (hok : kI.ok id)
    (u2 u3 u4 u5 u6 u8 u9 u10 u11 u12 u13 u14 u15 u16 u17 u18 u19 u20 u21 u22 u23 u24 u25 u26 u27 u28 u29 u30 u31 u32 u33 u34 u35 u36 u37 u38 u39 u40 u41 u42 u43 u44 u45 : Value)
    (hK : ∀ (v39 v40 v41 v42 v43 v44 v45 : Value) (n : Nat) (W W9 : World), FreshAt W n (some b) → Keeps [] w W → W.heap.size = n + 5 → w.heap.size ≤ n → GMap kI eP W9 m (cnt + 1) (updG f id (some (n + 4))) → Keeps [m] W W9 → K .normal ⟨#[.pointer (some ⟨c, 0, none⟩), .int .i64 id, u2, u3, u4, u5, u6, .pointer (some ⟨b, 0, none⟩), u8, u9, u10, u11, u12, u13, u14, u15, u16, u17, u18, u19, u20, u21, u22, u23, u24, u25, u26, u27, u28, u29, u30, u31, u32, u33, u34, u35, u36, u37, u38, v39, v40, v41, v42, v43, v44, v45], []⟩ W9) :
    Code.wp Tryz.prog begin9C K ⟨#[.pointer (some ⟨c, 0, none⟩), .int .i64 id, u2, u3, u4, u5, u6, .pointer (some ⟨b, 0, none⟩), u8, u9, u10, u11, u12, u13, u14, u15, u16, u17, u18, u19, u20, u21, u22, u23, u24, u25, u26, u27, u28, u29, u30, u31, u32, u33, u34, u35, u36, u37, u38, u39, u40, u41, u42, u43, u44, u45], []⟩ w := by
  have HS := Lib.hid hS
  have HG := Lib.hid hG
  clear hS hG
  conv => arg 2; whnf
  dsimp only at hK ⊢
  refine wp_region_noPanic ?_
  refine wp_region_last (S := fun W => W.cell? ⟨c, 0, none⟩ = some (.map (some m))) 7 (by kernel_rfl) (HS.out _ ((Keeps.refl [] w).drew)) (fun hHeld => ?_)
  obtain ⟨w0, hw0⟩ : ∃ w0, w.drew = w0 := ⟨_, rfl⟩
  try rw [hw0] at hHeld
  rw [hw0]
  have K0 : Keeps [] w w0 := by rw [← hw0]; exact (Keeps.refl [] w).drew
  clear hw0
  refine wpG_take (nx := [1, 2, 3, 7, 7, 6, 7]) (i := 0) (oi := ⟨some 39, .move (.tmp 0), 24, _, _, none⟩) (v := ?vq1) (by kernel_rfl) rfl (by decide) (by kernel_rfl) (by kernel_rfl) (by kernel_rfl) (fun _ _ _ h => h) (Or.inl ⟨by rfl, fun W hW => ?_⟩) (by assumption) ?_
  rotate_left
  · go_simp
    with_reducible rfl
  try simp only [Act.put, lA, l0, lS]
  refine wpG_take (nx := [1, 2, 3, 7, 7, 6, 7]) (i := 1) (oi := ⟨some 40, .nilCheck (.tmp 39), 0, _, _, none⟩) (v := ?vq2) (by kernel_rfl) rfl (by decide) (by kernel_rfl) (by kernel_rfl) (by kernel_rfl) (fun _ _ _ h => h) (Or.inl ⟨by rfl, fun W hW => ?_⟩) (by assumption) ?_
  rotate_left
  · go_simp
    with_reducible rfl
  try simp only [Act.put, lA, l0, lS]
  refine wpG_take (nx := [1, 2, 3, 7, 7, 6, 7]) (i := 2) (oi := ⟨some 41, .fieldAddr 65 (.tmp 40) 0, 0, _, _, none⟩) (v := ?vq3) (by kernel_rfl) rfl (by decide) (by kernel_rfl) (by kernel_rfl) (by kernel_rfl) (fun _ _ _ h => h) (Or.inl ⟨by rfl, fun W hW => ?_⟩) (by assumption) ?_
  rotate_left
  · go_simp
    with_reducible rfl
  try simp only [Act.put, lA, l0, lS]
  refine wpG_take (nx := [1, 2, 3, 7, 7, 6, 7]) (i := 3) (oi := ⟨some 42, .load 63 (.tmp 41), 63, _, _, none⟩) (v := .map (some m)) (by kernel_rfl) rfl (by decide) (by kernel_rfl) (by kernel_rfl) (by kernel_rfl) (fun _ _ _ h => h) (Or.inl ⟨by rfl, fun W hW => ?_⟩) (by assumption) ?_
  · (have a0 := hW; clear hW; go_simp)
  try simp only [Act.put, lA, l0, lS]
  refine wpG_take (nx := [1, 2, 3, 7, 7, 6, 7]) (i := 4) (oi := ⟨some 43, .move (.tmp 1), 3, _, _, none⟩) (v := ?vq4) (by kernel_rfl) rfl (by decide) (by kernel_rfl) (by kernel_rfl) (by kernel_rfl) (fun _ _ _ h => h) (Or.inl ⟨by rfl, fun W hW => ?_⟩) (by assumption) ?_
  rotate_left
  · go_simp
    with_reducible rfl
  try simp only [Act.put, lA, l0, lS]
  refine wpG_take (nx := [1, 2, 3, 7, 7, 6, 7]) (i := 5) (oi := ⟨some 44, .move (.tmp 7), 61, _, _, none⟩) (v := ?vq5) (by kernel_rfl) rfl (by decide) (by kernel_rfl) (by kernel_rfl) (by kernel_rfl) (fun _ _ _ h => h) (Or.inl ⟨by rfl, fun W hW => ?_⟩) (by assumption) ?_
  rotate_left
  · go_simp
    with_reducible rfl
  try simp only [Act.put, lA, l0, lS]
  refine wpG_ready (rs := [6]) (by kernel_rfl) (by simp) ?_
  refine AllG.cons (o := ⟨some 45, .call { callee := .value (.func 41), args := #[.tmp 44], argTypes := #[61] }, 61, _, _, none⟩) rfl (fun KK hKK => ?_) AllG.nil
  have hfr := fresh_any w0 (some b)
  obtain ⟨n, hn⟩ : ∃ n, w0.heap.size = n := ⟨_, rfl⟩
  rw [hn] at hfr
  have hnw : w.heap.size ≤ n := by have := K0.size; omega
  refine step_callW (by rfl) 41 _ _ rfl #[.pointer (some ⟨b, 0, none⟩)] (by first | (simp [Act.eval]; done) | (simp [Act.eval, Act.put]; done)) (enters_of Tryz.func41 (by kernel_rfl) rfl) hfr ?_
  rintro e W6 ⟨rfl, f2, k2, z2⟩
  refine ⟨_, rfl, ?_⟩
  have K7 : Keeps [] w W6 := K0.trans k2 (by simp)
  refine hKK.out _ _ (HS.out _ K7) (fun hHeld => ?_)
  clear hKK KK hn hfr
  try simp only [Act.put, lA, l0, lS]
  refine wpG_ready (rs := [7]) (by kernel_rfl) (by simp) ?_
  refine AllG.last (o := ⟨none, .mapUpdate 63 (.tmp 42) (.tmp 43) (.tmp 45), 0, _, _, none⟩) rfl (fun KK hKK => ?_)
  refine step_updG (S := kI) (E := eP) rfl _ _ _ 63 rfl Tryz.underlying63 m cnt f (by first | (simp [Act.eval]; done) | (simp [Act.eval, Act.put]; done)) (HG.out _ K7) hcnt id (n + 4) (show _ = Value.int .i64 id by first | (simp [Act.eval]; done) | (simp [Act.eval, Act.put]; done)) (show _ = Value.pointer (some ⟨n + 4, 0, none⟩) by first | (simp [Act.eval]; done) | (simp [Act.eval, Act.put]; done)) hok ?_
  intro W9 m9 k9
  refine hKK.out _ _ ?_
  clear hKK KK hHeld
  try simp only [Act.put, lA, l0, lS]
  refine wpG_done (by kernel_rfl) ?_ _
  refine NoPanic.normal ?_
  exact hK _ _ _ _ _ _ _ n _ W9 f2 K7 z2 hnw m9 k9
end Go.Proofs.YtbllmpcpfmlemaaGreat
namespace Go.Proofs.YtbllmpcpfmlemaaGreat
open Go.RowKit
theorem kids_cons (x : One) (C : St) (j : Int) : kids (x :: C) j = kids C j + if x.id ≠ 0 ∧ x.par = j then 1 else 0 := by
  unfold kids
  rw [List.countP_cons]
  by_cases h : x.id ≠ 0 ∧ x.par = j <;> simp [h]
theorem kids_drop {C : St} (hT : Tree C) {i : Int} {x : One} (hx : find C i = some x) (h0 : i ≠ 0) (j : Int) : kids C j = kids (dropP C i) j + if x.par = j then 1 else 0 := by
  induction C with
  | nil => cases hx
  | cons z t ih =>
    rw [find_cons] at hx
    rw [drop_cons, kids_cons]
    by_cases hz : z.id = i
    · rw [if_pos hz] at hx ⊢
      injection hx with hx
      subst hx
      have hn : dropP t i = t := by
        rcases hT with ⟨h1, _, rfl⟩ | ⟨_, _, h3, _⟩
        · rfl
        · exact drop_none (by rw [← hz]; exact h3)
      rw [hn]
      by_cases hj : z.par = j
      · rw [if_pos ⟨by rw [hz]; exact h0, hj⟩, if_pos hj]
      · rw [if_neg (fun h => hj h.2), if_neg hj]
    · rw [if_neg hz] at hx ⊢
      rw [kids_cons]
      rcases hT with ⟨_, _, rfl⟩ | ⟨_, _, _, h4⟩
      · cases hx
      · rw [ih h4 hx]
        omega
theorem has_drop (C : St) (i j : Int) : has (dropP C i) j = (has C j && decide (j ≠ i)) := by
  induction C with
  | nil => rfl
  | cons z t ih =>
    rw [drop_cons, has_cons]
    by_cases hz : z.id = i
    · rw [if_pos hz, ih]
      by_cases hj : z.id = j
      · have : j = i := hj.symm.trans hz
        simp [this]
      · simp [hj]
    · rw [if_neg hz, has_cons, ih]
      by_cases hj : z.id = j
      · have : j ≠ i := fun h => hz (hj.trans h)
        simp [hj, this]
      · simp [hj]
section
variable {w w' : World} {c m : Nat} {Mo : Int → Mem} {L : Nat → Option (Int × Nat)} {F G : List Nat} {C : St} {P : List Str}
theorem RepM.twoKeep (h : RepM w c m Mo L F G C) {p : Int} {y : One} (hy : find C p = some y) (hk : Keeps [(Mo p).b, m] w w') {x : One} (hx : x ∈ C) : (x.id ≠ p → OneAt w' (Mo x.id) (parOf Mo x) (kids C x.id) x) ∧
    (x.id = p → ∀ (nk : Nat) (pp : Option Nat), Blk w' (Mo p).b 77 #[pv pp, .int .i64 nk, .map (some (Mo p).mw), .map (some (Mo p).ml), (Mo p).row, .map (some (Mo p).mv), .map (some (Mo p).mq)] → OneAt w' (Mo p) pp nk x) := by
  obtain ⟨hyo, hyl⟩ := h.at_ hy
  have hlx := h.lab x hx
  have hrow : ∀ q l, Rd.keys q l ∈ x.rd → ∀ g ∈ fp ((Mo x.id).sl q).v, g ∉ [(Mo p).b, m] := by
    intro q l hl g hg hgK
    have hG := h.inG x hx q l hl g hg
    simp only [List.mem_cons, List.not_mem_nil, or_false] at hgK
    rcases hgK with rfl | rfl
    · exact h.apart _ hG (h.inF _ (by rw [hyl.b]; rfl))
    · exact h.apart _ hG h.mF
  constructor
  · intro hne
    refine (h.one x hx).keep hk (fun g hg hgK => ?_) hrow
    obtain ⟨n, hn, e⟩ := hlx.all g hg
    simp only [List.mem_cons, List.not_mem_nil, or_false] at hgK
    rcases hgK with rfl | rfl
    · rw [hyl.b] at e
      injection e with e
      injection e with e _
      exact hne e.symm
    · rw [h.lm] at e
      injection e with e
      injection e with _ e
      omega
  · intro he nk pp hb
    have ho := h.one x hx
    rw [he] at ho hlx
    have hoff : ∀ g n, L g = some (p, n) → n ≠ 0 → n < 6 → g ∉ [(Mo p).b, m] := by
      intro g n hg hn h6 hgK
      simp only [List.mem_cons, List.not_mem_nil, or_false] at hgK
      rcases hgK with rfl | rfl
      · rw [hyl.b] at hg
        injection hg with hg
        injection hg with _ hg
        exact hn hg.symm
      · rw [h.lm] at hg
        injection hg with hg
        injection hg with _ hg
        omega
    rw [he] at hrow
    exact ⟨hb, ho.wm.keep hk (hoff _ 1 hlx.mw (by omega) (by omega)), ho.l.keep hk (hoff _ 2 hlx.ml (by omega) (by omega)), own_keep ho.o hk (fun g hg => hoff _ 5 (hlx.row g hg) (by omega) (by omega)),
      ho.v.keep hk (hoff _ 3 hlx.mv (by omega) (by omega)), ho.k.keep hk (hoff _ 4 hlx.mq (by omega) (by omega)), fun q l hl => own_keep (ho.s q l hl) hk (hrow q l hl)⟩
theorem noKids_new {C : St} (hT : Tree C) {i : Int} (hi : has C i = false) : NoKids C i := fun x hx h0 e => by
  have := hT.par hx h0
  rw [e, hi] at this
  cases this
theorem RepM.begun (h : RepM w c m Mo L F G C) (hT : Tree C) {i p : Int} {y : One} (hy : find C p = some y) (hi : has C i = false) (hi0 : i ≠ 0) {n : Nat} (hn : w.heap.size ≤ n) (hn5 : n + 5 ≤ w'.heap.size) (hk : Keeps [(Mo p).b, m] w w')
    (hb : Blk w' (Mo p).b 77 #[pv (parOf Mo y), .int .i64 (kids C p + 1 : Nat), .map (some (Mo p).mw), .map (some (Mo p).ml), (Mo p).row, .map (some (Mo p).mv), .map (some (Mo p).mq)])
    (hall : GMap kI eP w' m (C.length + 1) (updG (fun j => if has C j = true then some (Mo j).b else none) i (some (n + 4)))) (hf : FreshAt w' n (some (Mo p).b)) :
    Cs w' c ([n, n + 1, n + 2, n + 3, n + 4] ++ F) G (⟨i, p, [], [], []⟩ :: C) := by
  obtain ⟨hyC, hyp⟩ := find_mem hy
  have hpi : p ≠ i := fun e => by rw [← e, ← find_has, hy] at hi; cases hi
  have hxi : ∀ x ∈ C, x.id ≠ i := fun x hx e => by rw [has_iff.2 ⟨x, hx, e⟩] at hi; cases hi
  have hpar : ∀ x ∈ C, x.id ≠ 0 → x.par ≠ i := noKids_new hT hi
  let Mo' : Int → Mem := fun j => if j = i then newMem n else Mo j
  have e1 : ∀ j, j ≠ i → Mo' j = Mo j := fun j hj => if_neg hj
  have e2 : Mo' i = newMem n := if_pos rfl
  let L' : Nat → Option (Int × Nat) := fun g => if g = n + 4 then some (i, 0) else if g = n then some (i, 1) else if g = n + 1 then some (i, 2) else if g = n + 2 then some (i, 3) else if g = n + 3 then some (i, 4) else L g
  have l1 : ∀ g, g < n → L' g = L g := fun g hg => by
    simp only [L']
    rw [if_neg (by omega), if_neg (by omega), if_neg (by omega), if_neg (by omega), if_neg (by omega)]
  have l2 : ∀ g a, L g = some a → L' g = some a := fun g a hg => by
    rw [l1 g (Nat.lt_of_lt_of_le (h.ltF g (h.inF g (by rw [hg]; rfl))) hn), hg]
  have ep : ∀ x ∈ C, parOf Mo' x = parOf Mo x := fun x hx => by
    unfold parOf
    split
    · rfl
    · rename_i h0
      rw [e1 _ (hpar x hx h0)]
  refine ⟨m, Mo', L', ?_, ?_, ?_, ?_, l2 _ _ h.lc, l2 _ _ h.lm, ?_, ?_, ?_, fun g hg => Nat.lt_of_lt_of_le (h.ltG g hg) hk.size, ?_⟩
  · exact h.cb.keep hk (fun hc => by
      simp only [List.mem_cons, List.not_mem_nil, or_false] at hc
      rcases hc with hc | hc
      · have := (h.at_ hy).2.b
        rw [← hc, h.lc] at this
        injection this with this
        injection this with _ this
        omega
      · have := h.lm
        rw [← hc, h.lc] at this
        injection this with this
        injection this with _ this
        omega)
  · rw [List.length_cons]
    refine hall.congr (fun j _ => ?_)
    unfold updG
    rw [has_cons]
    by_cases hj : j = i
    · subst hj
      rw [e2, if_pos rfl]
      simp [newMem]
    · rw [if_neg hj, e1 j hj]
      simp [Ne.symm hj]
  · intro x hx
    rcases List.mem_cons.1 hx with rfl | hx
    · have : parOf Mo' ⟨i, p, [], [], []⟩ = some (Mo p).b := by unfold parOf; rw [if_neg hi0, e1 p hpi]
      rw [this, e2, kids_cons, noKids_iff.2 (noKids_new hT hi), if_neg (fun h => hpi h.2)]
      exact hf i p
    · rw [ep x hx, e1 _ (hxi x hx), kids_cons]
      obtain ⟨t1, t2⟩ := h.twoKeep hy hk hx
      by_cases he : x.id = p
      · rw [if_pos ⟨hi0, he.symm⟩, he]
        have : x = y := hT.inj hx hyC (he.trans hyp.symm)
        rw [this]
        exact (h.twoKeep hy hk hyC).2 hyp _ _ hb
      · rw [if_neg (fun h => he h.2.symm)]
        exact t1 he
  · intro x hx
    rcases List.mem_cons.1 hx with rfl | hx
    · rw [e2]
      refine ⟨?_, ?_, ?_, ?_, ?_, fun g hg => by simp [newMem] at hg⟩
      · show L' (n + 4) = _
        simp [L']
      · show L' n = _
        simp [L']
      · show L' (n + 1) = _
        simp [L']
      · show L' (n + 2) = _
        simp [L']
      · show L' (n + 3) = _
        simp [L']
    · rw [e1 _ (hxi x hx)]
      have hl := h.lab x hx
      exact ⟨l2 _ _ hl.b, l2 _ _ hl.mw, l2 _ _ hl.ml, l2 _ _ hl.mv, l2 _ _ hl.mq, fun g hg => l2 _ _ (hl.row g hg)⟩
  · intro g hg
    by_cases h5 : g < n
    · rw [l1 g h5] at hg
      exact List.mem_append_right _ (h.inF g hg)
    · by_cases h6 : g < n + 5
      · refine List.mem_append_left _ ?_
        simp only [List.mem_cons, List.not_mem_nil, or_false]
        omega
      · have : L' g = L g := by
          simp only [L']
          rw [if_neg (by omega), if_neg (by omega), if_neg (by omega), if_neg (by omega), if_neg (by omega)]
        rw [this] at hg
        exact List.mem_append_right _ (h.inF g hg)
  · intro x hx q l hl g hg
    rcases List.mem_cons.1 hx with rfl | hx
    · cases hl
    · rw [e1 _ (hxi x hx)] at hg
      exact h.inG x hx q l hl g hg
  · intro g hg
    rcases List.mem_append.1 hg with hg | hg
    · simp only [List.mem_cons, List.not_mem_nil, or_false] at hg
      omega
    · exact Nat.lt_of_lt_of_le (h.ltF g hg) hk.size
  · intro g hg hgF
    rcases List.mem_append.1 hgF with h1 | h1
    · have := h.ltG g hg
      simp only [List.mem_cons, List.not_mem_nil, or_false] at h1
      omega
    · exact h.apart g hg h1
theorem RepM.dropped (h : RepM w c m Mo L F G C) (hT : Tree C) {i : Int} {x y : One} (hx : find C i = some x) (h0 : i ≠ 0) (hy : find C x.par = some y) (hk : Keeps [(Mo x.par).b, m] w w')
    (hb : Blk w' (Mo x.par).b 77 #[pv (parOf Mo y), .int .i64 (kids C x.par - 1 : Nat), .map (some (Mo x.par).mw), .map (some (Mo x.par).ml), (Mo x.par).row, .map (some (Mo x.par).mv), .map (some (Mo x.par).mq)])
    (hall : GMap kI eP w' m C.length (updG (fun j => if has C j = true then some (Mo j).b else none) i none)) : RepM w' c m Mo L F G (dropP C i) := by
  obtain ⟨hyC, hyp⟩ := find_mem hy
  have hsub : ∀ z ∈ dropP C i, z ∈ C ∧ z.id ≠ i := fun z hz => by
    obtain ⟨h1, h2⟩ := List.mem_filter.1 hz
    exact ⟨h1, by simpa using h2⟩
  refine ⟨?_, ?_, ?_, fun z hz => h.lab z (hsub z hz).1, h.lc, h.lm, h.inF, fun z hz => h.inG z (hsub z hz).1, fun g hg => Nat.lt_of_lt_of_le (h.ltF g hg) hk.size, fun g hg => Nat.lt_of_lt_of_le (h.ltG g hg) hk.size, h.apart⟩
  · exact h.cb.keep hk (fun hc => by
      simp only [List.mem_cons, List.not_mem_nil, or_false] at hc
      rcases hc with hc | hc
      · have := (h.at_ hy).2.b
        rw [← hc, h.lc] at this
        injection this with this
        injection this with _ this
        omega
      · have := h.lm
        rw [← hc, h.lc] at this
        injection this with this
        injection this with _ this
        omega)
  · have e : ∀ j, (if has (dropP C i) j = true then some (Mo j).b else none) = updG (fun j => if has C j = true then some (Mo j).b else none) i none j := fun j => by
      unfold updG
      rw [has_drop]
      by_cases hj : j = i <;> simp [hj]
    have h1 := hall.congr (g := fun j => if has (dropP C i) j = true then some (Mo j).b else none) (fun j _ => e j)
    have h2 := h1.fit Tryz.underlying63 ((dropP C i).map (·.id)) (fun j _ hj => by
      by_cases hh : has (dropP C i) j = true
      · obtain ⟨z, hz, hzj⟩ := has_iff.1 hh
        exact List.mem_map.2 ⟨z, hz, hzj⟩
      · rw [if_neg hh] at hj; cases hj)
    rwa [List.length_map] at h2
  · intro z hz
    obtain ⟨hzC, hzi⟩ := hsub z hz
    have hkd := kids_drop hT hx h0 z.id
    obtain ⟨t1, t2⟩ := h.twoKeep hy hk hzC
    by_cases he : z.id = x.par
    · rw [if_pos he.symm] at hkd
      have e3 : kids (dropP C i) z.id = kids C x.par - 1 := by rw [← he]; omega
      have : z = y := hT.inj hzC hyC (he.trans hyp.symm)
      rw [e3, he, this]
      exact (h.twoKeep hy hk hyC).2 hyp _ _ hb
    · rw [if_neg (Ne.symm he), Nat.add_zero] at hkd
      rw [← hkd]
      exact t1 he
end
end Go.Proofs.YtbllmpcpfmlemaaGreat
