/- Texts of the elder seat, turned to this one: W14 W15. -/
import Derived.Test.YtbllmpcpfmlemaaGreatMH
namespace Go.Proofs.YtbllmpcpfmlemaaGreat
open Go.RowKit
section
variable {w : World} {c m : Nat} {Mo : Int → Mem} {L : Nat → Option (Int × Nat)} {F G : List Nat} {C : St} {P : List Str}
theorem RepM.notedCell {w' : World} (h : RepM w c m Mo L F G C) (hT : Tree C) {i : Int} {x : One} (hx : find C i = some x) {k v : Str} {row : Value} (o : OneAt w' { Mo i with row := row } (parOf Mo x) (kids C i) (addRd (.cell k v) x))
    (hk : Keeps ((Mo i).b :: (Mo i).mv :: fp (Mo i).row) w w') (hf : ∀ g ∈ fp row, g ∈ fp (Mo i).row ∨ w.heap.size ≤ g) : StepOn i w w' c m Mo F G (upd C i (addRd (.cell k v))) := by
  obtain ⟨hxC, hxi⟩ := find_mem hx
  have hsub : ∀ b ∈ (Mo i).b :: (Mo i).mv :: fp (Mo i).row, b ∈ (Mo i).blocks := by
    intro b hb
    simp only [List.mem_cons] at hb
    simp only [Mem.blocks, List.mem_cons]
    rcases hb with h | h | h
    · exact .inl h
    · exact .inr (.inr (.inr (.inl h)))
    · exact .inr (.inr (.inr (.inr (.inr h))))
  obtain ⟨L', hr⟩ := h.turn (N := []) hT hx (g := addRd (.cell k v)) (fun _ => rfl) (fun _ => rfl) hk (fun b hb => .inl (hsub b hb)) row (Mo i).sl hf (fun b hb => own_lt o.o hb) (by simp)
    (fun p l hl b hb => .inl (by
      rcases List.mem_append.1 (show _ ∈ x.rd ++ [_] from hl) with h1 | h1
      · exact h.inG x hxC p l h1 b (by rw [hxi]; exact hb)
      · simp at h1)) o
  exact ⟨row, (Mo i).sl, L', _, _, hr, more_row h hx hf, More.refl _ _, hf, hk.mono hsub⟩
theorem RepM.notedKeys {w1 w' : World} (h : RepM w c m Mo L F G C) (hT : Tree C) {i : Int} {x : One} (hx : find C i = some x) {p : Str} {v : List Str} {u : SlV} {row : Value} (k1 : Keeps [] w w1) (g1 : ∀ g ∈ fp u.v, w.heap.size ≤ g)
    (o : OneAt w' { Mo i with row := row, sl := slSet (Mo i).sl p u } (parOf Mo x) (kids C i) (addRd (.keys p v) x)) (hk : Keeps ((Mo i).b :: (Mo i).mq :: fp (Mo i).row) w1 w') (hf : ∀ g ∈ fp row, g ∈ fp (Mo i).row ∨ w1.heap.size ≤ g) :
    StepOn i w w' c m Mo F G (upd C i (addRd (.keys p v))) := by
  obtain ⟨hxC, hxi⟩ := find_mem hx
  have hf' : ∀ g ∈ fp row, g ∈ fp (Mo i).row ∨ w.heap.size ≤ g := fun g hg => (hf g hg).imp id (fun h => Nat.le_trans k1.size h)
  have hsub : ∀ b ∈ (Mo i).b :: (Mo i).mq :: fp (Mo i).row, b ∈ (Mo i).blocks := by
    intro b hb
    simp only [List.mem_cons] at hb
    simp only [Mem.blocks, List.mem_cons]
    rcases hb with h | h | h
    · exact .inl h
    · exact .inr (.inr (.inr (.inr (.inl h))))
    · exact .inr (.inr (.inr (.inr (.inr h))))
  have KT : Keeps (Mo i).blocks w w' := (k1.mono (by simp)).trans (hk.mono hsub) (fun g hg => .inl hg)
  have hown := o.s p v (List.mem_append_right _ (by simp))
  have e2 : slSet (Mo i).sl p u p = u := if_pos rfl
  have hown' : w'.ownsRow 0 9 1 u.v v.length (v.map sv) := by
    have := hown
    rw [show ({ Mo i with row := row, sl := slSet (Mo i).sl p u } : Mem).sl p = u from e2] at this
    exact this
  obtain ⟨L', hr⟩ := h.turn (N := fp u.v) hT hx (g := addRd (.keys p v)) (fun _ => rfl) (fun _ => rfl) KT (fun b hb => .inl hb) row (slSet (Mo i).sl p u) hf' (fun b hb => own_lt o.o hb)
    (fun b hb => ⟨g1 b hb, own_lt hown' hb, own_apart hown' o.o (by decide) b hb⟩)
    (fun q l hl b hb => by
      by_cases hq : q = p
      · subst hq
        rw [e2] at hb
        exact .inr hb
      · rcases List.mem_append.1 (show _ ∈ x.rd ++ [_] from hl) with h1 | h1
        · rw [show slSet (Mo i).sl p u q = (Mo i).sl q from if_neg hq] at hb
          exact .inl (h.inG x hxC q l h1 b (by rw [hxi]; exact hb))
        · rw [List.mem_singleton] at h1
          injection h1 with h1 _
          exact absurd h1 hq) o
  refine ⟨row, slSet (Mo i).sl p u, L', _, _, hr, more_row h hx hf', ⟨fun g hg => List.mem_append_right _ hg, fun g hg => ?_⟩, hf', KT⟩
  rcases List.mem_append.1 hg with h1 | h1
  · exact .inr (g1 g h1)
  · exact .inl h1
theorem Turned.before {w1 w2 : World} {D : St} (hk : Keeps [] w w1) (h : Turned w1 w2 c F G D) : Turned w w2 c F G D := by
  obtain ⟨F', G', h1, h2, h3, h4⟩ := h
  have hs := hk.size
  exact ⟨F', G', h1, ⟨h2.1, fun g hg => (h2.2 g hg).imp id (fun h => by omega)⟩, ⟨h3.1, fun g hg => (h3.2 g hg).imp id (fun h => by omega)⟩, (hk.mono (by simp)).trans h4 (fun g hg => .inl hg)⟩
end
section
variable {w : World} {c : Nat} {F G : List Nat} {C : St} {P : List Str}
set_option maxRecDepth 100000 in
set_option maxHeartbeats 3200000 in
theorem noteOp_any (h : Cs w c F G C) (hW : WF P C) (hP : PoolOk P) {i : Int} (hi : I64 i) (kd : Int) (ky vl : Str) (ls : List Str) (A : Option Addr) (cc : Nat) (hA : AtS w A ls) (hk : ky ∈ P) :
    Calls Tryz.prog 45 #[.pointer (some ⟨c, 0, none⟩), .int .i64 i, .agg #[.int .i64 kd, sv ky, sv vl, .slice A ls.length cc]] w fun e w' => e = .returned (.tuple #[]) ∧ Turned w w' c F G (noteP C i ⟨kd, ky, vl, ls⟩) := by
  obtain ⟨m, Mo, L, h⟩ := h
  have hok := hP.k ky hk
  have KA : Keeps [] w (w.alloc (.cells #[.int .i64 kd, sv ky, sv vl, .slice A ls.length cc] 34)) := (Keeps.refl [] w).alloc _
  have BA := Blk.new w 34 #[.int .i64 kd, sv ky, sv vl, .slice A ls.length cc]
  have HA := Lib.hid (hA.keep KA)
  have h1 := h.keep0 KA
  have fin : ∀ (w' : World) (D : St), Turned (w.alloc (.cells #[.int .i64 kd, sv ky, sv vl, .slice A ls.length cc] 34)) w' c F G D → Turned w w' c F G D := fun _ _ ht => ht.before KA
  have FIN := Lib.hid fin
  have BAH := Lib.hid BA
  clear h fin hA
  have b0 := BA.cell 0
  have b1 := BA.cell 1
  have b2 := BA.cell 2
  have b3 := BA.cell 3
  clear BA
  go_enter Tryz.func45, Tryz.ntmps45
  go_upto_region 1 with fail
  generalize w.alloc (.cells #[.int .i64 kd, sv ky, sv vl, .slice A ls.length cc] 34) = w1 at KA BAH HA h1 FIN b0 b1 b2 b3 ⊢
  generalize w.heap.size = rb at BAH b0 b1 b2 b3 ⊢
  have b0' : w1.cell? ⟨rb, 0, none⟩ = some (.int .i64 kd) := b0
  have b1' : w1.cell? ⟨rb, 1, none⟩ = some (sv ky) := b1
  have b2' : w1.cell? ⟨rb, 2, none⟩ = some (sv vl) := b2
  have b3' : w1.cell? ⟨rb, 3, none⟩ = some (.slice A ls.length cc) := b3
  clear b0 b1 b2 b3 KA
  have f0 : w1.cell? ⟨c, 0, none⟩ = some (.map (some m)) := h1.cb.cell 0
  have l0 := h1.look hi.1 hi.2
  have HN : Hid (noteP C i ⟨kd, ky, vl, ls⟩ = match find C i with
    | none => C
    | some x => if x.id = 0 then C else if kd = 0 then (if opn x ky then upd C i (addRd (.cell ky vl)) else C)
      else if kd = 1 then (if keysOf x.rd ky = none ∧ proper ky ls = true then upd C i (addRd (.keys ky ls)) else C) else C) := Lib.hid rfl
  cases hh : has C i with
  | false =>
    have e0 : noteP C i ⟨kd, ky, vl, ls⟩ = C := by rw [HN.out, find_none.2 hh]
    have E0 := Lib.hid e0
    simp only [hh] at l0
    have l0' : (Instr.lookup 63 (.map (some m)) (.int .i64 i) false).run Tryz.prog w1 = .ok (.pointer none) w1 := l0
    have HR := Lib.hid h1
    clear h1 l0 hh hi HN e0
    go_wp2_with fail
    refine bodyPost_ret (results_none rfl _ _ _) rfl ?_
    rw [E0.out]
    exact ⟨rfl, FIN.out _ _ (Turned.same ⟨m, Mo, L, HR.out⟩ (Keeps.refl _ _))⟩
  | true =>
    obtain ⟨x, hx⟩ := has_find hh
    obtain ⟨o, hl⟩ := h1.at_ hx
    obtain ⟨hxC, hxi⟩ := find_mem hx
    simp only [hh, if_true] at l0
    have l0' : (Instr.lookup 63 (.map (some m)) (.int .i64 i) false).run Tryz.prog w1 = .ok (.pointer (some ⟨(Mo i).b, 0, none⟩)) w1 := l0
    have g0 : w1.cell? ⟨(Mo i).b, 0, none⟩ = some (pv (parOf Mo x)) := o.b.cell 0
    have HR := Lib.hid h1
    have HX := Lib.hid hx
    have HW := Lib.hid hW
    have HP := Lib.hid hP
    have HO := Lib.hid o
    have HL := Lib.hid hl
    have hop := open_any o parOf_iff ky hok
    have g6 : w1.cell? ⟨(Mo i).b, 6, none⟩ = some (.map (some (Mo i).mq)) := o.b.cell 6
    have l6 := o.k.look hok Tryz.underlying75 (zero27 w1)
    clear h1 l0 hh hi o hl
    by_cases hz : x.id = 0
    · have e0 : noteP C i ⟨kd, ky, vl, ls⟩ = C := by rw [HN.out, hx]; dsimp only; rw [if_pos hz]
      have E0 := Lib.hid e0
      rw [parOf_iff.2 hz] at g0
      have g0' : w1.cell? ⟨(Mo i).b, 0, none⟩ = some (.pointer none) := g0
      clear g0 hop l6 HN e0 hx hW hz
      go_wp2_with fail
      refine bodyPost_ret (results_none rfl _ _ _) rfl ?_
      rw [E0.out]
      exact ⟨rfl, FIN.out _ _ (Turned.same ⟨m, Mo, L, HR.out⟩ (Keeps.refl _ _))⟩
    · have hpp : parOf Mo x = some (Mo x.par).b := by unfold parOf; rw [if_neg hz]
      rw [hpp] at g0
      have g0' : w1.cell? ⟨(Mo i).b, 0, none⟩ = some (.pointer (some ⟨(Mo x.par).b, 0, none⟩)) := g0
      clear g0 hpp
      by_cases hk0 : kd = 0
      · subst hk0
        cases ho : opn x ky with
        | false =>
          have e0 : noteP C i ⟨0, ky, vl, ls⟩ = C := by rw [HN.out, hx]; dsimp only; rw [if_neg hz, if_pos rfl, ho]; rfl
          have E0 := Lib.hid e0
          rw [ho] at hop
          clear l6 HN e0 hx hW hz ho
          go_wp2_with fail
          refine hop.mono ?_
          rintro e w2 ⟨rfl, rfl⟩
          go_wp2_with fail
          go_end0
          rw [E0.out]
          exact ⟨rfl, FIN.out _ _ (Turned.same ⟨m, Mo, L, HR.out⟩ (Keeps.refl _ _))⟩
        | true =>
          have e0 : noteP C i ⟨0, ky, vl, ls⟩ = upd C i (addRd (.cell ky vl)) := by rw [HN.out, hx]; dsimp only; rw [if_neg hz, if_pos rfl, ho]; rfl
          have E0 := Lib.hid e0
          rw [ho] at hop
          have hrd := rd_le hW hP hxC
          have hnote := noteCell_any HO.out HL.out (by omega) ky vl hok (opn_iff.1 ho).2.2
          clear l6 HN e0 hx hW hz ho hrd
          go_wp2_with fail
          refine hop.mono ?_
          rintro e w2 ⟨rfl, rfl⟩
          go_wp2_with fail
          refine hnote.mono ?_
          rintro e w3 ⟨rfl, row, o2, k2, f2⟩
          have HS := Lib.hid (HR.out.notedCell HW.out.tree HX.out o2 k2 f2)
          clear o2 k2 f2
          go_wp2_with fail
          go_end0
          rw [E0.out]
          exact ⟨rfl, FIN.out _ _ (HR.out.turned HX.out HS.out)⟩
      · by_cases hk1 : kd = 1
        · subst hk1
          clear hop
          cases hc : keysOf x.rd ky with
          | some v =>
            have e0 : noteP C i ⟨1, ky, vl, ls⟩ = C := by rw [HN.out, hx]; dsimp only; rw [if_neg hz, if_neg hk0, if_pos rfl, if_neg (fun h => by rw [hc] at h; cases h.1)]
            have E0 := Lib.hid e0
            rw [hc] at l6
            obtain ⟨vv, hvv⟩ : ∃ vv, (Option.map eL.val (Option.map (fun _ => (Mo i).sl ky) (some v))).getD (Value.slice none 0 0) = vv := ⟨_, rfl⟩
            rw [hvv] at l6
            have l6' : (Instr.lookup 75 (.map (some (Mo i).mq)) (sv ky) true).run Tryz.prog w1 = .ok (.tuple #[vv, .bool true]) w1 := l6
            have S8 : ∀ W, Keeps [] w1 W → Blk W rb 34 #[.int .i64 1, sv ky, sv vl, .slice A ls.length cc] ∧ W.cell? ⟨(Mo i).b, 6, none⟩ = some (.map (some (Mo i).mq)) ∧ (Instr.lookup 75 (.map (some (Mo i).mq)) (sv ky) true).run Tryz.prog W = .ok (.tuple #[((Mo i).sl ky).v, .bool true]) W := fun W hK => by
              have oW := (HO.out.k.keep hK (by simp)).look hok Tryz.underlying75 (zero27 W)
              rw [hc] at oW
              exact ⟨BAH.out.keep hK (by simp), (hK.cell (p := ⟨(Mo i).b, 6, none⟩) HO.out.b.lt (by simp)).trans (HO.out.b.cell 6), oW⟩
            have HS8 := Lib.hid S8
            clear S8
            obtain ⟨vv, hvv⟩ : ∃ vv, ((Mo i).sl ky).v = vv := ⟨_, rfl⟩
            rw [hvv] at HS8
            clear l6 HN e0 hx hW hz hc hvv
            go_upto_region 8 with fail
            refine note8_any w1 c (Mo i).b rb (Mo i).mq _ _ ky A ls cc vv true _ HS8.out _ _ _ _ _ _ _ _ _ _ _ _ _ _ _ _ _ _ _ _ _ _ _ _ _ _ _ _ _ _ _ _ _ _ _ _ _ _ _ _ _ _ _ _ _ _ _ _ _ _ _ _ _ _ _ _ _ _ _ _ _ _ _ _ _ ?_
            intro v41 v42 v43 v44 v45 v46 v47 v48 v49 v50 w2 k2
            have HR2 := Lib.hid (HR.out.keep0 k2)
            have K2 := Lib.hid k2
            clear HS8 k2
            go_wp2_with fail
            go_end0
            rw [E0.out]
            exact ⟨rfl, FIN.out _ _ (Turned.same ⟨m, Mo, L, HR2.out⟩ (K2.out.mono (by simp)))⟩
          | none =>
            have S8 : ∀ W, Keeps [] w1 W → Blk W rb 34 #[.int .i64 1, sv ky, sv vl, .slice A ls.length cc] ∧ W.cell? ⟨(Mo i).b, 6, none⟩ = some (.map (some (Mo i).mq)) ∧ (Instr.lookup 75 (.map (some (Mo i).mq)) (sv ky) true).run Tryz.prog W = .ok (.tuple #[.slice none 0 0, .bool false]) W := fun W hK => by
              have oW := (HO.out.k.keep hK (by simp)).look hok Tryz.underlying75 (zero27 W)
              rw [hc] at oW
              exact ⟨BAH.out.keep hK (by simp), (hK.cell (p := ⟨(Mo i).b, 6, none⟩) HO.out.b.lt (by simp)).trans (HO.out.b.cell 6), oW⟩
            have HS8 := Lib.hid S8
            clear S8
            clear l6
            cases hp : proper ky ls with
            | false =>
              have e0 : noteP C i ⟨1, ky, vl, ls⟩ = C := by rw [HN.out, hx]; dsimp only; rw [if_neg hz, if_neg hk0, if_pos rfl, if_neg (fun h => by rw [hp] at h; cases h.2)]
              have E0 := Lib.hid e0
              have hprop := fun (W : World) (h : AtS W A ls) => proper_any W ky A ls cc h
              rw [hp] at hprop
              clear HN e0 hx hW hz hc hp
              go_upto_region 8 with fail
              refine note8_any w1 c (Mo i).b rb (Mo i).mq _ _ ky A ls cc _ false _ HS8.out _ _ _ _ _ _ _ _ _ _ _ _ _ _ _ _ _ _ _ _ _ _ _ _ _ _ _ _ _ _ _ _ _ _ _ _ _ _ _ _ _ _ _ _ _ _ _ _ _ _ _ _ _ _ _ _ _ _ _ _ _ _ _ _ _ ?_
              intro v41 v42 v43 v44 v45 v46 v47 v48 v49 v50 w2 k2
              have HR2 := Lib.hid (HR.out.keep0 k2)
              have K2 := Lib.hid k2
              have B2 := BAH.out.keep k2 (by simp)
              have c1 : w2.cell? ⟨rb, 1, none⟩ = some (sv ky) := B2.cell 1
              have c3 : w2.cell? ⟨rb, 3, none⟩ = some (.slice A ls.length cc) := B2.cell 3
              have hpw := hprop w2 (HA.out.keep k2)
              clear HS8 k2 B2 hprop
              go_wp2_with fail
              refine hpw.mono ?_
              rintro e w3 ⟨rfl, rfl⟩
              go_wp2_with fail
              go_end0
              rw [E0.out]
              exact ⟨rfl, FIN.out _ _ (Turned.same ⟨m, Mo, L, HR2.out⟩ (K2.out.mono (by simp)))⟩
            | true =>
              have e0 : noteP C i ⟨1, ky, vl, ls⟩ = upd C i (addRd (.keys ky ls)) := by rw [HN.out, hx]; dsimp only; rw [if_neg hz, if_neg hk0, if_pos rfl, if_pos ⟨hc, hp⟩]
              have E0 := Lib.hid e0
              have hprop := fun (W : World) (h : AtS W A ls) => proper_any W ky A ls cc h
              rw [hp] at hprop
              have hrd := rd_le hW hP hxC
              have HC := Lib.hid hc
              clear HN e0 hx hW hz hc hp
              go_upto_region 8 with fail
              refine note8_any w1 c (Mo i).b rb (Mo i).mq _ _ ky A ls cc _ false _ HS8.out _ _ _ _ _ _ _ _ _ _ _ _ _ _ _ _ _ _ _ _ _ _ _ _ _ _ _ _ _ _ _ _ _ _ _ _ _ _ _ _ _ _ _ _ _ _ _ _ _ _ _ _ _ _ _ _ _ _ _ _ _ _ _ _ _ ?_
              intro v41 v42 v43 v44 v45 v46 v47 v48 v49 v50 w2 k2
              have HR2 := Lib.hid (HR.out.keep0 k2)
              have K2 := Lib.hid k2
              have B2 := BAH.out.keep k2 (by simp)
              have BH2 := Lib.hid B2
              have HA2 := Lib.hid (HA.out.keep k2)
              have c1 : w2.cell? ⟨rb, 1, none⟩ = some (sv ky) := B2.cell 1
              have c3 : w2.cell? ⟨rb, 3, none⟩ = some (.slice A ls.length cc) := B2.cell 3
              have hpw := hprop w2 (HA.out.keep k2)
              clear HS8 k2 B2 hprop
              go_upto_region 9 with fail
              go_wp2_with fail
              refine hpw.mono ?_
              rintro e w3 ⟨rfl, rfl⟩
              go_upto_region 10 with fail
              have HN2 : Hid (∀ W As cs, Keeps [] w3 W → W.ownsRow 0 9 1 (.slice As ls.length cs) ls.length (vs ls) → (∀ g ∈ fp (.slice As ls.length cs), w3.heap.size ≤ g) → Calls Tryz.prog 80 #[.pointer (some ⟨(Mo i).b, 0, none⟩), .agg #[.int .i64 1, sv ky, .string ⟨#[]⟩, .slice As ls.length cs]] W fun e w' => e = .returned (.tuple #[]) ∧ StepOn i w3 w' c m Mo F G (upd C i (addRd (.keys ky ls)))) := Lib.hid (fun W As cs k3 o3 g3 => by
                obtain ⟨u, hu, -⟩ := own_slv o3
                rw [hu] at o3 g3 ⊢
                have hr := HR2.out.keep0 k3
                refine (noteKeys_any (hr.at_ HX.out).1 HL.out (by omega) ky ls u hok HC.out o3).mono ?_
                rintro e w4 ⟨rfl, row, o4, k4, f4⟩
                exact ⟨rfl, HR2.out.notedKeys HW.out.tree HX.out k3 g3 o4 k4 f4⟩)
              refine noteK_any w3 c (Mo i).b rb _ _ ky A ls cc (fun w' => StepOn i w3 w' c m Mo F G (upd C i (addRd (.keys ky ls)))) _ (fun W hW => BH2.out.keep hW (by simp)) (fun W hW => HA2.out.keep hW) HN2.out _ _ _ _ _ _ _ _ _ _ _ _ _ _ _ _ _ _ _ _ _ _ _ _ _ _ _ _ _ _ _ _ _ _ _ _ _ _ _ _ _ _ _ _ _ _ _ _ _ _ _ _ _ _ _ _ _ _ _ _ _ _ _ _ _ ?_
              intro v60 v61 v62 v63 v64 v65 v66 v67 w4 hs
              have HT := Lib.hid ((HR2.out.turned HX.out hs).before K2.out)
              clear hs
              go_wp2_with fail
              go_end0
              rw [E0.out]
              exact ⟨rfl, FIN.out _ _ HT.out⟩
        · have e0 : noteP C i ⟨kd, ky, vl, ls⟩ = C := by rw [HN.out, hx]; dsimp only; rw [if_neg hz, if_neg hk0, if_neg hk1]
          have E0 := Lib.hid e0
          clear l6 HN e0 hx hW hz hop
          go_wp2_with fail
          go_end0
          rw [E0.out]
          exact ⟨rfl, FIN.out _ _ (Turned.same ⟨m, Mo, L, HR.out⟩ (Keeps.refl _ _))⟩
end
end Go.Proofs.YtbllmpcpfmlemaaGreat
namespace Go.Proofs.YtbllmpcpfmlemaaGreat
open Go.RowKit
/-- Where one lies that was made when there were n blocks. -/
def newMem (n : Nat) : Mem := ⟨n + 4, n, n + 1, .slice none 0 0, n + 2, n + 3, fun _ => ⟨none, 0, 0⟩⟩
def FreshAt (w : World) (n : Nat) (pp : Option Nat) : Prop := ∀ i p, OneAt w (newMem n) pp 0 ⟨i, p, [], [], []⟩
theorem FreshAt.keep {K : List Nat} {w w' : World} {n : Nat} {pp : Option Nat} (h : FreshAt w n pp) (hk : Keeps K w w') (hK : ∀ g ∈ K, g < n ∨ n + 5 ≤ g) : FreshAt w' n pp := by
  intro i p
  refine (h i p).keep hk (fun g hg hgK => ?_) (fun _ _ hl => by cases hl)
  have := hK g hgK
  simp only [Mem.blocks, newMem, fp_none, List.mem_cons, List.not_mem_nil, or_false] at hg
  omega
theorem wpList_insG {kt : TypeId} {κ V : Type} {S : KeyS kt κ} {E : ElS V} {ops : Array Oper} {rest : List Oper} {o : Oper} {a : Act} {w : World} {Q : Exit → Act → World → Prop} (hg : o.guard = none) (hd : o.dst = none) (mo xo vo : Operand) (T : TypeId) (hop : o.op = Op.insert T mo xo vo)
    {e : TypeId} (ht : Tryz.prog.underlying T = some (.map kt e)) (b n : Nat) (f : κ → Option V) (hm : a.eval mo = .map (some b)) (h : GMap S E w b n f) (hn : n < maxLen) (x : κ) (v : V) (hx : a.eval xo = S.val x) (hv : a.eval vo = E.val v) (hok : S.ok x)
    (hK : ∀ w', GMap S E w' b (n + 1) (updG f x (some v)) → Keeps [b] w w' → wpList Tryz.prog ops Q rest a w') : wpList Tryz.prog ops Q (o :: rest) a w := by
  refine wpList_plain hg fun K' hK' => ?_
  obtain ⟨w', hrun, h', hk⟩ := h.upd v hok hn ht
  unfold Oper.wp
  simp [execOp, hop, hm, hx, hv, hrun, Result.andThen]
  refine hK' _ _ ?_
  rw [hd]
  exact hK w' h' hk
set_option maxRecDepth 100000 in
set_option maxHeartbeats 1600000 in
theorem fresh_any (w : World) (pp : Option Nat) :
    Calls Tryz.prog 41 #[pv pp] w fun e w' => e = .returned (.pointer (some ⟨w.heap.size + 4, 0, none⟩)) ∧ FreshAt w' w.heap.size pp ∧ Keeps [] w w' ∧ w'.heap.size = w.heap.size + 5 := by
  have hmm := @run_makeMap Tryz.prog
  have e0 : pv pp = .pointer (pp.map fun g => ⟨g, 0, none⟩) := rfl
  rw [e0]
  obtain ⟨q, hq⟩ : ∃ q : Option Addr, (pp.map fun g => (⟨g, 0, none⟩ : Addr)) = q := ⟨_, rfl⟩
  have HQ := Lib.hid hq
  rw [hq]
  clear hq e0
  go_enter Tryz.func41, Tryz.ntmps41
  go_wp2_with fail
  clear hmm
  go_ret
  obtain ⟨n, hn⟩ : ∃ n, w.heap.size = n := ⟨_, rfl⟩
  obtain ⟨w1, hw1⟩ : ∃ w1, w.alloc (.map #[] 0) = w1 := ⟨_, rfl⟩
  have m1 : GMap kS eS w1 n 0 (fun _ => none) := by rw [← hw1, ← hn]; exact GMap.made _
  have k1 : Keeps [] w w1 := by rw [← hw1]; exact (Keeps.refl [] w).alloc _
  have z1 : w1.heap.size = n + 1 := by rw [← hw1, ← hn]; simp
  obtain ⟨w2, hw2⟩ : ∃ w2, w1.alloc (.map #[] 0) = w2 := ⟨_, rfl⟩
  have m2 : GMap kS eS w2 (n + 1) 0 (fun _ => none) := by rw [← hw2, ← z1]; exact GMap.made _
  have k2 : Keeps [] w1 w2 := by rw [← hw2]; exact (Keeps.refl [] w1).alloc _
  have z2 : w2.heap.size = n + 2 := by rw [← hw2]; simp [z1]
  obtain ⟨w3, hw3⟩ : ∃ w3, w2.alloc (.map #[] 0) = w3 := ⟨_, rfl⟩
  have m3 : GMap kS eS w3 (n + 2) 0 (fun _ => none) := by rw [← hw3, ← z2]; exact GMap.made _
  have k3 : Keeps [] w2 w3 := by rw [← hw3]; exact (Keeps.refl [] w2).alloc _
  have z3 : w3.heap.size = n + 3 := by rw [← hw3]; simp [z2]
  obtain ⟨w4, hw4⟩ : ∃ w4, w3.alloc (.map #[] 0) = w4 := ⟨_, rfl⟩
  have m4 : GMap kS eL w4 (n + 3) 0 (fun _ => none) := by rw [← hw4, ← z3]; exact GMap.made _
  have k4 : Keeps [] w3 w4 := by rw [← hw4]; exact (Keeps.refl [] w3).alloc _
  have z4 : w4.heap.size = n + 4 := by rw [← hw4]; simp [z3]
  rw [hw1, hw2, hw3, hw4, hn]
  obtain ⟨w5, hw5⟩ : ∃ w5, w4.alloc (.cells #[.pointer q, .int .i64 0, .map (some n), .map (some (n + 1)), .slice none 0 0, .map (some (n + 2)), .map (some (n + 3))] 77) = w5 := ⟨_, rfl⟩
  have b5 : Blk w5 (n + 4) 77 #[.pointer q, .int .i64 0, .map (some n), .map (some (n + 1)), .slice none 0 0, .map (some (n + 2)), .map (some (n + 3))] := by rw [← hw5, ← z4]; exact Blk.new _ _ _
  have k5 : Keeps [] w4 w5 := by rw [← hw5]; exact (Keeps.refl [] w4).alloc _
  have z5 : w5.heap.size = n + 5 := by rw [← hw5]; simp [z4]
  have hw5' : w4.alloc (.cells #[.pointer q, .int .i64 0, .map (some n), .map (some (n + 1)), .slice none 0 0, .map (some (n + 1 + 1)), .map (some (n + 1 + 1 + 1))] 77) = w5 := hw5
  rw [hw5']
  refine ⟨rfl, fun i p => ⟨?_, ((m1.keep k2 (by simp)).keep k3 (by simp)).keep (k4.trans k5 (by simp)) (by simp), (m2.keep k3 (by simp)).keep (k4.trans k5 (by simp)) (by simp), World.ownsRow_nil _ _ _ _,
    m3.keep (k4.trans k5 (by simp)) (by simp), m4.keep k5 (by simp), by simp⟩, (((k1.trans k2 (by simp)).trans k3 (by simp)).trans k4 (by simp)).trans k5 (by simp), z5⟩
  have e : pv pp = .pointer q := by rw [← HQ.out]; rfl
  rw [e]
  exact b5
theorem assume_any {w : World} {c : Nat} {F G : List Nat} {C : St} {P : List Str} (h : Cs w c F G C) (hW : WF P C) (hP : PoolOk P) {i : Int} (hi : I64 i) (k v : Str) (hk : k ∈ P) :
    Calls Tryz.prog 44 #[.pointer (some ⟨c, 0, none⟩), .int .i64 i, sv k, sv v] w fun e w' => e = .returned (.tuple #[]) ∧ Turned w w' c F G (noteP C i ⟨0, k, v, []⟩) := by
  have hn := noteOp_any h hW hP hi 0 k v [] none 0 ⟨fun h => absurd h (by simp), by simp⟩ hk
  have hn' : Calls Tryz.prog 45 #[.pointer (some ⟨c, 0, none⟩), .int .i64 i, .agg #[.int .i64 0, sv k, sv v, .slice none 0 0]] w fun e w' => e = .returned (.tuple #[]) ∧ Turned w w' c F G (noteP C i ⟨0, k, v, []⟩) := hn
  clear hn h hW
  go_enter Tryz.func44, Tryz.ntmps44
  go_wp2_with fail
  refine hn'.mono ?_
  rintro e w1 ⟨rfl, ht⟩
  have HT := Lib.hid ht
  clear ht
  go_wp2_with fail
  go_end0
  exact ⟨rfl, HT.out⟩
/-- The cells are there. -/
theorem RepM.new0 {w : World} {c m n : Nat} (hc : Blk w c 65 #[.map (some m)]) (ha : GMap kI eP w m 1 (fun i => if i = 0 then some (n + 4) else none)) (hf : FreshAt w n none) (hl : ∀ g ∈ [c, m, n, n + 1, n + 2, n + 3, n + 4], g < w.heap.size) (hcm : c ≠ m) (hcn : c < n ∨ n + 5 ≤ c) (hmn : m < n ∨ n + 5 ≤ m) :
    Cs w c [c, m, n, n + 1, n + 2, n + 3, n + 4] [] new0 := by
  let L : Nat → Option (Int × Nat) := fun g => if g = n + 4 then some (0, 0) else if g = n then some (0, 1) else if g = n + 1 then some (0, 2) else if g = n + 2 then some (0, 3) else if g = n + 3 then some (0, 4) else if g = c then some (0, 6) else if g = m then some (0, 7) else none
  refine ⟨m, fun _ => newMem n, L, hc, ?_, ?_, ?_, ?_, ?_, ?_, ?_, hl, by simp, by simp⟩
  · refine ha.congr (fun i _ => ?_)
    have : Proofs.YtbllmpcpfmlemaaGreat.new0.any (fun x => decide (x.id = i)) = decide (i = 0) := by simp [Proofs.YtbllmpcpfmlemaaGreat.new0, eq_comm]
    show (if has Proofs.YtbllmpcpfmlemaaGreat.new0 i = true then some (n + 4) else none) = _
    unfold has
    rw [this]
    by_cases h : i = 0 <;> simp [h]
  · intro x hx
    rw [List.mem_singleton.1 hx]
    exact hf 0 0
  · intro x hx
    rw [List.mem_singleton.1 hx]
    refine ⟨?_, ?_, ?_, ?_, ?_, ?_⟩
    · show L (n + 4) = _
      simp [L]
    · show L n = _
      simp [L]
    · show L (n + 1) = _
      simp [L]
    · show L (n + 2) = _
      simp [L]
    · show L (n + 3) = _
      simp [L]
    · intro g hg
      simp [newMem] at hg
  · show L c = _
    simp only [L]
    rw [if_neg (by omega), if_neg (by omega), if_neg (by omega), if_neg (by omega), if_neg (by omega), if_pos trivial]
  · show L m = _
    simp only [L]
    rw [if_neg (by omega), if_neg (by omega), if_neg (by omega), if_neg (by omega), if_neg (by omega), if_neg (Ne.symm hcm), if_pos trivial]
  · intro g hg
    simp only [L] at hg
    simp only [List.mem_cons]
    repeat' split at hg
    all_goals first | (subst_vars; simp; done) | cases hg
  · intro x hx p l hl
    rw [List.mem_singleton.1 hx] at hl
    cases hl
set_option maxRecDepth 100000 in
set_option maxHeartbeats 1600000 in
theorem new_any (w : World) : Calls Tryz.prog 8 #[] w fun e w' => ∃ c F, e = .returned (.pointer (some ⟨c, 0, none⟩)) ∧ Cs w' c F [] new0 ∧ (∀ g ∈ F, w.heap.size ≤ g) ∧ Keeps [] w w' := by
  have hmm := @run_makeMap Tryz.prog
  have m1 := GMap.made (S := kI) (E := eP) w
  have k1 : Keeps [] w (w.alloc (.map #[] 0)) := (Keeps.refl [] w).alloc _
  have z1 : (w.alloc (.map #[] 0)).heap.size = w.heap.size + 1 := by simp
  have hf := fresh_any (w.alloc (.map #[] 0)) none
  rw [pv_none] at hf
  have M1 := Lib.hid m1
  have K1 := Lib.hid k1
  have Z1 := Lib.hid z1
  clear m1 k1 z1
  go_enter Tryz.func8, Tryz.ntmps8
  go_wp2_with fail
  clear hmm
  refine hf.mono ?_
  rintro e w2 ⟨rfl, f2, k2, z2⟩
  rw [Z1.out] at f2 z2 ⊢
  have F2 := Lib.hid f2
  have Z2 := Lib.hid z2
  have K2 := Lib.hid (K1.out.trans k2 (by simp))
  have M2 := Lib.hid (M1.out.keep k2 (by simp))
  clear hf f2 z2 k2 M1 K1 Z1
  obtain ⟨n, hn⟩ : ∃ n, w.heap.size = n := ⟨_, rfl⟩
  rw [hn] at F2 Z2 M2 ⊢
  have HN := Lib.hid hn
  clear hn
  go_wp2_with (refine wpList_insG rfl rfl _ _ _ 63 rfl Tryz.underlying63 n 0 _ rfl M2.out (by unfold maxLen; omega) (0 : Int) (n + 1 + 4) rfl rfl (kI_ok (by omega) (by omega)) ?_; intro w3 m3 k3)
  have hz3 : w3.heap.size ≥ n + 6 := by have := k3.size; have := Z2.out; omega
  have ba := Blk.new w3 65 #[.map (some n)]
  have ka : Keeps [] w3 (w3.alloc (.cells #[.map (some n)] 65)) := (Keeps.refl [] w3).alloc _
  have za : (w3.alloc (.cells #[.map (some n)] 65)).heap.size = w3.heap.size + 1 := by simp
  have hf4 : FreshAt (w3.alloc (.cells #[.map (some n)] 65)) (n + 1) none := F2.out.keep (k3.trans ka (by simp)) (fun g hg => by rw [List.mem_singleton.1 hg]; omega)
  have hm4 : GMap kI eP (w3.alloc (.cells #[.map (some n)] 65)) n 1 (fun i => if i = 0 then some (n + 1 + 4) else none) := (m3.keep ka (by simp)).congr (fun i _ => by unfold updG; by_cases h : i = 0 <;> simp [h])
  have kw : Keeps [] w (w3.alloc (.cells #[.map (some n)] 65)) := (K2.out.trans k3 (fun g hg => .inr (by rw [List.mem_singleton.1 hg, HN.out]; exact Nat.le_refl _))).trans ka (by simp)
  have hwn := HN.out
  clear m3 k3
  go_ret
  generalize w3.alloc (.cells #[.map (some n)] 65) = w4 at *
  refine ⟨w3.heap.size, _, rfl, RepM.new0 ba hm4 hf4 (fun g hg => ?_) (by omega) (by omega) (by omega), fun g hg => ?_, kw⟩
  · simp only [List.mem_cons, List.not_mem_nil, or_false] at hg
    omega
  · simp only [List.mem_cons, List.not_mem_nil, or_false] at hg
    omega
end Go.Proofs.YtbllmpcpfmlemaaGreat
