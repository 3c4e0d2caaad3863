/- The reference: remove, removeLine. -/
import Derived.Test.YtcopjjokhjealaaGreatN7
import Derived.Test.YtcopjjokhjealaaGreatN8
namespace Go.Proofs.YtcopjjokhjealaaGreat
open Go.RowKit

/-- The reference's planner, its items' rows below B. -/
def QB (w : World) (G : List Nat) (q : Nat) (s : Pl) (nl nc B : Nat) : Prop := ∃ LV C A1 A2 A3 c1 c2 c3, QAt w G q s LV C A1 A2 A3 c1 c2 c3 ∧ LV.length ≤ nl ∧ C.length ≤ nc ∧ ∀ v ∈ LV, ∀ g, v.b = some g → g < B
def QM (w w' : World) (G : List Nat) (q : Nat) (s : Pl) (nl nc B : Nat) : Prop := ∃ G', QB w' G' q s nl nc B ∧ Keeps [q] w w' ∧ ∀ g ∈ G', g ∈ G ∨ w.heap.size ≤ g
theorem QR.toB {w : World} {G : List Nat} {q : Nat} {s : Pl} {nl nc : Nat} (h : QR w G q s nl nc) : QB w G q s nl nc w.heap.size := by
  obtain ⟨LV, C, A1, A2, A3, c1, c2, c3, h, h1, h2⟩ := h
  refine ⟨LV, C, A1, A2, A3, c1, c2, c3, h, h1, h2, fun v hv g hg => ?_⟩
  obtain ⟨n, _, e1, e2, e3, e4, e5⟩ := h.ls v hv
  rw [hg] at e5
  exact own_lt e5 (by simp [fp, Value.ownBlock])
theorem QB.toR {w : World} {G : List Nat} {q : Nat} {s : Pl} {nl nc B : Nat} (h : QB w G q s nl nc B) : QR w G q s nl nc := by
  obtain ⟨LV, C, A1, A2, A3, c1, c2, c3, h, h1, h2, -⟩ := h
  exact ⟨LV, C, A1, A2, A3, c1, c2, c3, h, h1, h2⟩
theorem QM.toN {w w' : World} {G : List Nat} {q : Nat} {s : Pl} {nl nc B : Nat} (h : QM w w' G q s nl nc B) : QN w w' G q s nl nc := by
  obtain ⟨G', h, k, f⟩ := h
  exact ⟨G', h.toR, k, f⟩
theorem QAt.keepB {w w' : World} {G H : List Nat} {q B : Nat} {s : Pl} {LV : List LnV} {C : List Ct} {A1 A2 A3 : Option Addr} {c1 c2 c3 : Nat} (h : QAt w G q s LV C A1 A2 A3 c1 c2 c3) (hB : ∀ v ∈ LV, ∀ g, v.b = some g → g < B) (hk : Keeps H w w') (hd : ∀ g ∈ G, g ∉ H) (hG : ∀ g ∈ H, B ≤ g ∨ ¬ IntRow w g) : QAt w' G q s LV C A1 A2 A3 c1 c2 c3 := by
  have hf := h.fG
  refine ⟨hf, h.b.keep hk (hd q (by rw [hf]; simp)), own_keep h.o1 hk (fun g hg => hd g (by rw [hf]; simp [hg])), own_keep h.o2 hk (fun g hg => hd g (by rw [hf]; simp [hg])), own_keep h.o3 hk (fun g hg => hd g (by rw [hf]; simp [hg])), h.as1, fun v hv => ?_, h.lc, h.as3, h.cs, h.cc⟩
  obtain ⟨n, h1, h3, h4, h5, h6, h7⟩ := h.ls v hv
  refine ⟨n, h1, h3, h4, h5, h6, own_keep h7 hk (fun g hg hgG => ?_)⟩
  have hi := own_int h7 g hg
  rcases hG g hgG with h | h
  · cases hb : v.b with
    | none => rw [hb] at hg; simp at hg
    | some g' =>
      rw [hb] at hg
      have e : g = g' := by simpa using hg
      have := hB v hv g' hb
      omega
  · exact h hi
theorem QB.keep {w w' : World} {G H : List Nat} {q : Nat} {s : Pl} {nl nc B : Nat} (h : QB w G q s nl nc B) (hk : Keeps H w w') (hd : ∀ g ∈ G, g ∉ H) (hG : ∀ g ∈ H, B ≤ g ∨ ¬ IntRow w g) : QB w' G q s nl nc B := by
  obtain ⟨LV, C, A1, A2, A3, c1, c2, c3, h, h1, h2, h3⟩ := h
  exact ⟨LV, C, A1, A2, A3, c1, c2, c3, h.keepB h3 hk hd hG, h1, h2, h3⟩
theorem QB.keep0 {w w' : World} {G : List Nat} {q : Nat} {s : Pl} {nl nc B : Nat} (h : QB w G q s nl nc B) (hk : Keeps [] w w') : QB w' G q s nl nc B := h.keep hk (fun _ _ => by simp) (fun _ hg => by cases hg)
/-- It stands while a row of numbers of another is written. -/
theorem QB.keepI {w w' : World} {G : List Nat} {q : Nat} {s : Pl} {nl nc B n : Nat} {v : Value} {xs : List Value} (h : QB w G q s nl nc B) (ho : w.ownsRow 0 3 1 v n xs) (hf : ∀ g ∈ fp v, B ≤ g) (hk : Keeps (fp v) w w') : QB w' G q s nl nc B := by
  refine h.keep hk (fun g hg hv => ?_) (fun g hg => .inl (hf g hg))
  obtain ⟨LV, C, A1, A2, A3, c1, c2, c3, h, -⟩ := h
  exact h.noInt g hg (own_int ho g hv)
theorem QB.lt {w : World} {G : List Nat} {q : Nat} {s : Pl} {nl nc B : Nat} (h : QB w G q s nl nc B) : q < w.heap.size := by
  obtain ⟨LV, C, A1, A2, A3, c1, c2, c3, h, -⟩ := h
  exact h.b.lt
/-- The lines of a trial. -/
def idsOf (LV : List LnV) (t : Int) : List Int := (LV.filter (fun v => decide (v.par = t))).map (·.id)
theorem idsOf_take {LV : List LnV} {t : Int} {j : Nat} (hj : j < LV.length) : idsOf (LV.take (j + 1)) t = idsOf (LV.take j) t ++ if LV[j].par = t then [LV[j].id] else [] := by
  unfold idsOf
  rw [List.take_succ_eq_append_getElem hj, List.filter_append, List.map_append]
  by_cases h : LV[j].par = t <;> simp [h]
theorem idsOf_W {w : World} {s s0 : Pl} {X : Rn → Prop} {LV : List LnV} (h : LsOK w s0.ln LV) (hs : s0.ln = s.ln) (c : Core X s) {t : Int} (ht : 1 ≤ t) : IsW s0 t (idsOf LV t) := by
  refine ⟨h.as1.sublist ((List.filter_sublist).map _), fun x => ?_⟩
  unfold idsOf
  rw [List.mem_map]
  constructor
  · rintro ⟨v, hv, rfl⟩
    obtain ⟨hv, hp⟩ := List.mem_filter.1 hv
    obtain ⟨n, hn, e1, e2, -⟩ := h.ls v hv
    have hp : v.par = t := by simpa using hp
    refine ⟨?_, n, hn, by rw [← e2, hp]⟩
    rw [hs] at hn
    have := (c.id _ _ hn).1
    by_cases e : v.id = 0
    · obtain ⟨z, hz1, hz2⟩ := c.z
      rw [e, hz1] at hn
      injection hn with hn
      subst hn
      omega
    · omega
  · rintro ⟨-, n, hn, hp⟩
    have := h.lc x (by rw [hn]; rfl)
    obtain ⟨v, hv, rfl⟩ := List.mem_map.1 this
    obtain ⟨n', hn', e1, e2, -⟩ := h.ls v hv
    rw [hn] at hn'
    injection hn' with hn'
    subst hn'
    exact ⟨v, List.mem_filter.2 ⟨hv, by simp [e2, hp]⟩, rfl⟩
/-- What remove and removeLine do, if no more than n items run. -/
def RmQ (n : Nat) : Prop := ∀ (w : World) (G : List Nat) (q : Nat) (s : Pl) (nl nc B : Nat) (X : Rn → Prop) (k : Nat), QB w G q s nl nc B → B ≤ w.heap.size → nl ≤ 1000 → nc ≤ 1000 → s.li.length ≤ n → Core X s → k < s.li.length →
  Calls Tryz.prog 58 #[.pointer (some ⟨q, 0, none⟩), .int .i64 k] w fun e w' => ∃ v o s', e = .returned v ∧ Rm (.rem k) s s' o ∧ w'.ownsRow 0 3 1 v o.length (zs o) ∧ QM w w' G q s' nl nc B ∧ ∀ g ∈ fp v, w.heap.size ≤ g
def CtQ (n : Nat) : Prop := ∀ (w : World) (G : List Nat) (q : Nat) (s : Pl) (nl nc B : Nat) (X : Rn → Prop) (id : Int), QB w G q s nl nc B → B ≤ w.heap.size → nl ≤ 1000 → nc ≤ 1000 → s.li.length ≤ n → Core X s → 0 < id → (s.ln id).isSome = true →
  Calls Tryz.prog 59 #[.pointer (some ⟨q, 0, none⟩), .int .i64 id] w fun e w' => ∃ v o s', e = .returned v ∧ Rm (.cut id) s s' o ∧ w'.ownsRow 0 3 1 v o.length (zs o) ∧ QM w w' G q s' nl nc B ∧ ∀ g ∈ fp v, w.heap.size ≤ g
/-- The lines that are to go, one by one. -/
structure Go2 (X : Rn → Prop) (s0 s1 : Pl) (t : Int) (ids : List Int) (j : Nat) (o1 : List Int) : Prop where
  c : Core X s1
  ch : ∀ s' o2, Rm (.cuts (ids.drop j)) s1 s' o2 → Rm (.cuts ids) s0 s' (o1 ++ o2)
  al : ∀ x ∈ ids.drop j, 0 < x ∧ ∃ n, s1.ln x = some n ∧ n.par = t
  no : ∀ b ∈ s1.li, b.t ≠ t
  ln : o1.length + s1.li.length = s0.li.length
theorem Go2.step {X : Rn → Prop} {s0 s1 s2 : Pl} {t : Int} {ids : List Int} {j : Nat} {o1 o : List Int} (h : Go2 X s0 s1 t ids j o1) (hj : j < ids.length) (hnd : ids.Nodup) (hr : Rm (.cut ids[j]) s1 s2 o) : Go2 X s0 s2 t ids (j + 1) (o1 ++ o) := by
  have hd := List.drop_eq_getElem_cons hj
  have h0 := h.al ids[j] (by rw [hd]; exact List.mem_cons_self)
  refine ⟨h.c.rm hr (fun x hx => by simp [pend] at hx; rw [hx]; exact h0.1), fun s' o2 hc => ?_, fun x hx => ?_, fun b hb => h.no b (hr.sub.subset hb), by rw [List.length_append]; have := hr.len; have := h.ln; omega⟩
  · rw [List.append_assoc]
    exact h.ch s' (o ++ o2) (by rw [hd]; exact .cons hr hc)
  · obtain ⟨h1, n, h2, h3⟩ := h.al x (by rw [hd]; exact List.mem_cons_of_mem _ hx)
    refine ⟨h1, n, hr.keepSib h.c h0.1 (fun e => ?_) h2 (fun b hb => by rw [h3]; exact h.no b hb), h3⟩
    rw [← List.take_append_drop (j + 1) ids, List.nodup_append] at hnd
    exact hnd.2.2 ids[j] (List.mem_iff_getElem.2 ⟨j, by rw [List.length_take]; omega, by rw [List.getElem_take]⟩) x hx e.symm
theorem zs_app (a b : List Int) : zs (a ++ b) = zs a ++ zs b := by unfold zs; rw [List.map_append]
set_option maxRecDepth 100000 in
set_option maxHeartbeats 6400000 in
theorem rmQ_of (n : Nat) (hn : n ≤ 1000) (hC : ∀ m, m < n → CtQ m) : RmQ n := by
  intro w G q s nl nc B X k h hB hnl hnc hl c hk
  obtain ⟨LV, C, A1, A2, A3, c1, c2, c3, h, hb1, hb2, hvb⟩ := h
  have hqw : q < w.heap.size := h.b.lt
  have f1 : w.cell? ⟨q, 1, none⟩ = some (.slice A2 s.li.length c2) := h.b.cell 1
  have hcap := own_shape h.o2
  obtain ⟨_, _, hv, hcl, -, hA⟩ := hcap
  obtain ⟨rfl, -, rfl⟩ : A2 = _ ∧ s.li.length = _ ∧ c2 = _ := by injection hv with h1 h2 h3; exact ⟨h1, rfl, h3⟩
  obtain ⟨g2, rfl⟩ := hA (by omega)
  have ct := own_cell (j := k * 4 + 2) (u := .int .i64 s.li[k].t) h.o2 (by rw [rw_at rcs_len hk (by omega)]; rfl)
  have HQ : Hid (∀ W, Keeps [] w W → QAt W G q s LV C A1 (some ⟨g2, 0, none⟩) A3 c1 c2 c3) := Lib.hid (fun W k => h.keep0 k)
  have HB := Lib.hid hvb
  have HCC := Lib.hid hC
  have HT : Hid (1 ≤ s.li[k].t) := Lib.hid (c.t1 _ (List.getElem_mem hk))
  have HC := Lib.hid c
  have HI := Lib.hid info3
  have HRD : Hid (∀ W, Keeps [] w W → Reads W W.heap.size 4 (some ⟨g2, 0, none⟩) s.li.length (rw rcs s.li)) := Lib.hid (fun W kW => reads_own (h.keep0 kW).o2)
  have j0 : (0 : Int) ≤ (k : Int) := by omega
  have j1 : (k : Int) < (s.li.length : Int) := by omega
  obtain ⟨t, hEt⟩ : ∃ t, s.li[k].t = t := ⟨_, rfl⟩
  rw [hEt] at ct HT
  have HET := Lib.hid hEt
  clear h hv hA hvb hC c hEt
  go_enter Tryz.func58, Tryz.ntmps58
  go_upto_region 2 with fail
  refine rem2_any w q s.li.length k (k + 1) c2 (s.li.length - (k + 1)) (c2 - (k + 1)) (s.li.length - 1) (some ⟨g2, 0, none⟩) _ ((rw rcs s.li).take (k * 4)) ((rw rcs s.li).drop ((k + 1) * 4)) _ (by omega) (by omega) (by omega) (by omega)
    (fun W kW => (HQ.out W kW).b.cell 1) (fun W kW => (HQ.out W kW).b.frozen 1) (run_take58 _ _ _ k (by omega) (by omega)) (run_drop58 _ _ _ (k + 1) (by omega)) (fun W kW => (HRD.out W kW).take (by omega)) (fun W kW => (HRD.out W kW).cut (by omega) (by omega))
    (fun u hu => rw_one rcs_one _ u (List.mem_of_mem_take hu)) (fun u hu => rw_one rcs_one _ u (List.mem_of_mem_drop hu)) (by rw [IntKind.wrap_i64]; omega) _ _ _ _ _ _ _ _ _ _ _ _ _ _ _ _ _ _ _ _ _ _ _ _ _ _ _ _ _ _ _ _ _ _ _ _ _ _ _ _ _ _ _ _ _ _ _ _ _ _ _ _ _ _ _ _ _ _ _ _ _ _ _ _ _ _ _ _ _ _ _ _ _ _ _ _ _ _ _ _ _ _ ?_
  intro v18 v19 v20 v21 v22 v23 v24 v25 v26 v27 v28 v29 v30 v31 v32 v33 v34 v35 v36 v3 W4 ho hk4 hf4
  have elen : (s.li.eraseIdx k).length = s.li.length - 1 := by rw [List.length_eraseIdx]; simp [hk]
  have HO4 : Hid (W4.ownsRow 0 69 4 v3 (takeOut s k).li.length (rw rcs (takeOut s k).li)) := Lib.hid (by
    show W4.ownsRow 0 69 4 v3 (s.li.eraseIdx k).length (rw rcs (s.li.eraseIdx k))
    rw [elen, ← rw_erase]
    have := ho
    rw [List.nil_append] at this
    exact this)
  have hf5 := hf4
  obtain ⟨A4, c4, rfl, -, -, -⟩ := own_shape HO4.out
  obtain ⟨G1, hG1, hs1⟩ := (HQ.out W4 hk4).putR (s' := takeOut s k) HO4.out (w := w) hf5 hqw rfl rfl
  have K1 : Hid (Keeps [q] w (W4.setCell ⟨q, 1, none⟩ (.slice A4 (takeOut s k).li.length c4))) := Lib.hid ((hk4.mono (by simp)).setCell (.inl (by simp)) _)
  obtain ⟨W1, hW1⟩ : ∃ W, W4.setCell ⟨q, 1, none⟩ (.slice A4 (takeOut s k).li.length c4) = W := ⟨_, rfl⟩
  rw [hW1] at hG1 K1 ⊢
  have HG1 := Lib.hid hG1
  have HS1 := Lib.hid hs1
  clear hW1 hG1 hs1 ho hk4 hf4 hf5 HO4 f1 ct HRD HQ
  go_wp2_with fail
  have hz1 := K1.out.size
  obtain ⟨W2, hW2⟩ : ∃ W, W1.alloc (.cells #[.int .i64 t] 3) = W := ⟨_, rfl⟩
  have K2 : Hid (Keeps [] W1 W2) := Lib.hid (by rw [← hW2]; exact (Keeps.refl [] W1).alloc _)
  have O2 : Hid (W2.ownsRow 0 3 1 (.slice (some ⟨W1.heap.size, 0, none⟩) 1 1) [t].length (zs [t])) := Lib.hid (by rw [← hW2]; exact own_of_blk (Blk.new W1 3 #[.int .i64 t]) (by simp) (by unfold maxLen; omega) rfl rfl)
  have HG2 := Lib.hid (HG1.out.keep0 K2.out)
  have hz2 := K2.out.size
  have hz2' : W2.heap.size = W1.heap.size + 1 := by rw [← hW2]; simp
  rw [hW2]
  clear hW2
  have HAL : Hid (∀ W, Keeps [] W2 W → AtV W A1 LV) := Lib.hid (fun W kW => AtV.of_own (HG2.out.keep0 kW).o1 (by omega))
  have HF0 : Hid (∀ W, Keeps [] W2 W → W.cell? ⟨q, 0, none⟩ = some (.slice A1 LV.length c1)) := Lib.hid (fun W kW => (HG2.out.keep0 kW).b.cell 0)
  go_loopw [7, 8] (fun iv jv wr => ∃ j : Nat, j ≤ LV.length ∧ jv = .int .i64 j ∧ wr.ownsRow 0 3 1 iv (idsOf (LV.take j) t).length (zs (idsOf (LV.take j) t)) ∧ Keeps [] W2 wr ∧ (∀ g ∈ fp iv, W2.heap.size ≤ g)) (fun _ jv _ => LV.length - (intOf jv).toNat)
  case atStart => exact ⟨0, by omega, rfl, World.ownsRow_nil _ _ _ _, Keeps.refl _ _, by simp⟩
  case round =>
    obtain ⟨j, hj, rfl, oi, kp, fi⟩ := hrel
    have OI := Lib.hid oi
    have KP := Lib.hid kp
    have FI := Lib.hid fi
    have f0 := HF0.out wr kp
    obtain ⟨Ai, ci, rfl, -, -, -⟩ := own_shape oi
    clear oi kp fi
    by_cases hlt : j < LV.length
    · obtain ⟨bl, off, hAA, hbl, hc⟩ := (HAL.out wr KP.out).at_ (by omega)
      subst hAA
      obtain ⟨d0, d1, -⟩ := hc j hlt
      have i0 : (0 : Int) ≤ (j : Int) := by omega
      have i1 : (j : Int) < (LV.length : Int) := by omega
      have hit := idsOf_take (t := t) hlt
      obtain ⟨y, hy⟩ : ∃ y, LV[j].id = y := ⟨_, rfl⟩
      obtain ⟨z, hz⟩ : ∃ z, LV[j].par = z := ⟨_, rfl⟩
      rw [hy] at d0 hit
      rw [hz] at d1 hit
      have HIT := Lib.hid hit
      have hle : (idsOf (LV.take j) t).length ≤ j := by unfold idsOf; rw [List.length_map]; exact Nat.le_trans (List.length_filter_le _ _) (by rw [List.length_take]; omega)
      clear hc hy hz hit
      by_cases e : z = t
      · have KA : Hid (Keeps [] wr (wr.alloc (.cells #[.int .i64 y] 3))) := Lib.hid ((Keeps.refl [] wr).alloc _)
        have OI2 : Hid ((wr.alloc (.cells #[.int .i64 y] 3)).ownsRow 0 3 1 (.slice Ai (idsOf (LV.take j) t).length ci) (idsOf (LV.take j) t).length (zs (idsOf (LV.take j) t))) := Lib.hid (own_keep OI.out KA.out (by simp))
        go_wp2_with (at_builtin; refine wpList_app _ rfl (.tmp 58) (.tmp 67) _ rfl 3 (.int .i64 0) 1 8 Tryz.underlying22 HI.out rfl (by omega) (.slice Ai (idsOf (LV.take j) t).length ci) _ _ rfl OI2.out _ _ _ _ [.int .i64 y] rfl (reads_one wr (.int .i64 y) 3) (by simp [Value.oneCell']) (by unfold maxLen; omega) (by omega) ?_)
        intro v6 w6 o6 k6 f6
        have KX : Hid (Keeps [] W2 w6) := Lib.hid ((KP.out.trans KA.out (by simp)).trans k6 (fun g hg => .inr (FI.out g hg)))
        have F6 : Hid (∀ g ∈ fp v6, W2.heap.size ≤ g) := Lib.hid (fun g hg => (f6 g hg).elim (fun h => FI.out g h) (fun h => by have h1 := KP.out.size; have h2 : wr.heap.size + 1 ≤ g := (by simpa using h); omega))
        have O6 : Hid (w6.ownsRow 0 3 1 v6 (idsOf (LV.take (j + 1)) t).length (zs (idsOf (LV.take (j + 1)) t))) := Lib.hid (by
          rw [HIT.out, if_pos e, List.length_append, zs_app]; exact o6)
        clear o6 k6 f6 OI2 KA
        go_wp2_with fail
        go_roundw
        case rel => exact ⟨j + 1, by omega, by go_num, O6.out, KX.out, F6.out⟩
        case measure => simp [intOf]; omega
      · go_wp2_with fail
        go_roundw
        case rel => exact ⟨j + 1, by omega, by go_num, by rw [HIT.out, if_neg e, List.append_nil]; exact OI.out, KP.out, FI.out⟩
        case measure => simp [intOf]; omega
    · obtain rfl : j = LV.length := by omega
      rw [List.take_length] at OI FI ⊢
      obtain ⟨ids, hids⟩ : ∃ ids, idsOf LV t = ids := ⟨_, rfl⟩
      rw [hids] at OI FI ⊢
      have HW : Hid (IsW (takeOut s k) t ids) := Lib.hid (by rw [← hids]; exact idsOf_W (s := s) HG2.out.lsOK rfl HC.out HT.out)
      have hile : ids.length ≤ 1000 := by rw [← hids]; unfold idsOf; rw [List.length_map]; exact Nat.le_trans (List.length_filter_le _ _) (by omega)
      have HND : Hid ids.Nodup := Lib.hid (HW.out.1.imp (fun h => by omega))
      have QB3 : Hid (QB wr G1 q (takeOut s k) nl nc B) := Lib.hid ⟨LV, C, A1, A4, A3, c1, c4, c3, HG2.out.keep0 KP.out, hb1, hb2, HB.out⟩
      have hz3 := KP.out.size
      have K3 : Hid (Keeps [q] w wr) := Lib.hid ((K1.out.trans K2.out (by simp)).trans KP.out (by simp))
      have O3 : Hid (wr.ownsRow 0 3 1 (.slice (some ⟨W1.heap.size, 0, none⟩) 1 1) (t :: ([] : List Int)).length (zs (t :: []))) := Lib.hid (own_keep O2.out KP.out (by simp))
      have G20 : Hid (Go2 X (takeOut s k) (takeOut s k) t ids 0 []) := Lib.hid ⟨HC.out.take k, fun s' o2 h => by simpa using h, fun x hx => (HW.out.2 x).1 (by simpa using hx), fun b hb => by
        obtain ⟨i, hi, hik, rfl⟩ := List.mem_eraseIdx_iff_getElem.1 hb
        intro e
        have hp := List.pairwise_iff_getElem.1 HC.out.td
        rw [← HET.out] at e
        rcases Nat.lt_or_gt_of_ne hik with hlt | hlt
        · exact hp i k (by simpa using hi) (by simpa using hk) hlt (by simpa using e)
        · exact hp k i (by simpa using hk) (by simpa using hi) hlt (by simpa using e.symm), by simp⟩
      clear hids HAL HF0 hlt
      go_wp2_with fail
      clear f0
      go_loopw [6, 9] (fun ov jv wz => ∃ (j : Nat) (s1 : Pl) (o1 : List Int) (G1 : List Nat), j ≤ ids.length ∧ jv = .int .i64 j ∧ Go2 X (takeOut s k) s1 t ids j o1 ∧ wz.ownsRow 0 3 1 ov (t :: o1).length (zs (t :: o1)) ∧ QB wz G1 q s1 nl nc B ∧ Keeps [q] w wz ∧ (∀ g ∈ G1, g ∈ G ∨ w.heap.size ≤ g) ∧
        (∀ g ∈ fp ov, w.heap.size ≤ g) ∧ wz.ownsRow 0 3 1 (.slice Ai ids.length ci) ids.length (zs ids) ∧ (∀ g ∈ fp (.slice Ai ids.length ci), g ∉ fp ov)) (fun _ jv _ => ids.length - (intOf jv).toNat)
      case atStart => exact ⟨0, takeOut s k, [], G1, by omega, rfl, G20.out, O3.out, QB3.out, K3.out, HS1.out, fun g hg => by simp at hg; omega, OI.out, fun g hg h0 => by simp at h0; have := FI.out g hg; omega⟩
      case round =>
        obtain ⟨j, s1, o1, G3, hj, rfl, hgo, ho, hq, kp, hG, hf, hoi, hd⟩ := hrel
        have HGO := Lib.hid hgo
        have HO := Lib.hid ho
        have HQ := Lib.hid hq
        have KZ := Lib.hid kp
        have HGG := Lib.hid hG
        have HF := Lib.hid hf
        have HOI := Lib.hid hoi
        have HD := Lib.hid hd
        obtain ⟨Ao, co, rfl, -, -, -⟩ := own_shape ho
        have hln := hgo.ln
        rw [show (takeOut s k).li.length = s.li.length - 1 from elen] at hln
        clear hgo ho hq kp hG hf hoi hd
        by_cases hlt : j < ids.length
        · obtain ⟨b2, o2, hAA, hb2', hc⟩ := (AtZ.of_own HOI.out (by omega)).at_ (by omega)
          subst hAA
          have c0 := hc j hlt
          have i0 : (0 : Int) ≤ (j : Int) := by omega
          have i1 : (j : Int) < (ids.length : Int) := by omega
          have hal := HGO.out.al ids[j] (by rw [List.drop_eq_getElem_cons hlt]; exact List.mem_cons_self)
          have CT := Lib.hid (HCC.out s1.li.length (by omega) wr G3 q s1 nl nc B X ids[j] HQ.out (Nat.le_trans hB KZ.out.size) hnl hnc (Nat.le_refl _) HGO.out.c hal.1 (by obtain ⟨_, n, h1, _⟩ := hal; rw [h1]; rfl))
          obtain ⟨y, hy⟩ : ∃ y, ids[j] = y := ⟨_, rfl⟩
          rw [hy] at c0 CT
          have HY := Lib.hid hy
          clear hc hy hal
          go_wp2_with fail
          refine CT.out.mono ?_
          rintro e w5 ⟨v5, o5, s5, rfl, hr5, ho5, ⟨G5, hq5, kk5, hg5⟩, hf5⟩
          have HR5 := Lib.hid hr5
          have HO5 := Lib.hid ho5
          have hz5 := KZ.out.size
          have hqlt := HQ.out.lt
          have hqv : ∀ (Av : Option Addr) (nv cv : Nat) (xs : List Value), wr.ownsRow 0 3 1 (.slice Av nv cv) nv xs → ∀ g ∈ fp (.slice Av nv cv), g ∉ [q] := fun Av nv cv xs ho g hg hm => by
            rw [List.mem_singleton.1 hm] at hg
            obtain ⟨_, _, _, _, _, _, _, _, hh, _⟩ := HQ.out
            exact hh.noInt q hh.memq (own_int ho q hg)
          have OO := Lib.hid (own_keep HO.out kk5 (hqv _ _ _ _ HO.out))
          have OII := Lib.hid (own_keep HOI.out kk5 (hqv _ _ _ _ HOI.out))
          have hlen5 := hr5.len
          obtain ⟨A5, c5, rfl, -, -, -⟩ := own_shape ho5
          have HQ5 := Lib.hid hq5
          have KK5 := Lib.hid kk5
          have HG5 := Lib.hid hg5
          have HF5 := Lib.hid hf5
          clear hr5 ho5 hq5 kk5 hg5 hf5 CT HO HOI hqv
          have hol : (t :: o1).length = o1.length + 1 := by simp
          go_wp2_with (at_builtin; refine wpList_app _ rfl (.tmp 75) (.tmp 81) _ rfl 3 (.int .i64 0) 1 8 Tryz.underlying22 HI.out rfl (by omega) (.slice Ao (t :: o1).length co) _ _ rfl OO.out _ _ _ _ (zs o5) rfl (reads_own HO5.out) (zs_one _) (by unfold maxLen; rw [hol]; omega) (by rw [hol]; omega) ?_)
          intro v6 w6 o6 k6 f6
          have OX : Hid (w6.ownsRow 0 3 1 v6 (t :: (o1 ++ o5)).length (zs (t :: (o1 ++ o5)))) := Lib.hid (by
            have e1 : (t :: (o1 ++ o5)).length = (t :: o1).length + o5.length := by simp; omega
            have e2 : zs (t :: (o1 ++ o5)) = zs (t :: o1) ++ zs o5 := by unfold zs; simp
            rw [e1, e2]; exact o6)
          have QX : Hid (QB w6 G5 q s5 nl nc B) := Lib.hid (HQ5.out.keepI OO.out (fun g hg => Nat.le_trans hB (HF.out g hg)) k6)
          have KX : Hid (Keeps [q] w w6) := Lib.hid ((KZ.out.trans KK5.out (fun g hg => .inl hg)).trans k6 (fun g hg => .inr (HF.out g hg)))
          have GX : Hid (∀ g ∈ G5, g ∈ G ∨ w.heap.size ≤ g) := Lib.hid (fun g hg => (HG5.out g hg).elim (HGG.out g) (fun h => .inr (Nat.le_trans hz5 h)))
          have hz6 := KK5.out.size
          have FX : Hid (∀ g ∈ fp v6, w.heap.size ≤ g) := Lib.hid (fun g hg => (f6 g hg).elim (HF.out g) (fun h => by omega))
          have DX : Hid (∀ g ∈ fp (.slice (some ⟨b2, o2, none⟩) ids.length ci), g ∉ fp v6) := Lib.hid (fun g hg h0 => (f6 g h0).elim (HD.out g hg) (fun h => by have := own_lt OII.out hg; omega))
          have OIX : Hid (w6.ownsRow 0 3 1 (.slice (some ⟨b2, o2, none⟩) ids.length ci) ids.length (zs ids)) := Lib.hid (own_keep OII.out k6 HD.out)
          clear o6 k6 f6 OO OII HQ5
          go_wp2_with fail
          go_roundw
          case rel => exact ⟨j + 1, s5, o1 ++ o5, G5, by omega, by go_num, HGO.out.step hlt HND.out (by rw [HY.out]; exact HR5.out), OX.out, QX.out, KX.out, GX.out, FX.out, OIX.out, DX.out⟩
          case measure => simp [intOf]; omega
        · obtain rfl : j = ids.length := by omega
          go_wp2_with fail
          go_ret
          refine ⟨_, t :: o1, s1, rfl, ?_, HO.out, ⟨G3, HQ.out, KZ.out, HGG.out⟩, HF.out⟩
          have hch := HGO.out.ch s1 [] (by rw [List.drop_length]; exact .nil)
          rw [List.append_nil] at hch
          have := Rm.rem (k := k) hk (by rw [HET.out]; exact HW.out) hch
          rw [HET.out] at this
          exact this
end Go.Proofs.YtcopjjokhjealaaGreat
