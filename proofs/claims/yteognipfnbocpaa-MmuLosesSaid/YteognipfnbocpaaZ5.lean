/- The walk of MmuLoses. -/
import Derived.Test.YteognipfnbocpaaZ4
import Derived.Test.YteognipfnbocpaaOps
namespace Go.Proofs.Yteognipfnbocpaa
open Go.RowKit
open T12 (E TbRep ent ents cells5 c5)
open T13 (Tl En TlRep es)

theorem info34 : (Try.prog.info? 34).map (fun i => (i.zero, i.size, i.bytes)) = some (some (.agg #[.int .i64 0, .int .i64 0, .bool false, .bool false, .bool false]), 5, 24) := by kernel_rfl
/-- The state ahead of round i of the first loop. -/
structure NI (w wr : World) (p i n : Nat) (ks : List Int) (s : Mm) : Prop where
  r : MmW w wr p s
  m : MI (2 * i) ks s
  l : s.C.length = n
theorem NI.op {w wr w' : World} {p i n : Nat} {ks : List Int} {s : Mm} (h : NI w wr p i n ks s) (o : Op) (r : MmW w w' p (s.op o)) : NI w w' p (i + 1) n (addK ks o.x) (s.op o) :=
  ⟨r, by have := h.m.op o; rwa [show 2 * i + 2 = 2 * (i + 1) by omega] at this, by rw [op_len]; exact h.l⟩
/-- The two machines. -/
def TM (w wr : World) (p p' : Nat) (s sc : Mm) : Prop := ∃ F F', MmRep wr F p s ∧ MmRep wr F' p' sc ∧ Keeps [] w wr ∧ (∀ g ∈ F, w.heap.size ≤ g) ∧ ∀ g ∈ F', g ∉ F
section
variable {w wr w' : World} {p p' : Nat} {s sc : Mm}
theorem TM.same (h : TM w wr p p' s sc) (hk : Keeps [] wr w') : TM w w' p p' s sc := by
  obtain ⟨F, F', h1, h2, h3, h4, h5⟩ := h
  exact ⟨F, F', h1.keep hk (by simp), h2.keep hk (by simp), h3.trans hk (by simp), h4, h5⟩
theorem TM.keeps (h : TM w wr p p' s sc) : Keeps [] w wr := by obtain ⟨F, F', h1, h2, h3, h4, h5⟩ := h; exact h3
theorem TM.entries1 (h : TM w wr p p' s sc) (x : Int) (h1 : -9223372036854775808 ≤ x) (h2 : x ≤ 9223372036854775807) :
    Calls Try.prog 15 #[.pointer (some ⟨p, 0, none⟩), .int .i64 x] wr fun e w' => ∃ v, e = .returned v ∧ w'.ownsRow 0 34 5 v (ents (s.tab x) 256).length (cells5 (ents (s.tab x) 256)) ∧ Keeps [] wr w' ∧ ∀ g ∈ fp v, wr.heap.size ≤ g := by
  obtain ⟨F, F', g1, _⟩ := h
  exact run_entries wr F p s g1 x h1 h2
theorem TM.entries2 (h : TM w wr p p' s sc) (x : Int) (h1 : -9223372036854775808 ≤ x) (h2 : x ≤ 9223372036854775807) :
    Calls Try.prog 15 #[.pointer (some ⟨p', 0, none⟩), .int .i64 x] wr fun e w' => ∃ v, e = .returned v ∧ w'.ownsRow 0 34 5 v (ents (sc.tab x) 256).length (cells5 (ents (sc.tab x) 256)) ∧ Keeps [] wr w' ∧ ∀ g ∈ fp v, wr.heap.size ≤ g := by
  obtain ⟨F, F', _, g1, _⟩ := h
  exact run_entries wr F' p' sc g1 x h1 h2
theorem TM.lose (h : TM w wr p p' s sc) (ok : Ok s) (fr : Int) (ks : List Int) (hn : ks.Nodup) (hks : ∀ x, (s.t x).isSome → x ∈ ks) (hkl : ks.length ≤ 1000) :
    Calls Try.prog 13 #[.pointer (some ⟨p, 0, none⟩), .int .i64 fr] wr fun e w' => e = .returned (.int .i64 (sumD fr s.t (fun _ => false) ks)) ∧ TM w w' p p' (s.lose fr) sc := by
  obtain ⟨F, F', g1, g2, g3, g4, g5⟩ := h
  have hlt := g2.lt
  refine (lose_any wr F p s g1 ok fr ks hn hks hkl).mono ?_
  rintro e w' ⟨rfl, F1, k1, k2, k3⟩
  have := g3.size
  exact ⟨rfl, F1, F', k1, g2.keep k2 (fun g hg => g5 g hg), g3.trans k2 (fun g hg => .inr (g4 g hg)), fun g hg => (k3 g hg).elim (g4 g) (fun h => by omega), fun g hg h1 => (k3 g h1).elim (g5 g hg) (fun h => by have := hlt g hg; omega)⟩
theorem TM.end_ (h : TM w wr p p' s sc) (ok : Ok s) (x : Int) (h1 : -9223372036854775808 ≤ x) (h2 : x ≤ 9223372036854775807) :
    Calls Try.prog 17 #[.pointer (some ⟨p, 0, none⟩), .int .i64 x] wr fun e w' => e = .returned (.tuple #[]) ∧ MmW w w' p (s.end_ x) := by
  obtain ⟨F, F', g1, g2, g3, g4, g5⟩ := h
  refine (end_any wr F p s g1 ok x h1 h2).mono ?_
  rintro e w' ⟨rfl, n⟩
  exact ⟨rfl, n.mmw g3 g4⟩
theorem MmW.copy_ (h : MmW w wr p s) (ok : Ok s) (ks : List Int) (hks : ∀ x, (s.t x).isSome → x ∈ ks) (hkl : ks.length ≤ 1000) :
    Calls Try.prog 12 #[.pointer (some ⟨p, 0, none⟩)] wr fun e w' => ∃ p', e = .returned (.pointer (some ⟨p', 0, none⟩)) ∧ TM w w' p p' s { s with k := ks.length } := by
  obtain ⟨F, g1, g2, g3⟩ := h
  have hlt := g1.lt
  refine (copy_any wr F p s g1 ok ks hks hkl).mono ?_
  rintro e w' ⟨F', p', rfl, k1, k2, k3⟩
  exact ⟨p', rfl, F, F', g1.keep k2 (by simp), k1, g2.trans k2 (by simp), g3, fun g hg h => by have := k3 g hg; have := hlt g h; omega⟩
theorem TM.spaces (h : TM w wr p p' s sc) (hk : sc.k ≤ 1000000) :
    Calls Try.prog 14 #[.pointer (some ⟨p', 0, none⟩)] wr fun e w' => ∃ v l, e = .returned v ∧ Asc l ∧ (∀ x, x ∈ l ↔ hasE sc x = true) ∧ w'.ownsRow 0 3 1 v l.length (iv l) ∧ Keeps [] wr w' ∧ (∀ g ∈ fp v, wr.heap.size ≤ g) ∧ l.length ≤ 1000000 ∧ ∀ x ∈ l, -9223372036854775808 ≤ x ∧ x ≤ 9223372036854775807 := by
  obtain ⟨F, F', g1, g2, g3, g4, g5⟩ := h
  exact spaces_any wr F' p' sc g2 hk
end
theorem sumH_one (s : Mm) (fr x : Int) : sumH s fr [x] = hits fr (ents (s.tab x) 256) := by simp only [sumH, Nat.add_zero]
/-- The two lists of entries of a space. -/
theorem TM.both {w wr : World} {p p' kk : Nat} {s : Mm} {fr : Int} (h : TM w wr p p' (s.lose fr) { s with k := kk }) (x : Int) (h1 : -9223372036854775808 ≤ x) (h2 : x ≤ 9223372036854775807) : ∃ E0 : List (Nat × E), E0.length ≤ 256 ∧ sumH s fr [x] = hits fr E0 ∧
    (Calls Try.prog 15 #[.pointer (some ⟨p', 0, none⟩), .int .i64 x] wr fun e w' => ∃ v, e = .returned v ∧ w'.ownsRow 0 34 5 v E0.length (cells5 E0) ∧ Keeps [] wr w' ∧ ∀ g ∈ fp v, wr.heap.size ≤ g) ∧
    ∀ w6, Keeps [] wr w6 → Calls Try.prog 15 #[.pointer (some ⟨p, 0, none⟩), .int .i64 x] w6 fun e w' => ∃ v, e = .returned v ∧ w'.ownsRow 0 34 5 v (lefts fr E0).length (cells5 (lefts fr E0)) ∧ Keeps [] w6 w' ∧ ∀ g ∈ fp v, w6.heap.size ≤ g := by
  refine ⟨ents (s.tab x) 256, ents_bd _, sumH_one s fr x, h.entries2 x h1 h2, fun w6 k6 => ?_⟩
  have := (h.same k6).entries1 x h1 h2
  rw [tab_lose, ents_lose] at this
  exact this
theorem MmW.ended {w wr : World} {p : Nat} {s : Mm} {x : Int} (h : MmW w wr p (s.end_ x)) (h1 : -9223372036854775808 ≤ x) (h2 : x ≤ 9223372036854775807) :
    Calls Try.prog 15 #[.pointer (some ⟨p, 0, none⟩), .int .i64 x] wr fun e w' => ∃ v, e = .returned v ∧ w'.ownsRow 0 34 5 v 0 [] ∧ Keeps [] wr w' := by
  obtain ⟨F, g1, _⟩ := h
  have h0 := run_entries wr F p _ g1 x h1 h2
  rw [end_tab, ents_pg0_nil] at h0
  exact h0.mono fun _ _ ⟨v, a, b, c, _⟩ => ⟨v, a, b, c⟩
theorem MI.c_n {N : Nat} {ks : List Int} {s : Mm} (h : MI N ks s) : s.C.length ≤ 8 := h.c
set_option maxRecDepth 100000 in
set_option maxHeartbeats 6400000 in
theorem loses_any (w : World) (nn : Int) (A : Option Addr) (m c : Nat) (f : Nat → Op) (fr x : Int) (hx1 : -9223372036854775808 ≤ x) (hx2 : x ≤ 9223372036854775807) (hm : m ≤ 9223372036854775807)
    (hA : 0 < m → ∃ bl off, A = some ⟨bl, off, none⟩ ∧ OpsAt w bl off m f) :
    Calls Try.prog 5 #[.int .i64 nn, .slice A m c, .int .i64 fr, .int .i64 x] w fun e w' => e = .returned (.bool true) ∧ Keeps [] w w' := by
  by_cases g1 : nn < 1 ∨ 8 < nn ∨ 80 < m
  · by_cases a1 : nn < 1
    · go_enter Try.func5, Try.ntmps5
      go_wp2_with fail
      refine (small_any _).mono ?_
      rintro e w1 ⟨rfl, k1⟩
      go_wp2
      go_ret
      exact ⟨rfl, k1⟩
    by_cases a2 : 8 < nn
    · go_enter Try.func5, Try.ntmps5
      go_wp2_with fail
      refine (small_any _).mono ?_
      rintro e w1 ⟨rfl, k1⟩
      go_wp2
      go_ret
      exact ⟨rfl, k1⟩
    have a3 : 80 < m := by omega
    clear g1
    go_enter Try.func5, Try.ntmps5
    go_wp2_with fail
    refine (small_any _).mono ?_
    rintro e w1 ⟨rfl, k1⟩
    go_wp2
    go_ret
    exact ⟨rfl, k1⟩
  have b1 : 1 ≤ nn := by omega
  have b2 : nn ≤ 8 := by omega
  have b3 : m ≤ 80 := by omega
  clear g1 hm
  obtain ⟨N, rfl⟩ : ∃ N : Nat, nn = N := ⟨nn.toNat, by omega⟩
  have hN1 : 1 ≤ N := by omega
  have hN8 : N ≤ 8 := by omega
  have HX := Lib.hid (And.intro hx1 hx2)
  clear hx1 hx2
  go_enter Try.func5, Try.ntmps5
  go_wp2_with fail
  refine (small_any _).mono ?_
  rintro e w1 ⟨rfl, k1⟩
  go_wp2_with fail
  refine (mmw_new _ (N : Int) (by omega)).mono ?_
  rintro e w2 ⟨p, rfl, h2⟩
  have I0 : NI w w2 p 0 N [] (mm0 N) := ⟨by
    obtain ⟨F, g1, g2, g3⟩ := h2
    rw [Int.toNat_natCast] at g1
    exact ⟨F, g1, k1.trans g2 (by simp), fun g hg => Nat.le_trans k1.size (g3 g hg)⟩, MI.zero hN8, by simp [mm0]⟩
  clear k1 h2
  go_wp2_with fail
  go_loopw [11] (fun i wr => ∃ (k : Nat) (ks : List Int) (s : Mm), k ≤ m ∧ i = .int .i64 k ∧ NI w wr p k N ks s) (fun i _ => m - (intOf i).toNat)
  case atStart => exact ⟨0, [], _, by omega, rfl, I0⟩
  case round =>
    clear I0
    obtain ⟨i, ks, s, hi, rfl, I⟩ := hrel
    by_cases hlt : i < m
    · obtain ⟨bl, off, rfl, O⟩ := hA (by omega)
      clear hA
      have O1 := O.keep I.r.keeps
      have wf := O.wf i hlt
      obtain ⟨o, ho⟩ : ∃ o, o = f i := ⟨_, rfl⟩
      have q0 := O1.c0 i hlt
      have q1 := O1.c1 i hlt
      have q2 := O1.c2 i hlt
      have q3 := O1.c3 i hlt
      have q4 := O1.c4 i hlt
      have q5 := O1.c5 i hlt
      rw [← ho] at q0 q1 q2 q3 q4 q5 wf
      have hd := I.r.do_ I.m (by omega) o wf
      have HI := Lib.hid I
      have HD := Lib.hid hd
      unfold Op.v at HD
      clear hd I O O1 wf ho
      go_wp2_with fail
      refine HD.out.mono ?_
      rintro e w5 ⟨v, rfl, -, r5, -⟩
      have HN := Lib.hid (HI.out.op o r5)
      clear r5 HD HI q0 q1 q2 q3 q4 q5
      go_wp2_with fail
      go_roundw
      case rel => exact ⟨i + 1, _, _, by omega, by go_num, HN.out⟩
      case measure => simp [intOf]; omega
    obtain rfl : i = m := by omega
    clear hA
    have ok := I.m.ok (by omega)
    have hkl := I.m.kl
    have CP := Lib.hid (I.r.copy_ ok ks I.m.ki (by omega))
    have HMI := Lib.hid I.m
    have OK := Lib.hid ok
    have HKL := Lib.hid hkl
    have HCL := Lib.hid I.l
    clear I ok hkl
    go_wp2_with fail
    refine CP.out.mono ?_
    rintro e w3 ⟨p', rfl, t3⟩
    have HL := Lib.hid (t3.lose OK.out fr ks HMI.out.nd HMI.out.ki (by have := HKL.out; omega))
    clear t3 CP
    go_wp2_with fail
    refine HL.out.mono ?_
    rintro e w4 ⟨rfl, t4⟩
    have HT4 := Lib.hid t4
    have HSP := Lib.hid (t4.spaces (by have := HKL.out; show ks.length ≤ _; omega))
    obtain ⟨sd, hsd⟩ : ∃ n, n = sumD fr s.t (fun _ => false) ks := ⟨_, rfl⟩
    rw [← hsd]
    have HSD := Lib.hid hsd
    clear t4 HL hsd
    go_wp2_with fail
    refine HSP.out.mono ?_
    rintro e w5 ⟨v, l, rfl, ha, hl, o5, k5, f5, hln, hlx⟩
    have hsum : sd = sumH s fr l := by rw [HSD.out]; exact sumD_spaces s fr HMI.out.nd HMI.out.ki ha hl
    have HSUM := Lib.hid hsum
    have HT5 := Lib.hid (HT4.out.same k5)
    have HO5 := Lib.hid o5
    have HLX := Lib.hid hlx
    obtain ⟨A5, cap5, rfl, -, -, hA5⟩ := own_shape o5
    clear o5 k5 f5 ha hl hlx HSP HT4 hsum HSD
    go_wp2_with fail
    go_loopw [15, 16] (fun g i wr => ∃ k : Nat, k ≤ l.length ∧ i = .int .i64 k ∧ g = .int .i64 (sumH s fr (l.take k) : Nat) ∧ Keeps [] w5 wr) (fun _ i _ => l.length - (intOf i).toNat)
    case atStart => exact ⟨0, by omega, rfl, rfl, Keeps.refl _ _⟩
    case round =>
      obtain ⟨k, hk, rfl, rfl, kp⟩ := hrel
      have hsb := sumH_le s fr (l.take k)
      have htl : (l.take k).length ≤ l.length := by rw [List.length_take]; omega
      by_cases hlt2 : k < l.length
      · obtain ⟨g5, rfl⟩ := hA5 (by omega)
        have hxb := HLX.out l[k] (List.getElem_mem hlt2)
        have y0 := own_cell (own_keep HO5.out kp (by simp)) (j := k) (u := .int .i64 l[k]) (by unfold iv; rw [List.getElem?_map, List.getElem?_eq_getElem hlt2]; rfl)
        obtain ⟨E0, hbd, hsn0, he2, he1⟩ := (HT5.out.same kp).both (l[k]) hxb.1 hxb.2
        have hsn := sumH_app s fr (l.take k) [l[k]]
        rw [← List.take_succ_eq_append_getElem hlt2, hsn0] at hsn
        have HE2 := Lib.hid he2
        have HE1' := Lib.hid he1
        have HSN := Lib.hid hsn
        obtain ⟨S, hS⟩ : ∃ S, S = sumH s fr (l.take k) := ⟨_, rfl⟩
        rw [← hS] at HSN hsb ⊢
        have hSb : S ≤ 256000000 := by omega
        clear hsn hsn0 he1 he2 hxb hS hsb
        have HGET := Lib.hid (List.getElem?_eq_getElem hlt2)
        generalize l[k] = xk at *
        obtain ⟨wo, rfl⟩ : ∃ wo : World, wo = wr := ⟨_, rfl⟩
        go_wp2_with fail
        refine HE2.out.mono ?_
        rintro e w6 ⟨v6, rfl, o6, k6, f6⟩
        obtain ⟨A6, cap6, rfl, -, -, hA6⟩ := own_shape o6
        have HO6 := Lib.hid o6
        have K6 := Lib.hid k6
        clear o6 k6 f6 HE2
        go_wp2_with fail
        go_loopw [18, 19] (fun u i wz => ∃ j : Nat, j ≤ E0.length ∧ i = .int .i64 j ∧ wz.ownsRow 0 34 5 u (lefts fr (E0.take j)).length (cells5 (lefts fr (E0.take j))) ∧ Keeps [] w6 wz ∧ ∀ g ∈ fp u, w6.heap.size ≤ g) (fun _ i _ => E0.length - (intOf i).toNat)
        case atStart => exact ⟨0, by omega, rfl, World.ownsRow_nil _ _ _ _, Keeps.refl _ _, by simp⟩
        case round =>
          obtain ⟨j, hj, rfl, ou, ku, fu⟩ := hrel
          obtain ⟨Au, cu, rfl, -, -, -⟩ := own_shape ou
          have hul : (lefts fr (E0.take j)).length ≤ 256 := by
            have h1 := lefts_len fr (E0.take j)
            have h2 : (E0.take j).length ≤ E0.length := by rw [List.length_take]; omega
            omega
          by_cases hlt3 : j < E0.length
          · obtain ⟨g6, rfl⟩ := hA6 (by omega)
            have ow := own_keep HO6.out ku (by simp)
            have y0 := own_cell ow (j := j * 5) (u := .int .i64 (E0[j].1 : Nat)) (by rw [show j * 5 = j * 5 + 0 by omega, cells5_at hlt3 (by omega)]; rfl)
            have y1 := own_cell ow (j := j * 5 + 1) (u := .int .i64 E0[j].2.fr) (by rw [cells5_at hlt3 (by omega)]; rfl)
            have y2 := own_cell ow (j := j * 5 + 2) (u := .bool E0[j].2.wr) (by rw [cells5_at hlt3 (by omega)]; rfl)
            have y3 := own_cell ow (j := j * 5 + 3) (u := .bool E0[j].2.ac) (by rw [cells5_at hlt3 (by omega)]; rfl)
            have y4 := own_cell ow (j := j * 5 + 4) (u := .bool E0[j].2.di) (by rw [cells5_at hlt3 (by omega)]; rfl)
            have hsn := lefts_snoc fr (E0.take j) E0[j]
            rw [← List.take_succ_eq_append_getElem hlt3] at hsn
            have HOU := Lib.hid ou
            have HKU := Lib.hid ku
            have HFU := Lib.hid fu
            clear ou ku fu ow
            obtain ⟨⟨a1, ⟨a2, a3, a4, a5⟩⟩, ha⟩ : ∃ a, a = E0[j] := ⟨_, rfl⟩
            rw [← ha] at y0 y1 y2 y3 y4 hsn
            by_cases he : a2 = fr
            · have te : (a2 != fr) = false := by simpa using he
              rw [if_pos he, List.append_nil] at hsn
              have HSQ := Lib.hid hsn
              clear hsn ha he
              go_wp2_with fail
              go_roundw
              case rel => exact ⟨j + 1, by omega, by go_num, by rw [HSQ.out]; exact HOU.out, HKU.out, HFU.out⟩
              case measure => simp [intOf]; omega
            · have te : (a2 != fr) = true := by simpa using he
              rw [if_neg he] at hsn
              have HSQ := Lib.hid hsn
              clear hsn ha he
              generalize lefts fr (E0.take j) = Lj at *
              go_wp2_with (at_builtin; refine wpList_app _ rfl (.tmp 86) (.tmp 91) _ rfl 34 (.agg #[.int .i64 0, .int .i64 0, .bool false, .bool false, .bool false]) 5 24 Try.underlying45 (by kernel_rfl) rfl (by omega) (.slice Au Lj.length cu) _ _ rfl (own_keep HOU.out ((Keeps.refl [] _).alloc _) (by simp)) _ _ _ _ (c5 (a1, ⟨a2, a3, a4, a5⟩)) rfl (reads_cells wr #[.int .i64 (a1 : Nat), .int .i64 a2, .bool a3, .bool a4, .bool a5] 1 5 34 rfl) (by simp [c5, Value.oneCell']) (by unfold maxLen; omega) (by omega) ?_)
              intro v7 w7 o7 k7 f7
              have hs7 := HKU.out.size
              have HR : Hid (w7.ownsRow 0 34 5 v7 (Lj ++ [(a1, (⟨a2, a3, a4, a5⟩ : E))]).length (cells5 (Lj ++ [(a1, (⟨a2, a3, a4, a5⟩ : E))])) ∧ Keeps [] w6 w7 ∧ ∀ g ∈ fp v7, w6.heap.size ≤ g) := Lib.hid ⟨by
                rw [T12.cells5_snoc]; simpa using o7, (HKU.out.alloc _).trans k7 (fun g hg => .inr (HFU.out g hg)), fun g hg => (f7 g hg).elim (HFU.out g) (fun h => by omega)⟩
              clear o7 k7 f7 HOU HKU HFU hs7
              go_wp2_with fail
              go_roundw
              case rel => exact ⟨j + 1, by omega, by go_num, by rw [HSQ.out]; exact HR.out.1, HR.out.2.1, HR.out.2.2⟩
              case measure => simp [intOf]; omega
          · obtain rfl : j = E0.length := by omega
            rw [List.take_length] at ou
            have h1 := lefts_len fr E0
            have hle : (lefts fr E0).length ≤ 256 := by omega
            have HU := Lib.hid (And.intro ou (K6.out.trans ku (by simp)))
            have e0 := hits fr E0
            have hh : S + hits fr E0 = sumH s fr (l.take (k + 1)) := HSN.out.symm
            have HH := Lib.hid hh
            rw [List.take_length]
            have hq : IntKind.i64.wrap (IntKind.i64.wrap ((S : Int) + E0.length) - (lefts fr E0).length) = ((S + hits fr E0 : Nat) : Int) := by
              have e1 : IntKind.i64.wrap ((S : Int) + E0.length) = (S : Int) + E0.length := IntWalk.i64_in _ (by omega)
              rw [e1]
              have e2 : IntKind.i64.wrap ((S : Int) + E0.length - (lefts fr E0).length) = (S : Int) + E0.length - (lefts fr E0).length := IntWalk.i64_in _ (by omega)
              rw [e2]
              omega
            have HQ := Lib.hid hq
            have hc1 : (S : Int) + E0.length - (lefts fr E0).length = ((S + hits fr E0 : Nat) : Int) := by omega
            have HC1 := Lib.hid hc1
            have HCE := Lib.hid (HE1'.out wr (K6.out.trans ku (by simp)))
            have KW := Lib.hid (kp.trans (K6.out.trans ku (by simp)) (by simp))
            have y9 := own_cell (own_keep HO5.out KW.out (by simp)) (j := k) (u := .int .i64 xk) (by unfold iv; rw [List.getElem?_map, HGET.out]; rfl)
            obtain ⟨L, hL⟩ : ∃ L, L = lefts fr E0 := ⟨_, rfl⟩
            rw [← hL] at hle HU HCE HC1 ⊢
            obtain ⟨T, hT⟩ : ∃ T, T = hits fr E0 := ⟨_, rfl⟩
            rw [← hT] at HH HC1
            have hT2 : T ≤ E0.length := by rw [hT]; exact hits_le _ _
            clear ou ku fu h1 hh hq hc1 HE1' HSN e0 HQ hL hT
            go_wp2_with fail
            refine HCE.out.mono ?_
            rintro e w8 ⟨v8, rfl, o8, k8, f8⟩
            have oU := own_keep HU.out.1 k8 (by simp)
            have HSM := Lib.hid (same_any w8 _ _ L o8 oU)
            have KX := Lib.hid (KW.out.trans k8 (by simp))
            obtain ⟨A8, c8, rfl, -, -, -⟩ := own_shape o8
            clear o8 k8 f8 oU HU HCE KW
            go_wp2_with fail
            refine HSM.out.mono ?_
            rintro e w9 ⟨rfl, k9⟩
            have KY := Lib.hid (KX.out.trans k9 (by simp))
            clear k9 KX HSM
            go_wp2_with fail
            go_roundw
            case rel => exact ⟨k + 1, by omega, by go_num, by rw [← HH.out, ← HC1.out], KY.out⟩
            case measure => simp [intOf]; omega
      · obtain rfl : k = l.length := by omega
        rw [List.take_length, ← HSUM.out]
        rw [List.take_length, ← HSUM.out] at hsb
        have mi2 := (HMI.out.lose fr).end_ x
        have HEN := Lib.hid ((HT5.out.same kp).end_ ((HMI.out.lose fr).ok (by omega)) x HX.out.1 HX.out.2)
        have hgone := cache_gone s fr x
        have hcl : ((s.lose fr).end_ x).C.length = N := by
          show ((s.C.map _).map _).length = N
          rw [List.length_map, List.length_map]; exact HCL.out
        have HG : Hid (∀ (i : Int), ∀ e ∈ cacheL ((s.lose fr).end_ x) i, (e.f == fr) = false ∧ (e.s == x) = false) := Lib.hid (fun i e he => by
          have := hgone i e he
          exact ⟨by simpa using this.1, by simpa using this.2⟩)
        have HMW : Hid (∀ w' W, MmW w w' p ((s.lose fr).end_ x) → Keeps [] w' W → Calls Try.prog 15 #[.pointer (some ⟨p, 0, none⟩), .int .i64 x] W fun e w' => ∃ v, e = .returned v ∧ w'.ownsRow 0 34 5 v 0 [] ∧ Keeps [] W w') := Lib.hid (fun w' W h hk => (h.same hk).ended HX.out.1 HX.out.2)
        have HMI2 := Lib.hid mi2
        clear hgone mi2 hcl kp HT5 HSUM HMI OK HKL HCL HLX HO5
        generalize (s.lose fr).end_ x = s2 at *
        go_wp2_with fail
        refine HEN.out.mono ?_
        rintro e w6 ⟨rfl, r6⟩
        have HR := Lib.hid r6
        clear r6 HEN
        go_wp2_with fail
        go_loopw [20] (fun i wr => ∃ j : Nat, j ≤ N ∧ i = .int .i64 j ∧ Keeps [] w6 wr) (fun i _ => N - (intOf i).toNat)
        case atStart => exact ⟨0, by omega, rfl, Keeps.refl _ _⟩
        case round =>
          obtain ⟨j, hj, rfl, kp⟩ := hrel
          by_cases hjl : j < N
          · have HCA := Lib.hid ((HR.out.same kp).cache HMI2.out (j : Int))
            have hg := HG.out (j : Int)
            obtain ⟨Lk, hLk⟩ : ∃ L, L = cacheL s2 (j : Int) := ⟨_, rfl⟩
            rw [← hLk] at HCA hg
            have HGJ := Lib.hid hg
            have KP := Lib.hid kp
            clear hLk hg kp
            obtain ⟨wo, rfl⟩ : ∃ wo : World, wo = wr := ⟨_, rfl⟩
            go_wp2_with fail
            refine HCA.out.mono ?_
            rintro e w7 ⟨v7, rfl, o7, k7, -⟩
            have hmx := own_max o7
            unfold maxLen at hmx
            obtain ⟨A7, c7, rfl, -, -, hA7⟩ := own_shape o7
            have HO7 := Lib.hid o7
            have K7 := Lib.hid (KP.out.trans k7 (by simp))
            clear o7 k7 HCA KP
            go_wp2_with fail
            go_loopw [22] (fun i wz => ∃ k : Nat, k ≤ Lk.length ∧ i = .int .i64 k ∧ Keeps [] w7 wz) (fun i _ => Lk.length - (intOf i).toNat)
            case atStart => exact ⟨0, by omega, rfl, Keeps.refl _ _⟩
            case round =>
              obtain ⟨k, hk, rfl, kz⟩ := hrel
              by_cases hkl : k < Lk.length
              · obtain ⟨g7, rfl⟩ := hA7 (by omega)
                have ow := own_keep HO7.out kz (by simp)
                have y0 := own_cell ow (j := k * 4) (u := .int .i64 Lk[k].s) (by rw [show k * 4 = k * 4 + 0 by omega, T13.es_at hkl (by omega)]; rfl)
                have y2 := own_cell ow (j := k * 4 + 2) (u := .int .i64 Lk[k].f) (by rw [T13.es_at hkl (by omega)]; rfl)
                obtain ⟨t1, t2⟩ := HGJ.out Lk[k] (List.getElem_mem hkl)
                have KZ := Lib.hid kz
                clear ow kz
                generalize Lk[k] = en at *
                go_wp2_with fail
                go_roundw
                case rel => exact ⟨k + 1, by omega, by go_num, KZ.out⟩
                case measure => simp [intOf]; omega
              · obtain rfl : k = Lk.length := by omega
                have KZ := Lib.hid (K7.out.trans kz (by simp))
                clear kz
                go_wp2_with fail
                go_roundw
                case rel => exact ⟨j + 1, by omega, by go_num, KZ.out⟩
                case measure => simp [intOf]; omega
          · obtain rfl : j = N := by omega
            have HE := Lib.hid (HMW.out w6 wr HR.out kp)
            have HKW := Lib.hid (HR.out.keeps.trans kp (by simp))
            have t0 : ((sd : Int) == sd) = true := by simp
            clear kp HMW HG HMI2
            go_wp2_with fail
            refine HE.out.mono ?_
            rintro e w8 ⟨v8, rfl, o8, k8⟩
            obtain ⟨A8, c8, rfl, -, -, -⟩ := own_shape o8
            have KF := Lib.hid (HKW.out.trans k8 (by simp))
            clear o8 k8 HE HKW
            go_wp2_with fail
            go_ret
            exact ⟨rfl, KF.out⟩
end Go.Proofs.Yteognipfnbocpaa
