/- The reference: Writes, Reads, Logs, Names, children, New (printed by t13gen.py). -/
import Derived.Test.YtbllmpcpfmlemaaGreatT12
namespace Go.Proofs.YtbllmpcpfmlemaaGreat
open Go.RowKit
set_option maxRecDepth 100000 in
set_option maxHeartbeats 3200000 in
theorem rWrites_any {w : World} {d : Nat} {F G : List Nat} {C : St} (h : Rf w d F G C) (hR0 : Row0 C) (hl : C.length ≤ 1000000) (hb : ∀ x ∈ C, x.wr.length ≤ 1000000) (i : Int) :
    Calls Tryz.prog 26 #[.pointer (some ⟨d, 0, none⟩), .int .i64 i] w fun e w' => (∃ A cc, e = .returned (.slice A (wrP C i).length cc) ∧ w'.ownsRow 0 88 2 (.slice A (wrP C i).length cc) (wrP C i).length (rw pc (wrP C i))) ∧ Keeps [] w w' := by
  cases hh : has C i with
  | false =>
    have CP := Lib.hid (place_any h hl i)
    rw [plc_no hh] at CP
    have e0 : wrP C i = [] := by unfold wrP; rw [find_none.2 hh]
    rw [e0]
    clear e0
    clear h hh
    go_enter Tryz.func26, Tryz.ntmps26
    go_wp2_with fail
    refine CP.out.mono ?_
    rintro e w1 ⟨rfl, rfl⟩
    go_wp2_with fail
    go_ret
    exact ⟨⟨none, 0, rfl, World.ownsRow_nil _ _ _ _⟩, Keeps.refl _ _⟩
  | true =>
    obtain ⟨x, j, g, cap, ms, A1, A2, A3, p1, p2, p3, hf, hx, rfl, hp, hjn, hat, hz, hM, hpl⟩ := h.openM hR0 hh
    have CP := Lib.hid (place_any h hl x.id)
    rw [hp] at CP
    obtain ⟨f0, c0, c1, c2, c3, c4, ho, -, -⟩ := hpl
    obtain ⟨n, hn⟩ : ∃ n, C.length = n := ⟨_, rfl⟩
    have i0 : ¬ ((j : Int) < 0) := by omega
    have i2 : (0 : Int) ≤ (j : Int) := by omega
    have i3 : (j : Int) < (n : Int) := by omega
    rw [hn] at f0 hjn hl
    have e0 : wrP C x.id = x.wr := by unfold wrP; rw [hf]
    rw [e0]
    have hwl := hb x hx
    have HO := Lib.hid ho.wr
    obtain ⟨l, hll⟩ : ∃ l, x.wr = l := ⟨_, rfl⟩
    rw [hll] at HO hwl c2 ⊢
    obtain ⟨n1, hn1⟩ : ∃ z, l.length = z := ⟨_, rfl⟩
    rw [hn1] at HO hwl c2 ⊢
    clear h hh hf hx hp hat hz hM ho e0 hll hn1 hn c0 c1 c3 c4 hb
    go_enter Tryz.func26, Tryz.ntmps26
    go_wp2_with fail
    refine CP.out.mono ?_
    rintro e w1 ⟨rfl, rfl⟩
    have xa : (w1.alloc (.cells #[] 88)).cell? ⟨d, 0, none⟩ = some (.slice (some ⟨g, 0, none⟩) n cap) := (((Keeps.refl [] w1).alloc (.cells #[] 88)).cell (p := ⟨d, 0, none⟩) (cell_lt f0) (by simp)).trans f0
    have xb : (w1.alloc (.cells #[] 88)).cell? ⟨g, j * 5 + 2, none⟩ = some (.slice A1 n1 p1) := (((Keeps.refl [] w1).alloc (.cells #[] 88)).cell (p := ⟨g, j * 5 + 2, none⟩) (cell_lt c2) (by simp)).trans c2
    go_wp2_with (at_builtin; refine wpList_app _ rfl (.tmp 11) (.tmp 19) _ rfl 88 (.agg #[.string ⟨#[]⟩, .string ⟨#[]⟩]) 2 32 Tryz.underlying47 info88 rfl (by omega) (.slice (some ⟨w1.heap.size, 0, none⟩) 0 0) 0 [] rfl (own_of_blk (Blk.new w1 88 #[]) (by omega) (by omega) rfl rfl) _ _ _ _ (rw pc l) rfl (reads_own (own_keep HO.out ((Keeps.refl [] _).alloc _) (by simp))) (rw_one pc_one _) (by unfold maxLen; omega) (by omega) ?_)
    intro v' w' ho' hk' hf'
    obtain ⟨A5, p5, rfl, -, -, -⟩ := own_shape ho'
    have HO' : Hid (w'.ownsRow 0 88 2 (.slice A5 n1 p5) n1 (rw pc l)) := Lib.hid (by simpa using ho')
    have KK : Hid (Keeps [] w1 w') := Lib.hid (((Keeps.refl [] w1).alloc (.cells #[] 88)).trans hk' (fun g hg => .inr (by have h1 : g = w1.heap.size := (by simpa [fp, Value.ownBlock] using hg); omega)))
    clear ho' hk' hf'
    go_wp2_with fail
    go_ret
    exact ⟨⟨_, _, rfl, HO'.out⟩, KK.out⟩
set_option maxRecDepth 100000 in
set_option maxHeartbeats 3200000 in
theorem rReads_any {w : World} {d : Nat} {F G : List Nat} {C : St} (h : Rf w d F G C) (hR0 : Row0 C) (hl : C.length ≤ 1000000) (hb : ∀ x ∈ C, x.rd.length ≤ 2000000) (i : Int) :
    Calls Tryz.prog 29 #[.pointer (some ⟨d, 0, none⟩), .int .i64 i] w fun e w' => (∃ A cc, e = .returned (.slice A (rdsP C i).length cc) ∧ RdAt w' (.slice A (rdsP C i).length cc) (rdsP C i)) ∧ Keeps [] w w' := by
  cases hh : has C i with
  | false =>
    have CP := Lib.hid (place_any h hl i)
    rw [plc_no hh] at CP
    have e0 : rdsP C i = [] := by unfold rdsP; rw [find_none.2 hh]
    rw [e0]
    clear e0
    clear h hh
    go_enter Tryz.func29, Tryz.ntmps29
    go_wp2_with fail
    refine CP.out.mono ?_
    rintro e w1 ⟨rfl, rfl⟩
    go_wp2_with fail
    go_ret
    exact ⟨⟨none, 0, rfl, RdAt.nil _⟩, Keeps.refl _ _⟩
  | true =>
    obtain ⟨x, j, g, cap, ms, A1, A2, A3, p1, p2, p3, hf, hx, rfl, hp, hjn, hat, hz, hM, hpl⟩ := h.openM hR0 hh
    have CP := Lib.hid (place_any h hl x.id)
    rw [hp] at CP
    obtain ⟨f0, c0, c1, c2, c3, c4, ho, -, -⟩ := hpl
    obtain ⟨n, hn⟩ : ∃ n, C.length = n := ⟨_, rfl⟩
    have i0 : ¬ ((j : Int) < 0) := by omega
    have i2 : (0 : Int) ≤ (j : Int) := by omega
    have i3 : (j : Int) < (n : Int) := by omega
    rw [hn] at f0 hjn hl
    have e0 : rdsP C x.id = x.rd := by unfold rdsP; rw [hf]
    rw [e0]
    have hwl := hb x hx
    obtain ⟨xs, hxs, -, hcs⟩ := ho.rd
    have HX1 := Lib.hid (rd_one hxs.1 hcs)
    have HO := Lib.hid hxs
    have HC := Lib.hid hcs
    obtain ⟨l, hll⟩ : ∃ l, x.rd = l := ⟨_, rfl⟩
    rw [hll] at HO HC hwl c3 ⊢
    obtain ⟨n1, hn1⟩ : ∃ z, l.length = z := ⟨_, rfl⟩
    have HN1 := Lib.hid hn1
    rw [hn1] at HO hwl c3 ⊢
    clear h hh hf hx hp hat hz hM ho e0 hll hn1 hn c0 c1 c2 c4 hb hxs hcs
    go_enter Tryz.func29, Tryz.ntmps29
    go_wp2_with fail
    refine CP.out.mono ?_
    rintro e w1 ⟨rfl, rfl⟩
    have xa : (w1.alloc (.cells #[] 34)).cell? ⟨d, 0, none⟩ = some (.slice (some ⟨g, 0, none⟩) n cap) := (((Keeps.refl [] w1).alloc (.cells #[] 34)).cell (p := ⟨d, 0, none⟩) (cell_lt f0) (by simp)).trans f0
    have xb : (w1.alloc (.cells #[] 34)).cell? ⟨g, j * 5 + 3, none⟩ = some (.slice A2 n1 p2) := (((Keeps.refl [] w1).alloc (.cells #[] 34)).cell (p := ⟨g, j * 5 + 3, none⟩) (cell_lt c3) (by simp)).trans c3
    go_wp2_with (at_builtin; refine wpList_app _ rfl (.tmp 11) (.tmp 19) _ rfl 34 zv32 4 64 Tryz.underlying50 info34 rfl (by omega) (.slice (some ⟨w1.heap.size, 0, none⟩) 0 0) 0 [] rfl (own_of_blk (Blk.new w1 34 #[]) (by omega) (by omega) rfl rfl) _ _ _ _ xs rfl (reads_own (own_keep HO.out ((Keeps.refl [] _).alloc _) (by simp))) HX1.out (by unfold maxLen; omega) (by omega) ?_)
    intro v' w' ho' hk' hf'
    obtain ⟨A5, p5, rfl, -, -, -⟩ := own_shape ho'
    have KK : Hid (Keeps [] w1 w') := Lib.hid (((Keeps.refl [] w1).alloc (.cells #[] 34)).trans hk' (fun g hg => .inr (by have h1 : g = w1.heap.size := (by simpa [fp, Value.ownBlock] using hg); omega)))
    have HO' : Hid (RdAt w' (.slice A5 n1 p5) l) := Lib.hid ⟨xs, by rw [HN1.out]; simpa using ho', fun k hk => by
      obtain ⟨a, b, c, u, e, o, _⟩ := HC.out k hk
      exact ⟨a, b, c, u, e, own_keep o KK.out (by simp)⟩⟩
    clear ho' hk' hf'
    go_wp2_with fail
    go_ret
    exact ⟨⟨_, _, rfl, HO'.out⟩, KK.out⟩
set_option maxRecDepth 100000 in
set_option maxHeartbeats 3200000 in
theorem rLogs_any {w : World} {d : Nat} {F G : List Nat} {C : St} (h : Rf w d F G C) (hR0 : Row0 C) (hl : C.length ≤ 1000000) (hb : ∀ x ∈ C, x.lg.length ≤ 1000000) (i : Int) (k : Str) :
    Calls Tryz.prog 32 #[.pointer (some ⟨d, 0, none⟩), .int .i64 i, sv k] w fun e w' => e = .returned (sv (logsP C i k)) ∧ w' = w := by
  cases hh : has C i with
  | false =>
    have CP := Lib.hid (place_any h hl i)
    rw [plc_no hh] at CP
    have e0 : logsP C i k = [] := by unfold logsP; rw [find_none.2 hh]
    rw [e0]
    clear e0
    clear h hh
    go_enter Tryz.func32, Tryz.ntmps32
    go_wp2_with fail
    refine CP.out.mono ?_
    rintro e w1 ⟨rfl, rfl⟩
    go_wp2_with fail
    go_ret
    exact ⟨rfl, rfl⟩
  | true =>
    obtain ⟨x, j, g, cap, ms, A1, A2, A3, p1, p2, p3, hf, hx, rfl, hp, hjn, hat, hz, hM, hpl⟩ := h.openM hR0 hh
    have CP := Lib.hid (place_any h hl x.id)
    rw [hp] at CP
    obtain ⟨f0, c0, c1, c2, c3, c4, ho, -, -⟩ := hpl
    obtain ⟨n, hn⟩ : ∃ n, C.length = n := ⟨_, rfl⟩
    have i0 : ¬ ((j : Int) < 0) := by omega
    have i2 : (0 : Int) ≤ (j : Int) := by omega
    have i3 : (j : Int) < (n : Int) := by omega
    rw [hn] at f0 hjn hl
    have e0 : logsP C x.id k = (mget x.lg k).getD [] := by unfold logsP; rw [hf]
    rw [e0]
    have hwl := hb x hx
    have HO := Lib.hid ho.lg
    obtain ⟨l, hll⟩ : ∃ l, x.lg = l := ⟨_, rfl⟩
    rw [hll] at HO hwl c4 ⊢
    obtain ⟨V, hV⟩ : ∃ V, (mget l k).getD [] = V := ⟨_, rfl⟩
    have HV := Lib.hid hV
    rw [hV]
    obtain ⟨n1, hn1⟩ : ∃ z, l.length = z := ⟨_, rfl⟩
    have HN1 := Lib.hid hn1
    rw [hn1] at HO hwl c4
    clear h hh hf hx hp hat hz hM ho e0 hll hn1 hn c0 c1 c2 c3 hb hV
    go_enter Tryz.func32, Tryz.ntmps32
    go_wp2_with fail
    refine CP.out.mono ?_
    rintro e w1 ⟨rfl, rfl⟩
    go_wp2_with fail
    go_loopw [8] (fun iv wr => ∃ q : Nat, q ≤ n1 ∧ iv = .int .i64 q ∧ wr = w1 ∧ ∀ j (hj : j < l.length), j < q → l[j].1 ≠ k) (fun iv _ => n1 - (intOf iv).toNat)
    case atStart => exact ⟨0, by omega, rfl, rfl, fun j _ h => absurd h (by omega)⟩
    case round =>
      obtain ⟨q, hq, rfl, rfl, hno⟩ := hrel
      have HNO := Lib.hid hno
      clear hno
      by_cases hlt : q < n1
      · have hql : q < l.length := by rw [HN1.out]; exact hlt
        obtain ⟨A', c', hv, -, -, hA⟩ := own_shape HO.out
        obtain ⟨bl, hAA⟩ := hA (by omega)
        obtain ⟨rfl, rfl⟩ : A3 = A' ∧ p3 = c' := by injection hv with h1 h2 h3; exact ⟨h1, h3⟩
        subst hAA
        obtain ⟨y, hy⟩ : ∃ y, l[q].1 = y := ⟨_, rfl⟩
        obtain ⟨z, hz⟩ : ∃ z, l[q].2 = z := ⟨_, rfl⟩
        have y0 : wr.cell? ⟨bl, q * 2, none⟩ = some (sv y) := own_cell HO.out (by rw [← Nat.add_zero (q * 2), rw_at pc_len hql (by omega), ← hy]; rfl)
        have y1 : wr.cell? ⟨bl, q * 2 + 1, none⟩ = some (sv z) := own_cell HO.out (by rw [rw_at pc_len hql (by omega), ← hz]; rfl)
        have j0 : (0 : Int) ≤ (q : Int) := by omega
        have j1 : (q : Int) < (n1 : Int) := by omega
        by_cases he : y = k
        · have hm := mget_at hql (hy.trans he) HNO.out
          have hv2 : V = z := by rw [← HV.out, hm, ← hz]; rfl
          rw [he] at y0
          subst hv2
          clear he hy hz hm hql hv hA HNO
          go_wp2_with fail
          go_ret
          exact ⟨rfl, rfl⟩
        · have HN : Hid (∀ j (hj : j < l.length), j < q + 1 → l[j].1 ≠ k) := Lib.hid (fun j hj hjk => by
            by_cases hj2 : j < q
            · exact HNO.out j hj hj2
            · obtain rfl : j = q := by omega
              exact fun e => he (hy.symm.trans e))
          have hne : (y == k) = false := by simpa using he
          clear he hy hz hql hv hA HNO
          go_wp2_with fail
          exact ⟨⟨q + 1, by omega, rfl, (by first | rfl | trivial), HN.out⟩, by simp only [intOf]; omega⟩
      · obtain rfl : q = n1 := by omega
        have j1 : ¬ ((q : Int) < (q : Int)) := by omega
        have hm := mget_no (fun j hj => HNO.out j hj (by rw [← HN1.out]; exact hj))
        have hv : V = [] := by rw [← HV.out, hm]; rfl
        subst hv
        go_wp2_with fail
        go_ret
        exact ⟨rfl, rfl⟩
set_option maxRecDepth 100000 in
set_option maxHeartbeats 3200000 in
theorem rNames_any {w : World} {d : Nat} {F G : List Nat} {C : St} (h : Rf w d F G C) (hR0 : Row0 C) (hl : C.length ≤ 1000000) (hb : ∀ x ∈ C, x.lg.length ≤ 1000000) (i : Int) :
    Calls Tryz.prog 23 #[.pointer (some ⟨d, 0, none⟩), .int .i64 i] w fun e w' => (∃ v, e = .returned v ∧ w'.ownsRow 0 9 1 v (namesP C i).length (vs (namesP C i))) ∧ Keeps [] w w' := by
  cases hh : has C i with
  | false =>
    have CP := Lib.hid (place_any h hl i)
    rw [plc_no hh] at CP
    have e0 : namesP C i = [] := by unfold namesP; rw [find_none.2 hh]
    rw [e0]
    clear e0 h hh
    go_enter Tryz.func23, Tryz.ntmps23
    go_wp2_with fail
    refine CP.out.mono ?_
    rintro e w1 ⟨rfl, rfl⟩
    go_wp2_with fail
    go_loopw [6, 7] (fun vo iv wr => vo = .slice none 0 0 ∧ iv = .int .i64 0 ∧ wr = w1) (fun _ _ _ => 0)
    case atStart => exact ⟨rfl, rfl, rfl⟩
    case round =>
      obtain ⟨rfl, rfl, rfl⟩ := hrel
      go_wp2_with fail
      go_ret
      exact ⟨⟨_, rfl, World.ownsRow_nil _ _ _ _⟩, Keeps.refl _ _⟩
  | true =>
    obtain ⟨x, j, g, cap, ms, A1, A2, A3, p1, p2, p3, hf, hx, rfl, hp, hjn, hat, hz, hM, hpl⟩ := h.openM hR0 hh
    have CP := Lib.hid (place_any h hl x.id)
    rw [hp] at CP
    obtain ⟨f0, c0, c1, c2, c3, c4, ho, -, -⟩ := hpl
    obtain ⟨n, hn⟩ : ∃ n, C.length = n := ⟨_, rfl⟩
    have i0 : ¬ ((j : Int) < 0) := by omega
    have i2 : (0 : Int) ≤ (j : Int) := by omega
    have i3 : (j : Int) < (n : Int) := by omega
    rw [hn] at f0 hjn hl
    have e0 : namesP C x.id = x.lg.map (·.1) := by unfold namesP; rw [hf]
    rw [e0]
    have hwl := hb x hx
    have HO := Lib.hid ho.lg
    have im : max (j : Int) 0 = (j : Int) := by omega
    have i4 : (0 : Int) ≤ (j : Int) := by omega
    have hdl := cell_lt f0
    have hgl := cell_lt c4
    obtain ⟨l, hll⟩ : ∃ l, x.lg = l := ⟨_, rfl⟩
    rw [hll] at HO hwl c4 ⊢
    obtain ⟨n1, hn1⟩ : ∃ z, l.length = z := ⟨_, rfl⟩
    have HN1 := Lib.hid hn1
    rw [hn1] at HO hwl c4
    obtain ⟨nm, hnm⟩ : ∃ nm, l.map (·.1) = nm := ⟨_, rfl⟩
    have HNM := Lib.hid hnm
    have hnl : nm.length = n1 := by rw [← hnm, List.length_map]; exact hn1
    have HNL := Lib.hid hnl
    rw [hnm]
    clear hnm hnl
    have HF0 := Lib.hid f0
    have HC4 := Lib.hid c4
    clear h hh hf hx hp hat hz hM ho e0 hll hn1 hn c0 c1 c2 c3 hb c4 f0
    go_enter Tryz.func23, Tryz.ntmps23
    go_wp2_with fail
    refine CP.out.mono ?_
    rintro e w1 ⟨rfl, rfl⟩
    go_wp2_with fail
    go_loopw [6, 7] (fun vo iv wr => ∃ q : Nat, q ≤ n1 ∧ iv = .int .i64 q ∧ wr.ownsRow 0 9 1 vo q (vs (nm.take q)) ∧ Keeps [] w1 wr ∧ ∀ g ∈ fp vo, w1.heap.size ≤ g) (fun _ iv _ => n1 - (intOf iv).toNat)
    case atStart => exact ⟨0, by omega, rfl, World.ownsRow_nil _ _ _ _, Keeps.refl _ _, by simp⟩
    case round =>
      obtain ⟨q, hq, rfl, hov, hkr, hfr⟩ := hrel
      have HOV := Lib.hid hov
      have KR := Lib.hid hkr
      have FR := Lib.hid hfr
      clear hov hkr hfr
      obtain ⟨Bo, do_, hvo, -, -, -⟩ := own_shape HOV.out
      subst hvo
      have f0 : wr.cell? ⟨d, 0, none⟩ = some (.slice (some ⟨g, 0, none⟩) n cap) := (KR.out.cell (p := ⟨d, _, none⟩) hdl (by simp)).trans HF0.out
      have c4 : wr.cell? ⟨g, j * 5 + 4, none⟩ = some (.slice A3 n1 p3) := (KR.out.cell (p := ⟨g, _, none⟩) hgl (by simp)).trans HC4.out
      by_cases hlt : q < n1
      · have hql : q < l.length := by rw [HN1.out]; exact hlt
        obtain ⟨A', c', hv, -, -, hA⟩ := own_shape HO.out
        obtain ⟨bl, hAA⟩ := hA (by omega)
        obtain ⟨rfl, rfl⟩ : A3 = A' ∧ p3 = c' := by injection hv with h1 h2 h3; exact ⟨h1, h3⟩
        subst hAA
        obtain ⟨y, hy⟩ : ∃ y, l[q].1 = y := ⟨_, rfl⟩
        have y0 : wr.cell? ⟨bl, q * 2, none⟩ = some (sv y) := own_cell (own_keep HO.out KR.out (by simp)) (by rw [← Nat.add_zero (q * 2), rw_at pc_len hql (by omega), ← hy]; rfl)
        have j0 : (0 : Int) ≤ (q : Int) := by omega
        have j1 : (q : Int) < (n1 : Int) := by omega
        have j2 : q < n1 := hlt
        have hnq : q < nm.length := by rw [HNL.out]; exact hlt
        have hyn : nm[q] = y := by
          have e : (l.map (·.1))[q]'(by rw [List.length_map]; exact hql) = y := by rw [List.getElem_map]; exact hy
          have : ∀ (m : List Str) (hm : l.map (·.1) = m) (h : q < m.length), m[q] = y := fun m hm h => by subst hm; exact e
          exact this nm HNM.out hnq
        have hnx : vs (nm.take (q + 1)) = vs (nm.take q) ++ [sv y] := by
          rw [List.take_succ_eq_append_getElem hnq, hyn]
          simp [vs]
        have HNX := Lib.hid hnx
        have GA : Hid ((wr.alloc (.cells #[sv y] 9)).ownsRow 0 9 1 (.slice Bo q do_) q (vs (nm.take q))) := Lib.hid (own_keep HOV.out ((Keeps.refl [] wr).alloc _) (by simp))
        have RB := Lib.hid (reads_blk (Blk.new wr 9 #[sv y]) (xs := [sv y]) (size := 1) rfl rfl)
        clear hnx hy hv hA hql hnq hyn
        go_wp2_with (at_builtin; refine wpList_app _ rfl (.tmp 29) (.tmp 42) _ rfl 9 (.string ⟨#[]⟩) 1 16 Tryz.underlying29 info9 rfl (by omega) (.slice Bo q do_) _ _ rfl GA.out _ _ _ _ [sv y] rfl RB.out (vs_one [y]) (by unfold maxLen; omega) (by omega) ?_)
        intro v5 w5 o5 k5 f5
        have O5 : Hid (w5.ownsRow 0 9 1 v5 (q + 1) (vs (nm.take (q + 1)))) := Lib.hid (by rw [HNX.out]; exact o5)
        have K5 : Hid (Keeps [] w1 w5) := Lib.hid ((KR.out.alloc _).trans k5 (fun g hg => .inr (FR.out g hg)))
        have F5 : Hid (∀ g ∈ fp v5, w1.heap.size ≤ g) := Lib.hid (fun g hg => (f5 g hg).elim (FR.out g) (fun h => by have := KR.out.size; omega))
        clear o5 k5 f5 GA RB f0 c4 y0
        go_wp2_with fail
        exact ⟨⟨q + 1, by omega, rfl, O5.out, K5.out, F5.out⟩, by simp only [intOf]; omega⟩
      · obtain rfl : q = n1 := by omega
        have j1 : ¬ ((q : Int) < (q : Int)) := by omega
        have hv : w1 = w1 := rfl
        have HV : Hid (wr.ownsRow 0 9 1 (.slice Bo q do_) nm.length (vs nm)) := Lib.hid (by
          have := HOV.out
          rw [List.take_of_length_le (by rw [HNL.out]; omega)] at this
          rw [HNL.out]
          exact this)
        clear hv
        go_wp2_with fail
        go_ret
        exact ⟨⟨_, rfl, HV.out⟩, KR.out⟩
theorem kids_has {C : St} {i : Int} : 0 < kids C i ↔ ∃ x ∈ C, x.id ≠ 0 ∧ x.par = i := by
  unfold kids
  rw [List.countP_pos_iff]
  simp
set_option maxRecDepth 100000 in
set_option maxHeartbeats 3200000 in
theorem rChildren_any {w : World} {d : Nat} {F G : List Nat} {C : St} (h : Rf w d F G C) (hR0 : Row0 C) (hl : C.length ≤ 1000000) (i : Int) :
    Calls Tryz.prog 83 #[.pointer (some ⟨d, 0, none⟩), .int .i64 i] w fun e w' => e = .returned (.bool (decide (0 < kids C i))) ∧ w' = w := by
  obtain ⟨A, cap, ms, h⟩ := h
  have f0 : w.cell? ⟨d, 0, none⟩ = some (.slice A C.length cap) := h.b.cell 0
  have HR := Lib.hid h
  have hrl : C.reverse.length = C.length := List.length_reverse
  have HRL := Lib.hid hrl
  have hn1 : 1 ≤ C.length := by have := hR0.first; obtain ⟨h0, _⟩ := this; omega
  obtain ⟨V, hV⟩ : ∃ V, decide (0 < kids C i) = V := ⟨_, rfl⟩
  have HV := Lib.hid hV
  have HR0 := Lib.hid hR0
  rw [hV]
  obtain ⟨n, hn⟩ : ∃ n, C.length = n := ⟨_, rfl⟩
  rw [hn] at f0 hl HRL hn1
  clear h hrl hV hn hR0
  go_enter Tryz.func83, Tryz.ntmps83
  go_wp2_with fail
  go_loopw [5] (fun iv wr => ∃ k : Nat, 1 ≤ k ∧ k ≤ n ∧ iv = .int .i64 k ∧ wr = w ∧ ∀ j (hj : j < C.reverse.length), 1 ≤ j → j < k → C.reverse[j].par ≠ i) (fun iv _ => n - (intOf iv).toNat)
  case atStart => exact ⟨1, by omega, by omega, rfl, rfl, fun j _ h1 h => absurd h (by omega)⟩
  case round =>
    obtain ⟨k, hk1, hk, rfl, rfl, hno⟩ := hrel
    have HNO := Lib.hid hno
    clear hno
    by_cases hlt : k < n
    · have hkr : k < C.reverse.length := by rw [HRL.out]; exact hlt
      obtain ⟨x, hx⟩ : ∃ x, C.reverse[k] = x := ⟨_, rfl⟩
      obtain ⟨g, hg, -, c1, -⟩ := HR.out.cellsX hkr hx
      have i0 : (0 : Int) ≤ (k : Int) := by omega
      have i1 : (k : Int) < (n : Int) := by omega
      by_cases he : x.par = i
      · have hv : V = true := by
          rw [← HV.out, decide_eq_true_eq, kids_has]
          refine ⟨x, by rw [← hx]; exact List.mem_reverse.1 (List.getElem_mem hkr), ?_, he⟩
          intro h0
          have := (HR0.out.zero hkr).2 (by rw [hx]; exact h0)
          omega
        subst hv
        rw [he] at c1
        clear he HNO HV HR hx hkr
        subst hg
        go_wp2_with fail
        go_ret
        exact ⟨rfl, rfl⟩
      · have HN : Hid (∀ j (hj : j < C.reverse.length), 1 ≤ j → j < k + 1 → C.reverse[j].par ≠ i) := Lib.hid (fun j hj h1 hjk => by
          by_cases hj2 : j < k
          · exact HNO.out j hj h1 hj2
          · obtain rfl : j = k := by omega
            rw [hx]; exact he)
        obtain ⟨z, hz⟩ : ∃ z, x.par = z := ⟨_, rfl⟩
        rw [hz] at c1 he
        have hne : (z == i) = false := by simpa using he
        clear he hz HNO hkr hx
        subst hg
        go_wp2_with fail
        exact ⟨⟨k + 1, by omega, by omega, rfl, (by first | rfl | trivial), HN.out⟩, by simp only [intOf]; omega⟩
    · obtain rfl : k = n := by omega
      have i1 : ¬ ((k : Int) < (k : Int)) := by omega
      have hv : V = false := by
        rw [← HV.out, decide_eq_false_iff_not, kids_has]
        rintro ⟨x, hx, h0, hp⟩
        obtain ⟨j, hj, e⟩ := List.mem_iff_getElem.1 (List.mem_reverse.2 hx)
        have hj1 : 1 ≤ j := by
          rcases Nat.eq_zero_or_pos j with h | h
          · have := (HR0.out.zero hj).1 h
            rw [e] at this
            exact absurd this h0
          · exact h
        exact HNO.out j hj hj1 (by rw [← HRL.out]; exact hj) (by rw [e]; exact hp)
      subst hv
      go_wp2_with fail
      go_ret
      exact ⟨rfl, rfl⟩
set_option maxRecDepth 100000 in
set_option maxHeartbeats 1600000 in
theorem rNew_any (w : World) : Calls Tryz.prog 9 #[] w fun e w' => ∃ d F, e = .returned (.pointer (some ⟨d, 0, none⟩)) ∧ Rf w' d F [] new0 ∧ (∀ g ∈ F, w.heap.size ≤ g) ∧ Keeps [] w w' := by
  go_enter Tryz.func9, Tryz.ntmps9
  go_wp2_with fail
  go_ret
  have b0 : Blk (w.alloc (.cells #[.int .i64 0, .int .i64 0, .slice none 0 0, .slice none 0 0, .slice none 0 0] 68)) w.heap.size 68 #[.int .i64 0, .int .i64 0, .slice none 0 0, .slice none 0 0, .slice none 0 0] := Blk.new _ _ _
  obtain ⟨W, hW⟩ : ∃ W, w.alloc (.cells #[.int .i64 0, .int .i64 0, .slice none 0 0, .slice none 0 0, .slice none 0 0] 68) = W := ⟨_, rfl⟩
  have k0 : Keeps [] w W := by rw [← hW]; exact (Keeps.refl _ _).alloc _
  have hs : W.heap.size = w.heap.size + 1 := by rw [← hW]; simp
  rw [hW] at b0 ⊢
  have b1 := Blk.new W 71 #[.slice (some ⟨w.heap.size, 0, none⟩) 1 1]
  rw [hs] at b1
  refine ⟨w.heap.size + 1, [w.heap.size + 1, w.heap.size], rfl, ⟨some ⟨w.heap.size, 0, none⟩, 1, fun _ => (.slice none 0 0, .slice none 0 0, .slice none 0 0), b1, ?_, ?_, by simp, by simp [fp, Value.ownBlock], ?_, by simp, by simp⟩, ?_, k0.alloc _⟩
  · exact own_of_blk (cap := 1) (b0.alloc _) (by simp [new0]) (by unfold maxLen; omega) rfl rfl
  · intro x hx
    rw [List.mem_singleton.1 hx]
    exact ⟨World.ownsRow_nil _ _ _ _, ⟨[], World.ownsRow_nil _ _ _ _, by simp, fun k hk => absurd hk (by simp)⟩, World.ownsRow_nil _ _ _ _, by simp, by simp⟩
  · intro g hg
    have := b1.lt
    have := (b0.alloc (.cells #[.slice (some ⟨w.heap.size, 0, none⟩) 1 1] 71)).lt
    rcases List.mem_cons.1 hg with rfl | hg
    · omega
    · rw [List.mem_singleton.1 hg]; omega
  · intro g hg
    rcases List.mem_cons.1 hg with rfl | hg
    · omega
    · rw [List.mem_singleton.1 hg]; omega
end Go.Proofs.YtbllmpcpfmlemaaGreat
