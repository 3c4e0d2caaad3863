/- The walk of MmuTells. -/
import Derived.Test.YteognipfnbocpaaGreatQ21
import Derived.Test.YteognipfnbocpaaGreatOps
namespace Go.Proofs.YteognipfnbocpaaGreat
open Go.RowKit
open T12 (E TbRep ent ents cells5 lookX mapN)
open T13 (Tl En TlRep es Nd)

/-- The state ahead of round i. -/
structure TI (w wr : World) (p p2 i n : Nat) (ks : List Int) (s : Mm) (r : Rm) : Prop where
  z : TZ w wr p p2 s r
  m : MI (2 * i) ks s
  sim : Sim s r
  nd : NdC s
  l : s.C.length = n
  k : r.N.length ≤ i
theorem TI.hk {w wr : World} {p p2 i n : Nat} {ks : List Int} {s : Mm} {r : Rm} (h : TI w wr p p2 i n ks s r) : ∀ k ∈ r.C, k.n ≤ 1000 ∧ Nd k.L ∧ k.L.length ≤ 1000 := fun k hk => by
  rw [← h.sim.c] at hk
  have h1 := h.m.k k hk
  exact ⟨by rw [h1.1]; omega, h.nd k hk, by have := h1.2; omega⟩
theorem TI.start {w w1 w2 : World} {p p2 n : Nat} {F F2 : List Nat} (hn : n ≤ 8) (k1 : Keeps [] w w1) (h1 : MmRep w1 F p (mm0 n)) (f1 : ∀ g ∈ F, w.heap.size ≤ g) (h2 : RmRep w2 F2 p2 (rm0 n)) (k2 : Keeps [] w1 w2) (f2 : ∀ g ∈ F2, w1.heap.size ≤ g) : TI w w2 p p2 0 n [] (mm0 n) (rm0 n) := by
  have := k1.size
  refine ⟨⟨F, F2, h1.keep k2 (by simp), h2, k1.trans k2 (by simp), f1, fun g hg => by have := f2 g hg; omega, fun g hg hg2 => by have := h1.lt g hg; have := f2 g hg2; omega⟩, MI.zero hn, ⟨fun x => ?_, rfl, rfl, List.Pairwise.nil, rfl⟩, fun k hk => ?_, by simp [mm0], Nat.le_refl _⟩
  · rfl
  · have : k = tl0 := List.eq_of_mem_replicate hk
    rw [this]
    exact List.Pairwise.nil
set_option maxRecDepth 1000000 in
set_option maxHeartbeats 6400000 in
theorem tells_any (w : World) (nn : Int) (A : Option Addr) (m c : Nat) (f : Nat → Op) (hm : m ≤ 9223372036854775807)
    (hA : 0 < m → ∃ bl off, A = some ⟨bl, off, none⟩ ∧ OpsAt w bl off m f) :
    Calls Tryz.prog 3 #[.int .i64 nn, .slice A m c] w fun e w' => e = .returned (.bool true) ∧ Keeps [] w w' := by
  by_cases g1 : 8 < nn ∨ 100 < m
  · by_cases a2 : 8 < nn
    · go_enter Tryz.func3, Tryz.ntmps3
      go_wp2_with fail
      refine (small_any _).mono ?_
      rintro e w1 ⟨rfl, k1⟩
      go_wp2
      go_ret
      exact ⟨rfl, k1⟩
    have a3 : 100 < m := by omega
    clear g1
    go_enter Tryz.func3, Tryz.ntmps3
    go_wp2_with fail
    refine (small_any _).mono ?_
    rintro e w1 ⟨rfl, k1⟩
    go_wp2
    go_ret
    exact ⟨rfl, k1⟩
  have b2 : nn ≤ 8 := by omega
  have b3 : m ≤ 100 := by omega
  clear g1 hm
  obtain ⟨N, hN⟩ : ∃ N : Nat, nn.toNat = N := ⟨_, rfl⟩
  have hN8 : N ≤ 8 := by omega
  have HN := Lib.hid hN
  clear hN
  go_enter Tryz.func3, Tryz.ntmps3
  go_wp2_with fail
  refine (small_any _).mono ?_
  rintro e w1 ⟨rfl, k1⟩
  go_wp2_with fail
  refine (new_any _ nn (by omega)).mono ?_
  rintro e w2 ⟨F, p, rfl, h2, k2, f2⟩
  have K2 := Lib.hid (k1.trans k2 (by simp))
  have hs1 := k1.size
  have F2 := Lib.hid (fun g (hg : g ∈ F) => Nat.le_trans hs1 (f2 g hg))
  have H2 := Lib.hid h2
  clear h2 k2 f2 k1 hs1
  go_wp2_with fail
  refine (rnew_any _ nn (by omega)).mono ?_
  rintro e w3 ⟨G, p2, rfl, h3, k3, f3⟩
  have I0 : TI w w3 p p2 0 N [] (mm0 N) (rm0 N) := by
    have h2 := H2.out
    rw [HN.out] at h2 h3
    exact TI.start hN8 K2.out h2 F2.out h3 k3 f3
  clear h3 k3 f3 H2 K2 F2
  go_wp2_with fail
  go_loopw [8] (fun i wr => ∃ (k : Nat) (ks : List Int) (s : Mm) (r : Rm), k ≤ m ∧ i = .int .i64 k ∧ TI w wr p p2 k N ks s r) (fun i _ => m - (intOf i).toNat)
  case atStart => exact ⟨0, [], _, _, by omega, rfl, I0⟩
  case round =>
    clear I0
    obtain ⟨i, ks, s, r, hi, rfl, I⟩ := hrel
    by_cases hlt : i < m
    rotate_left
    · obtain rfl : i = m := by omega
      go_wp2
      go_ret
      exact ⟨rfl, I.z.keeps⟩
    obtain ⟨bl, off, rfl, O⟩ := hA (by omega)
    clear hA
    have O1 := O.keep I.z.keeps
    have wf := O.wf i hlt
    obtain ⟨o, ho⟩ : ∃ o, o = f i := ⟨_, rfl⟩
    have q0 := O1.c0 i hlt
    have q1 := O1.c1 i hlt
    have q2 := O1.c2 i hlt
    have q3 := O1.c3 i hlt
    have q4 := O1.c4 i hlt
    have q5 := O1.c5 i hlt
    rw [← ho] at q0 q1 q2 q3 q4 q5 wf
    have tw := I.z.tw o
    have BX := tw.blk
    have hd := tw.do_ I.m (by omega) wf
    unfold Op.v at hd
    unfold Op.cs at tw BX hd
    have HD := Lib.hid hd
    have x0 := BX.cell 0
    have x1 := BX.cell 1
    have x2 := BX.cell 2
    have x3 := BX.cell 3
    have x4 := BX.cell 4
    have x5 := BX.cell 5
    have HI := Lib.hid I
    have HWF := Lib.hid wf
    have HO := Lib.hid O
    clear I O O1 wf ho tw BX hd
    go_wp2_with fail
    refine HD.out.mono ?_
    rintro e w5 ⟨v, rfl, t5⟩
    obtain ⟨xb, hxb⟩ : ∃ xb, xb = wr.heap.size := ⟨_, rfl⟩
    rw [← hxb] at t5 ⊢
    have ok := HI.out.m.ok (by omega)
    have b5 := t5.blk
    unfold Op.cs at b5
    have y0 := b5.cell 0
    have y1 := b5.cell 1
    have y2 := b5.cell 2
    have y3 := b5.cell 3
    have y4 := b5.cell 4
    have y5 := b5.cell 5
    have hm5 := t5.model HI.out.sim (by have := HI.out.k; omega) HI.out.hk (by rw [← HI.out.sim.c, HI.out.l]; omega) (by rw [← HI.out.sim.n]; exact ok.n0) (by rw [← HI.out.sim.n]; exact ok.n1) HI.out.m.nd HI.out.m.ki
    unfold Op.v at hm5
    have HM := Lib.hid hm5
    clear t5 ok b5 hm5 HD x0 x1 x2 x3 x4 x5 hxb q0 q1 q2 q3 q4 q5
    go_wp2_with fail
    refine HM.out.mono ?_
    rintro e w6 ⟨u, r', rfl, ou, ov, t6, sim6, hk6⟩
    obtain ⟨a, ha⟩ : ∃ a, opA ks s o = a := ⟨_, rfl⟩
    obtain ⟨b, hb⟩ : ∃ b, opB s o = b := ⟨_, rfl⟩
    have hT : TI w w6 p p2 (i + 1) N (addK ks o.x) (s.op o) r' := ⟨t6.tz, by have := HI.out.m.op o; rwa [show 2 * i + 2 = 2 * (i + 1) by omega] at this, sim6, HI.out.nd.op o, by rw [op_len]; exact HI.out.l, by have := HI.out.k; omega⟩
    have HT := Lib.hid hT
    have HW6 := Lib.hid (And.intro t6 (And.intro ou ov))
    rw [ha, hb]
    have hkk : (s.op o).k ≤ 1000000 := by have := hT.m.kk; omega
    have hNN : r'.N.length ≤ 1000000 := by have := hT.k; omega
    have HB6 := Lib.hid (And.intro hkk hNN)
    have b6 := t6.blk
    unfold Op.cs at b6
    have z2 := b6.cell 2
    have z3 := b6.cell 3
    clear ha hb hT HM HI ou ov t6 sim6 hk6 y0 y1 y2 y3 y4 y5 hkk hNN b6
    go_wp2_with fail
    go_upto_region 14 with fail
    refine treg14_any w6 p p2 a b r'.n v u (r'.N.filter (hasR r')) _ (fun W k => (HW6.out.1.same k).cell3) (fun W k => ints_any W v u _ (own_keep HW6.out.2.2 k (by simp)) (own_keep HW6.out.2.1 k (by simp)))
      (fun W k => (HW6.out.1.same k).shot.mono (by rintro e w' ⟨rfl, rfl⟩; exact ⟨by rw [HT.out.sim.n], Keeps.refl _ _⟩))
      (fun W k => (HW6.out.1.same k).spaces HB6.out.1 HT.out.sim) (fun W k => (HW6.out.1.same k).rspaces HT.out.sim.a HB6.out.2) _ _ _ _ _ _ _ _ _ _ _ _ _ _ _ _ _ _ _ _ _ _ _ _ _ _ _ _ _ _ _ _ _ _ _ _ _ _ _ _ _ _ _ _ _ _ _ _ _ _ _ _ _ _ _ _ _ _ _ _ _ _ _ _ _ _ _ _ _ _ _ _ _ _ _ _ _ _ _ _ _ _ _ _ _ _ _ _ _ _ _ _ _ _ _ _ _ _ _ _ _ _ _ _ _ _ _ _ _ _ _ _ _ _ _ _ _ _ _ _ _ _ _ _ _ _ _ _ _ _ _ _ _ ?_
    intro v59 v60 v61 v62 v63 v64 v65 v66 v67 v68 v69 v70 v71 v72 v73 v74 v75 v76 v77 v78 v79 v80 v81 v82 v83 v84 v85 v86 v87 v88 w7 k7
    have t7 := HW6.out.1.same k7
    have b7 := t7.blk
    unfold Op.cs at b7
    have c2 := b7.cell 2
    have c3 := b7.cell 3
    have hl := t7.look o.x o.pg HWF.out.x1 HWF.out.x2 HWF.out.p1 HWF.out.p2
    have HR := Lib.hid (fun W (k : Keeps [] w7 W) => (t7.same k).rlook o.x o.pg)
    rw [HT.out.sim.t o.x] at hl
    have HL := Lib.hid hl
    have HT7 := Lib.hid t7
    unfold pteV at HL HR
    generalize lookX (r'.tab o.x) o.pg = lx at *
    generalize (ent (r'.tab o.x) o.pg).isSome = had at *
    clear t7 b7 hl k7 HW6 z2 z3
    go_wp2_with fail
    refine HL.out.mono ?_
    rintro e w8 ⟨rfl, k8⟩
    have ka : Keeps [] w8 (w8.alloc (.cells #[.int .i64 lx.1, .int .i64 lx.2.fr, .bool lx.2.wr, .bool lx.2.ac, .bool lx.2.di] 42)) := (Keeps.refl _ _).alloc _
    have by8 := Blk.new w8 42 #[.int .i64 lx.1, .int .i64 lx.2.fr, .bool lx.2.wr, .bool lx.2.ac, .bool lx.2.di]
    have t8 := HT7.out.same (k8.trans ka (by simp))
    have R8 := HR.out _ (k8.trans ka (by simp))
    have b8 := t8.blk
    have b8' := (HT7.out.same k8).blk
    unfold Op.cs at b8 b8'
    have d2 := b8.cell 2
    have d3 := b8.cell 3
    have e2 := b8'.cell 2
    have e3 := b8'.cell 3
    have HY := Lib.hid by8
    have HT8 := Lib.hid t8
    have HR8 := Lib.hid R8
    clear k8 ka by8 t8 R8 b8 b8' HL HR HT7 c2 c3
    go_wp2_with fail
    refine HR8.out.mono ?_
    rintro e w9 ⟨rfl, k9⟩
    have ka : Keeps [] w9 (w9.alloc (.cells #[.int .i64 lx.1, .int .i64 lx.2.fr, .bool lx.2.wr, .bool lx.2.ac, .bool lx.2.di] 42)) := (Keeps.refl _ _).alloc _
    have by9 := Blk.new w9 42 #[.int .i64 lx.1, .int .i64 lx.2.fr, .bool lx.2.wr, .bool lx.2.ac, .bool lx.2.di]
    have by8 := HY.out.keep (k9.trans ka (by simp)) (by simp)
    have t9 := HT8.out.same (k9.trans ka (by simp))
    have HP := Lib.hid (And.intro by8 (And.intro by9 t9))
    clear k9 ka by9 by8 t9 HY HT8 HR8 d2 d3 e2 e3
    go_wp2_with fail
    go_upto_region 18 with fail
    obtain ⟨w10, hw10⟩ : ∃ W, w9.alloc (.cells #[.int .i64 lx.1, .int .i64 lx.2.fr, .bool lx.2.wr, .bool lx.2.ac, .bool lx.2.di] 42) = W := ⟨_, rfl⟩
    obtain ⟨Y1, hY1⟩ : ∃ Y, w8.heap.size = Y := ⟨_, rfl⟩
    obtain ⟨Y2, hY2⟩ : ∃ Y, w9.heap.size = Y := ⟨_, rfl⟩
    rw [hw10, hY1, hY2] at HP
    rw [hw10, hY1, hY2]
    have hC64 : (s.op o).C.length ≤ 64 := by rw [HT.out.l]; omega
    refine treg18_any w10 p p2 xb Y1 Y2 lx.1 lx.2.fr lx.2.wr lx.2.ac lx.2.di had o (ents (r'.tab o.x) 256) (cacheC r'.C o.cpu) _
      (fun W k => ⟨HP.out.1.keep k (by simp), HP.out.2.1.keep k (by simp), (HP.out.2.2.same k).blk⟩)
      (fun W k => by have := (HP.out.2.2.same k).entries o.x HWF.out.x1 HWF.out.x2; rwa [HT.out.sim.t o.x] at this) (fun W k => (HP.out.2.2.same k).rentries o.x)
      (fun W k => by have := (HP.out.2.2.same k).cache o.cpu (fun k hk => (HT.out.hk k (by rw [← HT.out.sim.c]; exact hk)).1) hC64; rwa [HT.out.sim.c] at this) (fun W k => (HP.out.2.2.same k).rcache o.cpu (fun k hk => (HT.out.hk k hk).1)) _ _ _ _ _ _ _ _ _ _ _ _ _ _ _ _ _ _ _ _ _ _ _ _ _ _ _ _ _ _ _ _ _ _ _ _ _ _ _ _ _ _ _ _ _ _ _ _ _ _ _ _ _ _ _ _ _ _ _ _ _ _ _ _ _ _ _ _ _ _ _ _ _ _ _ _ _ _ _ _ _ _ _ _ _ _ _ _ _ _ _ _ _ _ _ _ _ _ _ _ _ _ _ _ _ _ _ _ _ _ _ _ _ _ _ _ _ _ _ _ _ _ _ _ _ _ _ _ _ _ _ _ _ _ ?_
    intro v108 v109 v110 v111 v112 v113 v114 v115 v116 v117 v118 v119 v120 v121 v122 v123 v124 v125 v126 v127 v128 v129 v130 v131 v132 v133 v134 v135 v136 v137 v138 w11 k11
    have HF : Hid (TI w w11 p p2 (i + 1) N (addK ks o.x) (s.op o) r') := Lib.hid ⟨(HP.out.2.2.same k11).tz, HT.out.m, HT.out.sim, HT.out.nd, HT.out.l, HT.out.k⟩
    clear k11 HP HT hw10 hY1 hY2 hC64
    go_wp2_with fail
    go_roundw
    case rel => exact ⟨i + 1, _, _, _, by omega, by go_num, HF.out⟩
    case measure => simp [intOf]; omega
end Go.Proofs.YteognipfnbocpaaGreat
