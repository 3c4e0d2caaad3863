/- The walk of MmuCoheres. -/
import Derived.Test.YteognipfnbocpaaX0
import Derived.Deep.RegionHeld3
namespace Go.Proofs.Yteognipfnbocpaa
open Go.RowKit
open T12 (E TbRep ent mapM mapN lookX)
open T13 (Tl En TlRep es)

/-- The state ahead of round i. -/
structure CI (w wr : World) (p i n : Nat) (ks : List Int) (s : Mm) : Prop where
  r : MmW w wr p s
  m : MI (2 * i) ks s
  c : Coh s
  l : s.C.length = n
theorem CI.op {w wr w' : World} {p i n : Nat} {ks : List Int} {s : Mm} (h : CI w wr p i n ks s) {o : Op} (wf : o.Wf) (r : MmW w w' p (s.op o)) : CI w w' p (i + 1) n (addK ks o.x) (s.op o) :=
  ⟨r, by have := h.m.op o; rwa [show 2 * i + 2 = 2 * (i + 1) by omega] at this, h.c.op o wf, by rw [op_len]; exact h.l⟩

/-- A whole row stored into a block, as one step of a drawn region. -/
theorem step_store_blk {P : Program} {ops : Array Oper} {o : Oper} {a : Act} {w : World} {K : Act → World → Prop} {Q : Exit → Act → World → Prop} {E : Prop} (hgd : o.guard = none) (ty : TypeId) (x y : Operand) (ho : o.op = .store ty x y)
    (g : Nat) (hx : a.eval x = .pointer (some ⟨g, 0, none⟩)) (t : TypeId) (old cs : Array Value) (hb : Blk w g t old) (hy : a.eval y = .agg cs) (hs : cs.size = old.size) (h1 : ∀ v ∈ cs.toList, v.oneCell' = true)
    (hi : (P.info? ty).map (·.size) = some cs.size)
    (h : ∀ w', Blk w' g t cs → Keeps [g] w w' → K (a.put o.dst undef) w') : if Region.wanted o (yielded ops a.tmps) = true then Oper.wp P o a w K Q else E := by
  have hw : Region.wanted o (yielded ops a.tmps) = true := by simp [Region.wanted, hgd]
  rw [if_pos hw]
  cases hq : P.info? ty with
  | none => simp [hq] at hi
  | some i =>
    have hsz : i.size = cs.size := by simpa [hq] using hi
    have hst := run_storeCells_at P g 0 t cs.toList 0 old w hb (by simp [hs]) h1
    have e : (old.toList.take (0 + 0) ++ cs.toList ++ old.toList.drop (0 + 0 + cs.toList.length)).toArray = cs := by
      rw [List.drop_of_length_le (by simp [hs])]; simp
    rw [e] at hst
    have hsv : (storeVar ty ⟨g, 0, none⟩ (.agg cs)).run P w = .ok () (w.setRow g cs) := by
      simp [storeVar, sizeOf, typeInfo, hq, hsz, Value.cells, hst]
    unfold Oper.wp execOp
    simp only [ho, hx, hy, Instr.storeAt, Instr.sureAddr, Sem.run_bind, Sem.run_pure, Result.andThen_ok, hsv]
    have := h _ (setRow_heap w g old cs t _ hb) ⟨rfl, rfl, rfl, by simp [World.setRow], fun k _ hk => setRow_other w g k cs (by simpa using hk)⟩
    simp only [Oper.upon]
    exact this
/-- What lies from B on, and lay there before, is as it was. -/
def Above (B : Nat) (w w' : World) : Prop := ∀ k, B ≤ k → k < w.heap.size → w'.heap[k]? = w.heap[k]?
theorem Blk.above {w w' : World} {g B : Nat} {t : TypeId} {cs : Array Value} (h : Blk w g t cs) (ha : Above B w w') (hg : B ≤ g) : Blk w' g t cs := (ha g hg h.lt).trans h
theorem MmW.do2 {w0 wr w : World} {p N : Nat} {s : Mm} {ks : List Int} (h : MmW w0 wr p s) (hk : Keeps [] wr w) (mi : MI N ks s) (hN : N ≤ 1000) (o : Op) (wf : o.Wf) :
    Calls Try.prog 9 #[.pointer (some ⟨p, 0, none⟩), o.v] w fun e w' => ∃ v, e = .returned (.tuple #[.int .i64 (opA ks s o), .int .i64 (opB s o), v]) ∧ w'.ownsRow 0 3 1 v (opL s o).length (iv (opL s o)) ∧ MmW w0 w' p (s.op o) ∧ (∀ g ∈ fp v, w.heap.size ≤ g) ∧ Above wr.heap.size w w' := by
  obtain ⟨F, g1, g2, g3⟩ := h
  have hF := g1.lt
  refine (do_any w F p s o ks ⟨g1.keep hk (by simp), mi.ok hN, by have := mi.kk; omega, wf, mi.nd, mi.ki, by have := mi.kl; omega⟩).mono ?_
  rintro e w' ⟨v, a, b, c, d⟩
  refine ⟨v, a, b, c.mmw (g2.trans hk (by simp)) g3, d, fun k h1 h2 => ?_⟩
  obtain ⟨F', _, k2, _⟩ := c
  exact k2.block k h2 (fun h3 => by have := hF k h3; omega)
/-- What the statement that looks an entry up leaves. -/
def ECut (wr : World) (en : En) (s18 s19 : Value) (wc : World) : Prop := ∃ Y : Nat, s18 = .pointer (some ⟨Y, 0, none⟩) ∧ s19 = .bool true ∧ Keeps [] wr wc ∧ wc.cell? ⟨Y, 1, none⟩ = some (.int .i64 en.f) ∧ wc.cell? ⟨Y, 2, none⟩ = some (.bool en.w)
theorem CI.same {w wr w' : World} {p i n : Nat} {ks : List Int} {s : Mm} (h : CI w wr p i n ks s) (hk : Keeps [] wr w') : CI w w' p i n ks s := ⟨h.r.same hk, h.m, h.c, h.l⟩
theorem CI.entries {w wr : World} {p i n : Nat} {ks : List Int} {s : Mm} (h : CI w wr p i n ks s) {j : Nat} (hj : j < n) : (cacheL s (j : Int)).length ≤ 8 ∧ ∀ e ∈ cacheL s (j : Int), ∃ ac di, ∀ W p, MmW w W p s →
    Calls Try.prog 10 #[.pointer (some ⟨p, 0, none⟩), .int .i64 e.s, .int .i64 e.p] W fun r w' => r = .returned (.tuple #[.agg #[.int .i64 e.p, .int .i64 e.f, .bool e.w, .bool ac, .bool di], .bool true]) ∧ Keeps [] W w' := by
  have hjl : j < s.C.length := by rw [h.l]; exact hj
  have hjs := List.getElem?_eq_getElem hjl
  rw [cache_at hjs]
  have hm := List.getElem_mem hjl
  refine ⟨(h.m.k _ hm).2, fun e he => ?_⟩
  obtain ⟨h1, h2⟩ := h.c _ hm e he
  have h1' : (T12.ent (s.tab e.s) e.p).map FW = some (e.f, e.w) := h1
  cases hE : T12.ent (s.tab e.s) e.p with
  | none => rw [hE] at h1'; cases h1'
  | some E0 =>
    rw [hE] at h1'
    have e1 : E0.fr = e.f ∧ E0.wr = e.w := by
      injection h1' with h
      exact ⟨congrArg Prod.fst h, congrArg Prod.snd h⟩
    refine ⟨E0.ac, E0.di, fun W p hW => ?_⟩
    have := hW.look e.s e.p h2.1.1 h2.1.2 h2.2.1 h2.2.2
    rw [hE, lookX_some hE] at this
    unfold pteV at this
    simp only [e1.1, e1.2] at this
    exact this
set_option maxRecDepth 100000 in
set_option maxHeartbeats 12800000 in
theorem coheres_any (w : World) (nn : Int) (A : Option Addr) (m c : Nat) (f : Nat → Op) (hm : m ≤ 9223372036854775807)
    (hA : 0 < m → ∃ bl off, A = some ⟨bl, off, none⟩ ∧ OpsAt w bl off m f) :
    Calls Try.prog 4 #[.int .i64 nn, .slice A m c] w fun e w' => e = .returned (.bool true) ∧ Keeps [] w w' := by
  by_cases g1 : nn < 1 ∨ 8 < nn ∨ 100 < m
  · by_cases a1 : nn < 1
    · go_enter Try.func4, Try.ntmps4
      go_wp2_with fail
      refine (small_any _).mono ?_
      rintro e w1 ⟨rfl, k1⟩
      go_wp2
      go_ret
      exact ⟨rfl, k1⟩
    by_cases a2 : 8 < nn
    · go_enter Try.func4, Try.ntmps4
      go_wp2_with fail
      refine (small_any _).mono ?_
      rintro e w1 ⟨rfl, k1⟩
      go_wp2
      go_ret
      exact ⟨rfl, k1⟩
    have a3 : 100 < m := by omega
    clear g1
    go_enter Try.func4, Try.ntmps4
    go_wp2_with fail
    refine (small_any _).mono ?_
    rintro e w1 ⟨rfl, k1⟩
    go_wp2
    go_ret
    exact ⟨rfl, k1⟩
  have b1 : 1 ≤ nn := by omega
  have b2 : nn ≤ 8 := by omega
  have b3 : m ≤ 100 := by omega
  clear g1 hm
  obtain ⟨N, rfl⟩ : ∃ N : Nat, nn = N := ⟨nn.toNat, by omega⟩
  have hN1 : 1 ≤ N := by omega
  have hN8 : N ≤ 8 := by omega
  go_enter Try.func4, Try.ntmps4
  go_wp2_with fail
  refine (small_any _).mono ?_
  rintro e w1 ⟨rfl, k1⟩
  go_wp2_with fail
  refine (mmw_new _ (N : Int) (by omega)).mono ?_
  rintro e w2 ⟨p, rfl, h2⟩
  have I0 : CI w w2 p 0 N [] (mm0 N) := ⟨by
    obtain ⟨F, g1, g2, g3⟩ := h2
    rw [Int.toNat_natCast] at g1
    exact ⟨F, g1, k1.trans g2 (by simp), fun g hg => Nat.le_trans k1.size (g3 g hg)⟩, MI.zero hN8, Coh.zero N, by simp [mm0]⟩
  clear k1 h2
  go_wp2_with fail
  go_loopw [7] (fun i wr => ∃ (k : Nat) (ks : List Int) (s : Mm), k ≤ m ∧ i = .int .i64 k ∧ CI w wr p k N ks s) (fun i _ => m - (intOf i).toNat)
  case atStart => exact ⟨0, [], _, by omega, rfl, I0⟩
  case round =>
    clear I0
    obtain ⟨i, ks, s, hi, rfl, I⟩ := hrel
    by_cases hlt : i < m
    rotate_left
    · obtain rfl : i = m := by omega
      go_wp2
      go_ret
      exact ⟨rfl, I.r.keeps⟩
    obtain ⟨bl, off, rfl, O⟩ := hA (by omega)
    clear hA
    have O1 := O.keep I.r.keeps
    have wf := O.wf i hlt
    obtain ⟨o, ho⟩ : ∃ o, o = f i := ⟨_, rfl⟩
    have q0 := O1.c0 i hlt
    have q1 := O1.c1 i hlt
    have q2 := O1.c2 i hlt
    have q3 := O1.c3 i hlt
    have q4 := O1.c4 i hlt
    have q5 := O1.c5 i hlt
    rw [← ho] at q0 q1 q2 q3 q4 q5 wf
    have kx : Keeps [] wr (wr.alloc (.cells #[.int .i64 o.d, .int .i64 o.cpu, .int .i64 o.x, .int .i64 o.pg, .int .i64 o.fr, .bool o.wr] 28)) := (Keeps.refl _ _).alloc _
    have BX := Lib.hid (Blk.new wr 28 #[.int .i64 o.d, .int .i64 o.cpu, .int .i64 o.x, .int .i64 o.pg, .int .i64 o.fr, .bool o.wr])
    have HL := Lib.hid ((I.r.same kx).look o.x o.pg wf.x1 wf.x2 wf.p1 wf.p2)
    have HI := Lib.hid I
    have HWF := Lib.hid wf
    have HO := Lib.hid O
    have HKX := Lib.hid kx
    clear I O O1 wf ho kx
    go_wp2_with fail
    refine HL.out.mono ?_
    rintro e w3 ⟨rfl, k3⟩
    have bx := BX.out.keep k3 (by simp)
    have xl := bx.lt
    have x0 := bx.cell 0
    have x1 := bx.cell 1
    have x2 := bx.cell 2
    have x3 := bx.cell 3
    have x4 := bx.cell 4
    have x5 := bx.cell 5
    have hlaw := acc_law HI.out.c o.cpu o.x o.pg o.wr
    unfold wantB at hlaw
    rw [HI.out.l] at hlaw
    unfold pteV
    generalize lookX (s.tab o.x) o.pg = lx at *
    generalize (ent (s.tab o.x) o.pg).isSome = had at *
    have K3 := HKX.out.trans k3 (by simp)
    have ka : Keeps [] w3 (w3.alloc (.cells #[.int .i64 lx.1, .int .i64 lx.2.fr, .bool lx.2.wr, .bool lx.2.ac, .bool lx.2.di] 34)) := (Keeps.refl _ _).alloc _
    have hN2 : 2 * i ≤ 1000 := by omega
    have hd := HI.out.r.do2 (K3.trans ka (by simp)) HI.out.m hN2 o HWF.out
    unfold Op.v at hd
    have HD := Lib.hid hd
    have HLAW := Lib.hid hlaw
    have HBX := Lib.hid (bx.keep ka (by simp))
    have HBY := Lib.hid (Blk.new w3 34 #[.int .i64 lx.1, .int .i64 lx.2.fr, .bool lx.2.wr, .bool lx.2.ac, .bool lx.2.di])
    have hyl : wr.heap.size ≤ w3.heap.size := by omega
    have HYL := Lib.hid hyl
    clear hd hlaw bx K3 ka hyl HL k3 BX q0 q1 q2 q3 q4 q5 hN2
    go_wp2_with fail
    refine HD.out.mono ?_
    rintro e w5 ⟨v, rfl, -, r5, -, ab⟩
    have bx5 := HBX.out.above ab (Nat.le_refl _)
    have by5 := HBY.out.above ab HYL.out
    have z0 := bx5.cell 0
    have HBX5 := Lib.hid bx5
    have HBY5 := Lib.hid by5
    have I5 := HI.out.op HWF.out r5
    have HI5 := Lib.hid I5
    clear bx5 by5 r5 ab HD HBX HBY I5 x0 x1 x2 x3 x4 x5
    go_wp2_with fail
    refine (pick8 _ _).mono ?_
    rintro e w6 ⟨rfl, rfl⟩
    have hlt2 : wr.heap.size < w5.heap.size := HBX5.out.lt
    have hyl2 : w3.heap.size < w5.heap.size := HBY5.out.lt
    by_cases hk3 : o.d % 8 < 3
    · have hB : opB s o = tru (s.acc o.cpu o.x o.pg o.wr).ok := by unfold opB; rw [if_pos hk3]
      have hAA : opA ks s o = (s.acc o.cpu o.x o.pg o.wr).f := by unfold opA; rw [if_pos hk3]
      have hw1 : (opB s o == 1) = (s.acc o.cpu o.x o.pg o.wr).ok := by rw [hB]; cases (s.acc o.cpu o.x o.pg o.wr).ok <;> rfl
      have hw2 : (s.acc o.cpu o.x o.pg o.wr).ok = true → opA ks s o = lx.2.fr := fun h => by rw [hAA]; exact HLAW.out.2 h
      have HW := Lib.hid (And.intro hw1 hw2)
      clear hB hAA hw1 hw2 z0
      generalize opA ks s o = ra at *
      generalize opB s o = rb at *
      go_upto_region 14 with fail
      refine creg14_any w5 wr.heap.size w3.heap.size N o.cpu had lx.2.wr o.wr (s.acc o.cpu o.x o.pg o.wr).ok _ (HBX5.out.cell 1) (HBX5.out.cell 5) (HBY5.out.cell 2) HLAW.out.1.symm _ _ _ _ _ _ _ _ _ _ _ _ _ _ _ _ _ _ _ _ _ _ _ _ _ _ _ _ _ _ _ _ _ _ _ _ _ _ _ _ _ _ _ _ _ _ _ _ _ _ _ _ _ _ _ _ _ _ _ _ _ _ _ _ _ _ _ _ _ _ _ _ _ _ _ _ _ _ _ _ _ _ _ _ _ _ _ _ _ _ _ _ _ _ _ _ _ _ _ _ _ _ _ _ _ _ _ _ _ _ _ _ _ _ _ _ _ _ _ _ _ _ _ _ _ _ _ _ _ _ _ _ _ _ _ _ _ _ _ _ _ _ _ _ _ _ _ _ _ _ _ _ ?_
      intro v67 v68 v69 v70 v71 v72 v73 v74 v75 v76 v77 v78 v79 v80 v81 v82 v83 v84 v85 v86 v87
      go_upto_region 15 with fail
      refine creg15_any w5 w3.heap.size ra rb lx.2.fr (s.acc o.cpu o.x o.pg o.wr).ok _ (HBY5.out.cell 1) HW.out.1 HW.out.2 _ _ _ _ _ _ _ _ _ _ _ _ _ _ _ _ _ _ _ _ _ _ _ _ _ _ _ _ _ _ _ _ _ _ _ _ _ _ _ _ _ _ _ _ _ _ _ _ _ _ _ _ _ _ _ _ _ _ _ _ _ _ _ _ _ _ _ _ _ _ _ _ _ _ _ _ _ _ _ _ _ _ _ _ _ _ _ _ _ _ _ _ _ _ _ _ _ _ _ _ _ _ _ _ _ _ _ _ _ _ _ _ _ _ _ _ _ _ _ _ _ _ _ _ _ _ _ _ _ _ _ _ _ _ _ _ _ _ _ _ _ _ _ _ _ _ _ _ _ _ _ _ ?_
      intro v88 v89 v90 v91 v92 v93 v94 v95 v96 v97 v98 v99
      clear HW
      generalize (s.acc o.cpu o.x o.pg o.wr).ok = wnt at *
      go_wp2_with fail
      go_loopw [15] (fun c wz => ∃ j : Nat, j ≤ N ∧ c = .int .i64 j ∧ Keeps [] w5 wz) (fun c _ => N - (intOf c).toNat)
      case atStart => exact ⟨0, by omega, rfl, Keeps.refl _ _⟩
      case round =>
        obtain ⟨j, hj, rfl, kz⟩ := hrel
        by_cases hjl : j < N
        rotate_left
        · obtain rfl : j = N := by omega
          have HR := Lib.hid (HI5.out.same kz)
          clear kz
          go_wp2_with fail
          go_roundw
          case rel => exact ⟨i + 1, _, _, by omega, by go_num, HR.out⟩
          case measure => simp [intOf]; omega
        have HC := Lib.hid ((HI5.out.r.same kz).cache HI5.out.m (j : Int))
        have hce := HI5.out.entries hjl
        generalize cacheL (s.op o) (j : Int) = Lk at *
        have HCE := Lib.hid hce
        have hlk := hce.1
        have HKZ := Lib.hid kz
        clear hce kz
        go_wp2_with fail
        refine HC.out.mono ?_
        rintro e w7 ⟨vc, rfl, oc, k7, -⟩
        obtain ⟨Ac, cc, rfl, -, -, hAc⟩ := own_shape oc
        have HOC := Lib.hid oc
        have HK7 := Lib.hid (HKZ.out.trans k7 (by simp))
        clear HC k7 oc
        obtain ⟨wo, rfl⟩ : ∃ wo : World, wo = wr := ⟨_, rfl⟩
        go_wp2_with fail
        go_loopw [17] (fun c wy => ∃ k : Nat, k ≤ Lk.length ∧ c = .int .i64 k ∧ Keeps [] w7 wy) (fun c _ => Lk.length - (intOf c).toNat)
        case atStart => exact ⟨0, by omega, rfl, Keeps.refl _ _⟩
        case round =>
          obtain ⟨k, hk, rfl, ky⟩ := hrel
          by_cases hkl : k < Lk.length
          rotate_left
          · obtain rfl : k = Lk.length := by omega
            have t8 : decide ((8 : Int) < Lk.length) = false := by simp; omega
            have HR := Lib.hid (HK7.out.trans ky (by simp))
            clear ky
            go_wp2_with fail
            go_roundw
            case rel => exact ⟨j + 1, by omega, by go_num, HR.out⟩
            case measure => simp [intOf]; omega
          obtain ⟨g, rfl⟩ := hAc (by omega)
          obtain ⟨ac, di, hlook⟩ := HCE.out.2 Lk[k] (List.getElem_mem hkl)
          have oy := own_keep HOC.out ky (by simp)
          have e0 := own_cell oy (j := k * 4) (u := .int .i64 Lk[k].s) (by rw [show k * 4 = k * 4 + 0 by omega, T13.es_at hkl (by omega)]; rfl)
          have e1 := own_cell oy (j := k * 4 + 1) (u := .int .i64 Lk[k].p) (by rw [T13.es_at hkl (by omega)]; rfl)
          have e2 := own_cell oy (j := k * 4 + 2) (u := .int .i64 Lk[k].f) (by rw [T13.es_at hkl (by omega)]; rfl)
          have e3 := own_cell oy (j := k * 4 + 3) (u := .bool Lk[k].w) (by rw [T13.es_at hkl (by omega)]; rfl)
          have HLK : Hid (∀ W, Keeps [] wr W → Calls Try.prog 10 #[.pointer (some ⟨p, 0, none⟩), .int .i64 Lk[k].s, .int .i64 Lk[k].p] W fun e w' => e = .returned (.tuple #[.agg #[.int .i64 Lk[k].p, .int .i64 Lk[k].f, .bool Lk[k].w, .bool ac, .bool di], .bool true]) ∧ Keeps [] W w') := Lib.hid (fun W hW => hlook W p (HI5.out.r.same ((HK7.out.trans ky (by simp)).trans hW (by simp))))
          have HKY := Lib.hid ky
          have HCELL : Hid (∀ W, Keeps [] wr W → W.cell? ⟨g, k * 4, none⟩ = some (.int .i64 Lk[k].s) ∧ W.cell? ⟨g, k * 4 + 1, none⟩ = some (.int .i64 Lk[k].p) ∧ W.cell? ⟨g, k * 4 + 2, none⟩ = some (.int .i64 Lk[k].f) ∧ W.cell? ⟨g, k * 4 + 3, none⟩ = some (.bool Lk[k].w)) := Lib.hid (fun W hW => ⟨(hW.cell (p := ⟨g, _, none⟩) (own_lt oy (by simp)) (by simp)).trans e0, (hW.cell (p := ⟨g, _, none⟩) (own_lt oy (by simp)) (by simp)).trans e1, (hW.cell (p := ⟨g, _, none⟩) (own_lt oy (by simp)) (by simp)).trans e2, (hW.cell (p := ⟨g, _, none⟩) (own_lt oy (by simp)) (by simp)).trans e3⟩)
          have kd : Keeps [] wr wr.drew := (Keeps.refl _ _).drew
          have r0 := (HCELL.out _ kd).1
          have r1 := (HCELL.out _ kd).2.1
          have kd2 : Keeps [] wr (wr.alloc (.cells #[.int .i64 0, .int .i64 0, .bool false, .bool false, .bool false] 34)).drew := ((Keeps.refl _ _).alloc _).drew
          have s0 : wr.cell? ⟨g, k * 4, none⟩ = some (.int .i64 Lk[k].s) := e0
          have s1 : wr.cell? ⟨g, k * 4 + 1, none⟩ = some (.int .i64 Lk[k].p) := e1
          have gne : g ≠ wr.heap.size := by have := own_lt oy (g := g) (by simp); omega
          have gl : g < wr.heap.size := own_lt oy (by simp)
          have j0 : (0 : Int) ≤ k := by omega
          have jl : (k : Int) < Lk.length := by omega
          clear hlook oy ky e0 e1 e2 e3
          generalize Lk[k] = en at *
          go_wp2_with fail
          go_cut [18, 19] from 109 to 151 (fun s18 s19 wc => ECut wr en s18 s19 wc)
          case first =>
            go_region_law (first
              | (refine T13.step_call rfl 10 _ _ rfl #[.pointer (some ⟨p, 0, none⟩), .int .i64 en.s, .int .i64 en.p] (by first | (simp [Act.eval]; done) | (simp [Act.eval, Act.put]; done)) (enters_of Try.func10 (by kernel_rfl) rfl) (HLK.out _ kd) ?_; rintro e w8 ⟨rfl, k8⟩; refine ⟨_, rfl, ?_⟩; have K1 := Lib.hid (kd.trans k8 (by simp)); clear k8)
              | (refine T13.step_call rfl 10 _ _ rfl #[.pointer (some ⟨p, 0, none⟩), .int .i64 en.s, .int .i64 en.p] (by first | (simp [Act.eval]; done) | (simp [Act.eval, Act.put]; done)) (enters_of Try.func10 (by kernel_rfl) rfl) (HLK.out _ kd2) ?_; rintro e w8 ⟨rfl, k8⟩; refine ⟨_, rfl, ?_⟩; have K1 := Lib.hid (kd2.trans k8 (by simp)); have B8 : Hid (Blk w8 wr.heap.size 34 #[.int .i64 0, .int .i64 0, .bool false, .bool false, .bool false]) := Lib.hid ((Blk.new wr 34 #[.int .i64 0, .int .i64 0, .bool false, .bool false, .bool false]).drew.keep k8 (by simp)); have z0 : w8.cell? ⟨wr.heap.size, 0, none⟩ = some (.int .i64 0) := B8.out.cell 0; have y0 : w8.frozen? ⟨wr.heap.size, 0, none⟩ = false := B8.out.frozen 0; have z1 : w8.cell? ⟨wr.heap.size, 1, none⟩ = some (.int .i64 0) := B8.out.cell 1; have y1 : w8.frozen? ⟨wr.heap.size, 1, none⟩ = false := B8.out.frozen 1; have z2 : w8.cell? ⟨wr.heap.size, 2, none⟩ = some (.bool false) := B8.out.cell 2; have y2 : w8.frozen? ⟨wr.heap.size, 2, none⟩ = false := B8.out.frozen 2; have z3 : w8.cell? ⟨wr.heap.size, 3, none⟩ = some (.bool false) := B8.out.cell 3; have y3 : w8.frozen? ⟨wr.heap.size, 3, none⟩ = false := B8.out.frozen 3; have z4 : w8.cell? ⟨wr.heap.size, 4, none⟩ = some (.bool false) := B8.out.cell 4; have y4 : w8.frozen? ⟨wr.heap.size, 4, none⟩ = false := B8.out.frozen 4; clear k8))
            all_goals
              change Exit.then _ _ _ (Act.put _ (some 19) _) _
              go_frame
              first
                | (go_step; go_meet)
                | (go_step; go_step; go_meet)
                | trace_state
              case rel =>
                refine ⟨_, rfl, rfl, ?_⟩
                first
                  | (refine ⟨?_, ?_, ?_⟩; (with_reducible exact K1.out.alloc _); exact (Blk.new w8 34 #[.int .i64 en.p, .int .i64 en.f, .bool en.w, .bool ac, .bool di]).cell 1; exact (Blk.new w8 34 #[.int .i64 en.p, .int .i64 en.f, .bool en.w, .bool ac, .bool di]).cell 2)
                  | (have B9 := ((((B8.out.set_ 0 (.int .i64 en.p)).set_ 1 (.int .i64 en.f)).set_ 2 (.bool en.w)).set_ 3 (.bool ac)).set_ 4 (.bool di); have k1 := Keeps.setCell K1.out (p := ⟨wr.heap.size, 0, none⟩) (.inr (Nat.le_refl _)) (.int .i64 en.p); have k2 := Keeps.setCell k1 (p := ⟨wr.heap.size, 1, none⟩) (.inr (Nat.le_refl _)) (.int .i64 en.f); have k3 := Keeps.setCell k2 (p := ⟨wr.heap.size, 2, none⟩) (.inr (Nat.le_refl _)) (.bool en.w); have k4 := Keeps.setCell k3 (p := ⟨wr.heap.size, 3, none⟩) (.inr (Nat.le_refl _)) (.bool ac); have k5 := Keeps.setCell k4 (p := ⟨wr.heap.size, 4, none⟩) (.inr (Nat.le_refl _)) (.bool di); refine ⟨?_, ?_, ?_⟩; (with_reducible exact k5); exact B9.cell 1; exact B9.cell 2)
                  | trace_state
          case rest =>
            obtain ⟨Y, rfl, rfl, kc, c1, c2⟩ := hcut
            have r2 := (HCELL.out _ kc).2.2.1
            have r3 := (HCELL.out _ kc).2.2.2
            have tf : (en.f != en.f) = false := by simp
            have tw : (en.w != en.w) = false := by simp
            have KC := Lib.hid (HKY.out.trans kc (by simp))
            clear kc r0 r1 s0 s1 kd kd2 HLK
            go_wp2_with fail
            go_quiet (fail)
            go_wp2_with fail
            go_roundw
            case rel => exact ⟨k + 1, by omega, by go_num, KC.out.drewN _⟩
            case measure => simp [intOf]; omega
    · clear z0
      generalize opA ks s o = ra at *
      generalize opB s o = rb at *
      go_wp2_with fail
      go_loopw [15] (fun c wz => ∃ j : Nat, j ≤ N ∧ c = .int .i64 j ∧ Keeps [] w5 wz) (fun c _ => N - (intOf c).toNat)
      case atStart => exact ⟨0, by omega, rfl, Keeps.refl _ _⟩
      case round =>
        obtain ⟨j, hj, rfl, kz⟩ := hrel
        by_cases hjl : j < N
        rotate_left
        · obtain rfl : j = N := by omega
          have HR := Lib.hid (HI5.out.same kz)
          clear kz
          go_wp2_with fail
          go_roundw
          case rel => exact ⟨i + 1, _, _, by omega, by go_num, HR.out⟩
          case measure => simp [intOf]; omega
        have HC := Lib.hid ((HI5.out.r.same kz).cache HI5.out.m (j : Int))
        have hce := HI5.out.entries hjl
        generalize cacheL (s.op o) (j : Int) = Lk at *
        have HCE := Lib.hid hce
        have hlk := hce.1
        have HKZ := Lib.hid kz
        clear hce kz
        go_wp2_with fail
        refine HC.out.mono ?_
        rintro e w7 ⟨vc, rfl, oc, k7, -⟩
        obtain ⟨Ac, cc, rfl, -, -, hAc⟩ := own_shape oc
        have HOC := Lib.hid oc
        have HK7 := Lib.hid (HKZ.out.trans k7 (by simp))
        clear HC k7 oc
        obtain ⟨wo, rfl⟩ : ∃ wo : World, wo = wr := ⟨_, rfl⟩
        go_wp2_with fail
        go_loopw [17] (fun c wy => ∃ k : Nat, k ≤ Lk.length ∧ c = .int .i64 k ∧ Keeps [] w7 wy) (fun c _ => Lk.length - (intOf c).toNat)
        case atStart => exact ⟨0, by omega, rfl, Keeps.refl _ _⟩
        case round =>
          obtain ⟨k, hk, rfl, ky⟩ := hrel
          by_cases hkl : k < Lk.length
          rotate_left
          · obtain rfl : k = Lk.length := by omega
            have t8 : decide ((8 : Int) < Lk.length) = false := by simp; omega
            have HR := Lib.hid (HK7.out.trans ky (by simp))
            clear ky
            go_wp2_with fail
            go_roundw
            case rel => exact ⟨j + 1, by omega, by go_num, HR.out⟩
            case measure => simp [intOf]; omega
          obtain ⟨g, rfl⟩ := hAc (by omega)
          obtain ⟨ac, di, hlook⟩ := HCE.out.2 Lk[k] (List.getElem_mem hkl)
          have oy := own_keep HOC.out ky (by simp)
          have e0 := own_cell oy (j := k * 4) (u := .int .i64 Lk[k].s) (by rw [show k * 4 = k * 4 + 0 by omega, T13.es_at hkl (by omega)]; rfl)
          have e1 := own_cell oy (j := k * 4 + 1) (u := .int .i64 Lk[k].p) (by rw [T13.es_at hkl (by omega)]; rfl)
          have e2 := own_cell oy (j := k * 4 + 2) (u := .int .i64 Lk[k].f) (by rw [T13.es_at hkl (by omega)]; rfl)
          have e3 := own_cell oy (j := k * 4 + 3) (u := .bool Lk[k].w) (by rw [T13.es_at hkl (by omega)]; rfl)
          have HLK : Hid (∀ W, Keeps [] wr W → Calls Try.prog 10 #[.pointer (some ⟨p, 0, none⟩), .int .i64 Lk[k].s, .int .i64 Lk[k].p] W fun e w' => e = .returned (.tuple #[.agg #[.int .i64 Lk[k].p, .int .i64 Lk[k].f, .bool Lk[k].w, .bool ac, .bool di], .bool true]) ∧ Keeps [] W w') := Lib.hid (fun W hW => hlook W p (HI5.out.r.same ((HK7.out.trans ky (by simp)).trans hW (by simp))))
          have HKY := Lib.hid ky
          have HCELL : Hid (∀ W, Keeps [] wr W → W.cell? ⟨g, k * 4, none⟩ = some (.int .i64 Lk[k].s) ∧ W.cell? ⟨g, k * 4 + 1, none⟩ = some (.int .i64 Lk[k].p) ∧ W.cell? ⟨g, k * 4 + 2, none⟩ = some (.int .i64 Lk[k].f) ∧ W.cell? ⟨g, k * 4 + 3, none⟩ = some (.bool Lk[k].w)) := Lib.hid (fun W hW => ⟨(hW.cell (p := ⟨g, _, none⟩) (own_lt oy (by simp)) (by simp)).trans e0, (hW.cell (p := ⟨g, _, none⟩) (own_lt oy (by simp)) (by simp)).trans e1, (hW.cell (p := ⟨g, _, none⟩) (own_lt oy (by simp)) (by simp)).trans e2, (hW.cell (p := ⟨g, _, none⟩) (own_lt oy (by simp)) (by simp)).trans e3⟩)
          have kd : Keeps [] wr wr.drew := (Keeps.refl _ _).drew
          have r0 := (HCELL.out _ kd).1
          have r1 := (HCELL.out _ kd).2.1
          have kd2 : Keeps [] wr (wr.alloc (.cells #[.int .i64 0, .int .i64 0, .bool false, .bool false, .bool false] 34)).drew := ((Keeps.refl _ _).alloc _).drew
          have s0 : wr.cell? ⟨g, k * 4, none⟩ = some (.int .i64 Lk[k].s) := e0
          have s1 : wr.cell? ⟨g, k * 4 + 1, none⟩ = some (.int .i64 Lk[k].p) := e1
          have gne : g ≠ wr.heap.size := by have := own_lt oy (g := g) (by simp); omega
          have gl : g < wr.heap.size := own_lt oy (by simp)
          have j0 : (0 : Int) ≤ k := by omega
          have jl : (k : Int) < Lk.length := by omega
          clear hlook oy ky e0 e1 e2 e3
          generalize Lk[k] = en at *
          go_wp2_with fail
          go_cut [18, 19] from 109 to 151 (fun s18 s19 wc => ECut wr en s18 s19 wc)
          case first =>
            go_region_law (first
              | (refine T13.step_call rfl 10 _ _ rfl #[.pointer (some ⟨p, 0, none⟩), .int .i64 en.s, .int .i64 en.p] (by first | (simp [Act.eval]; done) | (simp [Act.eval, Act.put]; done)) (enters_of Try.func10 (by kernel_rfl) rfl) (HLK.out _ kd) ?_; rintro e w8 ⟨rfl, k8⟩; refine ⟨_, rfl, ?_⟩; have K1 := Lib.hid (kd.trans k8 (by simp)); clear k8)
              | (refine T13.step_call rfl 10 _ _ rfl #[.pointer (some ⟨p, 0, none⟩), .int .i64 en.s, .int .i64 en.p] (by first | (simp [Act.eval]; done) | (simp [Act.eval, Act.put]; done)) (enters_of Try.func10 (by kernel_rfl) rfl) (HLK.out _ kd2) ?_; rintro e w8 ⟨rfl, k8⟩; refine ⟨_, rfl, ?_⟩; have K1 := Lib.hid (kd2.trans k8 (by simp)); have B8 : Hid (Blk w8 wr.heap.size 34 #[.int .i64 0, .int .i64 0, .bool false, .bool false, .bool false]) := Lib.hid ((Blk.new wr 34 #[.int .i64 0, .int .i64 0, .bool false, .bool false, .bool false]).drew.keep k8 (by simp)); have z0 : w8.cell? ⟨wr.heap.size, 0, none⟩ = some (.int .i64 0) := B8.out.cell 0; have y0 : w8.frozen? ⟨wr.heap.size, 0, none⟩ = false := B8.out.frozen 0; have z1 : w8.cell? ⟨wr.heap.size, 1, none⟩ = some (.int .i64 0) := B8.out.cell 1; have y1 : w8.frozen? ⟨wr.heap.size, 1, none⟩ = false := B8.out.frozen 1; have z2 : w8.cell? ⟨wr.heap.size, 2, none⟩ = some (.bool false) := B8.out.cell 2; have y2 : w8.frozen? ⟨wr.heap.size, 2, none⟩ = false := B8.out.frozen 2; have z3 : w8.cell? ⟨wr.heap.size, 3, none⟩ = some (.bool false) := B8.out.cell 3; have y3 : w8.frozen? ⟨wr.heap.size, 3, none⟩ = false := B8.out.frozen 3; have z4 : w8.cell? ⟨wr.heap.size, 4, none⟩ = some (.bool false) := B8.out.cell 4; have y4 : w8.frozen? ⟨wr.heap.size, 4, none⟩ = false := B8.out.frozen 4; clear k8))
            all_goals
              change Exit.then _ _ _ (Act.put _ (some 19) _) _
              go_frame
              first
                | (go_step; go_meet)
                | (go_step; go_step; go_meet)
                | trace_state
              case rel =>
                refine ⟨_, rfl, rfl, ?_⟩
                first
                  | (refine ⟨?_, ?_, ?_⟩; (with_reducible exact K1.out.alloc _); exact (Blk.new w8 34 #[.int .i64 en.p, .int .i64 en.f, .bool en.w, .bool ac, .bool di]).cell 1; exact (Blk.new w8 34 #[.int .i64 en.p, .int .i64 en.f, .bool en.w, .bool ac, .bool di]).cell 2)
                  | (have B9 := ((((B8.out.set_ 0 (.int .i64 en.p)).set_ 1 (.int .i64 en.f)).set_ 2 (.bool en.w)).set_ 3 (.bool ac)).set_ 4 (.bool di); have k1 := Keeps.setCell K1.out (p := ⟨wr.heap.size, 0, none⟩) (.inr (Nat.le_refl _)) (.int .i64 en.p); have k2 := Keeps.setCell k1 (p := ⟨wr.heap.size, 1, none⟩) (.inr (Nat.le_refl _)) (.int .i64 en.f); have k3 := Keeps.setCell k2 (p := ⟨wr.heap.size, 2, none⟩) (.inr (Nat.le_refl _)) (.bool en.w); have k4 := Keeps.setCell k3 (p := ⟨wr.heap.size, 3, none⟩) (.inr (Nat.le_refl _)) (.bool ac); have k5 := Keeps.setCell k4 (p := ⟨wr.heap.size, 4, none⟩) (.inr (Nat.le_refl _)) (.bool di); refine ⟨?_, ?_, ?_⟩; (with_reducible exact k5); exact B9.cell 1; exact B9.cell 2)
                  | trace_state
          case rest =>
            obtain ⟨Y, rfl, rfl, kc, c1, c2⟩ := hcut
            have r2 := (HCELL.out _ kc).2.2.1
            have r3 := (HCELL.out _ kc).2.2.2
            have tf : (en.f != en.f) = false := by simp
            have tw : (en.w != en.w) = false := by simp
            have KC := Lib.hid (HKY.out.trans kc (by simp))
            clear kc r0 r1 s0 s1 kd kd2 HLK
            go_wp2_with fail
            go_quiet (fail)
            go_wp2_with fail
            go_roundw
            case rel => exact ⟨k + 1, by omega, by go_num, KC.out.drewN _⟩
            case measure => simp [intOf]; omega
end Go.Proofs.Yteognipfnbocpaa
