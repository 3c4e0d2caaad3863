/- A world of sheets: set, SetByte. -/
import Derived.Test.YtiffjaociblboaaW17
import Derived.Deep.Cut
namespace Go.Proofs.Ytiffjaociblboaa
open Go.RowKit

theorem wpList_binv {P : Program} {ops : Array Oper} {rest : List Oper} {o : Oper} {a : Act} {w : World} {Q : Exit → Act → World → Prop} (hg : o.guard = none) (op : BinOp) (t : TypeId) (x y : Operand) (t2 : TypeId) (hop : o.op = Op.binOp op t x y t2)
    (vx vy v : Value) (hx : a.eval x = vx) (hy : a.eval y = vy) (he : (eqGuard op t x y vx vy).run P w = .ok () w) (hr : (binOp op t vx vy).run P w = .ok v w) (hK : wpList P ops Q rest (a.put o.dst v) w) : wpList P ops Q (o :: rest) a w := by
  refine wpList_plain hg fun K' hK' => ?_
  unfold Oper.wp
  simp [execOp, hop, hx, hy, he, hr, Result.andThen]
  exact hK' _ _ hK
set_option maxRecDepth 100000 in
set_option maxHeartbeats 3200000 in
theorem set34_any (w : World) (fb m1 m2 m3 : Nat) (s : ByteArray) (pg : Int) (cs : Array Value) (hb : Blk w fb 68 (wcs m1 m2 m3)) (hm : MO w m2 #[] 0) (hs : s.size ≤ 1000) (hc : cs.size = 64)
    (hq : ∀ w, (binOp .eql 71 (.agg cs) sh0).run Try.prog w = .ok (.bool false) w)
    (he : ∀ w x y, (eqGuard .eql 71 x y (.agg cs) sh0).run Try.prog w = .ok () w) :
    Calls Try.prog 34 #[.pointer (some ⟨fb, 0, none⟩), .string s, .int .i64 pg, .agg cs] w fun e w' => e = .returned (.tuple #[]) ∧ ∃ m4, w.heap.size ≤ m4 ∧ MO w' m2 #[⟨.string s, .map (some m4), 0⟩] 1 ∧ MO w' m4 #[⟨.int .i64 pg, .agg cs, 0⟩] 1 ∧ Keeps [m2] w w' := by
  have hmm := @run_makeMap Try.prog
  have f1 : (w.alloc (.cells cs 71)).cell? ⟨fb, 1, none⟩ = some (.map (some m2)) := (hb.alloc _).cell 1
  have l1 := look66_none s (hm.keep ((Keeps.refl [] w).alloc (.cells cs 71)) (by simp))
  have bx := Blk.new w 71 cs
  unfold Blk at bx
  have HB := Lib.hid hb
  have HM := Lib.hid hm
  have e72 : ∀ (w : World) (r : Option Nat), (binOp .eql 72 (.map r) (.map none)).run Try.prog w = .ok (.bool r.isNone) w := fun w r => run_eql_map_nil w _ _ _ r Try.underlying72
  clear hb hm
  go_enter Try.func34, Try.ntmps34
  have hi : (Try.prog.info? 71).map (·.size) = some cs.size := by rw [hc]; kernel_rfl
  go_wp2_with (first | refine wpList_load_row rfl 71 _ rfl _ rfl 71 cs (0, 0) _ bx Try.underlying71 rfl hi ?_ | refine wpList_binv rfl .eql 71 _ _ _ rfl (.agg cs) sh0 (.bool false) rfl (by kernel_rfl) (he _ _ _) (hq _) ?_)
  go_upto_region 8 with fail
  refine set8_any _ fb m2 (w.heap.size + 1) s _ (fun W k => ?_) hs _ _ _ _ _ _ _ _ _ _ _ _ _ _ _ _ _ _ _ _ _ _ _ _ _ _ _ _ _ _ _ _ _ _ _ _ _ _ ?_
  · have hb1 := (((HB.out.alloc (.cells cs 71)).alloc (.map #[] 0)).keep k (by simp))
    have hm1 := ((HM.out.keep ((Keeps.refl [] w).alloc (.cells cs 71)) (by simp)).keep ((Keeps.refl [] _).alloc (.map #[] 0)) (by simp)).keep k (by simp)
    exact ⟨hb1.cell 1, hm1⟩
  intro v31 v32 v33 v34 v35 v36 v37 W mo kW
  have HB := HB.out
  have HM := HM.out
  have n1 := HM.lt
  have ba : Blk (w.alloc (.cells cs 71)) w.heap.size 71 cs := bx
  have bx2 : Blk W w.heap.size 71 cs := (ba.alloc (.map #[] 0)).keep kW (by simp; omega)
  have mn : MO W (w.heap.size + 1) #[] 0 := MO.keep (by have h := heap_alloc_new (w.alloc (.cells cs 71)) (.map #[] 0); simpa [MO] using h) kW (by simp; omega)
  have K3 : Keeps [m2] w W := (((Keeps.refl [m2] w).alloc (.cells cs 71)).alloc (.map #[] 0)).trans kW (by simp)
  have hMO := Lib.hid mo
  have hMN := Lib.hid mn
  have HK3 := Lib.hid K3
  have hN1 := Lib.hid n1
  clear HB HM ba mo mn K3 kW f1 l1 bx hq he e72 n1
  unfold Blk at bx2
  go_wp2_with (first | refine wpList_load_row rfl 71 _ rfl _ rfl 71 cs (0, 0) _ bx2 Try.underlying71 rfl hi ?_ | (refine wpList_upd72 rfl rfl _ _ _ rfl (w.heap.size + 1) 0 rfl hMN.out pg rfl (.agg cs) rfl ?_; intro W2 mo2 kW2))
  go_end0
  have n1 := hN1.out
  exact ⟨rfl, w.heap.size + 1, by omega, hMO.out.keep kW2 (by simp; omega), mo2, HK3.out.trans kW2 (by simp)⟩
theorem wpList_lookv {P : Program} {ops : Array Oper} {rest : List Oper} {o : Oper} {a : Act} {w : World} {Q : Exit → Act → World → Prop} (hg : o.guard = none) (T : TypeId) (mo xo : Operand) (hop : o.op = Op.lookup T mo xo false)
    (vm vx v : Value) (hm : a.eval mo = vm) (hx : a.eval xo = vx) (hr : (Instr.lookup T vm vx false).run P w = .ok v w) (hK : wpList P ops Q rest (a.put o.dst v) w) : wpList P ops Q (o :: rest) a w := by
  refine wpList_plain hg fun K' hK' => ?_
  unfold Oper.wp
  simp [execOp, hop, hm, hx, hr, Result.andThen]
  exact hK' _ _ hK
def sc0 : Array Value := Array.replicate 64 (.int .u8 0)
def sc9 : Array Value := sc0.setIfInBounds 7 (.int .u8 9)
theorem sc0_one : ∀ v ∈ sc0.toList, v.oneCell' = true := by
  intro v hv
  unfold sc0 at hv
  simp at hv
  subst hv
  rfl
theorem sc9_eq (w : World) : (binOp .eql 71 (.agg sc9) sh0).run Try.prog w = .ok (.bool false) w := by kernel_rfl
theorem sc9_guard (w : World) (x y : Operand) : (eqGuard .eql 71 x y (.agg sc9) sh0).run Try.prog w = .ok () w := by kernel_rfl
set_option maxRecDepth 100000 in
set_option maxHeartbeats 3200000 in
theorem setByte_any (w : World) (fb m1 m2 m3 : Nat) (s : ByteArray) (hb : Blk w fb 68 (wcs m1 m2 m3)) (hm : MO w m2 #[] 0) (hs : s.size ≤ 1000) :
    Calls Try.prog 25 #[.pointer (some ⟨fb, 0, none⟩), .string s, .int .i64 135, .int .u8 9] w fun e w' => e = .returned (.tuple #[]) ∧ ∃ m4, w.heap.size ≤ m4 ∧ MO w' m2 #[⟨.string s, .map (some m4), 0⟩] 1 ∧ MO w' m4 #[⟨.int .i64 2, .agg sc9, 0⟩] 1 ∧ Keeps [m2] w w' := by
  have f1 : w.cell? ⟨fb, 1, none⟩ = some (.map (some m2)) := hb.cell 1
  have l1 := look66_none s hm
  have HB := Lib.hid hb
  have HM := Lib.hid hm
  clear hb hm
  go_enter Try.func25, Try.ntmps25
  go_wp2_with fail
  refine (wvalid_any _ 135 (by omega) (by omega)).mono ?_
  rintro e w1 ⟨rfl, rfl⟩
  go_upto_region 2 with (first | refine wpList_lookv rfl 72 _ _ rfl (.map none) (.int .i64 2) sh0 rfl rfl (look72_nil 2 _) ?_ | (refine wpList_store_blk rfl 71 _ _ rfl rfl w1.heap.size rfl 71 _ sc0 (Blk.new _ _ _) rfl (by kernel_rfl) sc0_one (by kernel_rfl) ?_; intro w2 b2 k2))
  have K2 : Keeps [] w1 w2 := ((Keeps.refl [] w1).alloc _).trans k2 (by simp)
  have hc7 : w2.cell? ⟨w1.heap.size, 7, none⟩ = some (.int .u8 0) := (b2.cell 7).trans (by kernel_rfl)
  have hf7 : w2.frozen? ⟨w1.heap.size, 7, none⟩ = false := b2.frozen 7
  have b3 : Blk (w2.setCell ⟨w1.heap.size, 7, none⟩ (.int .u8 9)) w1.heap.size 71 sc9 := b2.set_ 7 (.int .u8 9)
  have K3 : Keeps [] w1 (w2.setCell ⟨w1.heap.size, 7, none⟩ (.int .u8 9)) := K2.setCell (.inr (Nat.le_refl _)) _
  have hset := set34_any _ fb m1 m2 m3 s 2 sc9 (HB.out.keep K3 (by simp)) (HM.out.keep K3 (by simp)) hs (by kernel_rfl) sc9_eq sc9_guard
  have HSET := Lib.hid hset
  have HK3 := Lib.hid K3
  have hi : (Try.prog.info? 71).map (·.size) = some sc9.size := by kernel_rfl
  clear k2 K2 K3 hset b2
  unfold Blk at b3
  go_wp2_with (refine wpList_load_row rfl 71 _ rfl _ rfl 71 sc9 (0, 0) _ b3 Try.underlying71 rfl hi ?_)
  refine HSET.out.mono ?_
  rintro e w4 ⟨rfl, m4, hm4, mo2, mo4, k4⟩
  go_wp2_with fail
  go_end0
  exact ⟨rfl, m4, Nat.le_trans HK3.out.size hm4, mo2, mo4, (HK3.out.mono (by simp)).trans k4 (by simp)⟩
end Go.Proofs.Ytiffjaociblboaa
