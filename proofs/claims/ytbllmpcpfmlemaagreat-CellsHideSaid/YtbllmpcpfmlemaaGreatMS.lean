/- Texts of the elder seat, turned to this one: W36. -/
import Derived.Test.YtbllmpcpfmlemaaGreatMR
namespace Go.Proofs.YtbllmpcpfmlemaaGreat
open Go.RowKit

theorem wpList_updP {ops : Array Oper} {rest : List Oper} {o : Oper} {a : Act} {w : World} {Q : Exit → Act → World → Prop} (hg : o.guard = none) (hd : o.dst = none) (mo xo vo : Operand) (hop : o.op = Op.mapUpdate 103 mo xo vo)
    (b : Nat) (l : List (Nat × Nat)) (hm : a.eval mo = .map (some b)) (h : PM w b l) (x y : Nat) (hx : a.eval xo = ptr x) (hv : a.eval vo = ptr y) (h1 : IsOne w x) (hl : ∀ q ∈ l, IsOne w q.1) (hn : x ∉ l.map (·.1))
    (hK : ∀ w', PM w' b (l ++ [(x, y)]) → Keeps [b] w w' → wpList Tryz.prog ops Q rest a w') : wpList Tryz.prog ops Q (o :: rest) a w := by
  refine wpList_plain hg fun K' hK' => ?_
  obtain ⟨w', hrun, h', hk⟩ := h.upd x y h1 hl hn
  unfold Oper.wp
  simp [execOp, hop, hm, hx, hv, hrun, Result.andThen]
  refine hK' _ _ ?_
  rw [hd]
  exact hK w' h' hk
open Classical in
/-- The parents that are set. -/
noncomputable def prL (left2 : Nat → Prop) (Mo N : Int → Mem) (z : One) : Option Nat := if left2 (Mo z.id).b then none else parOf N z
theorem prL_pos {left2 : Nat → Prop} {Mo N : Int → Mem} {z : One} (h : left2 (Mo z.id).b) : prL left2 Mo N z = none := by unfold prL; rw [if_pos h]
theorem prL_neg {left2 : Nat → Prop} {Mo N : Int → Mem} {z : One} (h : ¬ left2 (Mo z.id).b) : prL left2 Mo N z = parOf N z := by unfold prL; rw [if_neg h]
section
variable {w0 w : World} {Mo : Int → Mem} {C : St} {c2 m2 n : Nat} {N : Int → Mem} {L2 : Nat → Option (Int × Nat)} {F2 : List Nat} {left : Int → Prop} {pr : One → Option Nat}
theorem Half.done (h : Half w0 w Mo C c2 m2 n N L2 F2 left pr) (hd : ∀ z ∈ C, ¬ left z.id) : Half w0 w Mo C c2 m2 n N L2 F2 (fun _ => False) pr := by
  refine ⟨h.cb, h.all.congr (fun j _ => ?_), fun z hz _ => h.one z hz (hd z hz), fun z hz _ => h.lab z hz (hd z hz), h.lc, h.lm, h.inF, h.ltF, h.new, fun z hz _ => h.sl z hz (hd z hz)⟩
  by_cases hh : has C j = true
  · obtain ⟨z, hz, e⟩ := has_iff.1 hh
    have := hd z hz
    rw [e] at this
    simp [hh, this]
  · simp [hh]
theorem Half.parC (h : Half w0 w Mo C c2 m2 n N L2 F2 left pr) {par' : One → Option Nat} (hp : ∀ z ∈ C, par' z = pr z) : Half w0 w Mo C c2 m2 n N L2 F2 left par' :=
  ⟨h.cb, h.all, fun z hz hl => by rw [hp z hz]; exact h.one z hz hl, h.lab, h.lc, h.lm, h.inF, h.ltF, h.new, h.sl⟩
theorem Tw.done {l : List (Nat × Nat)} (h : Tw C Mo N left l) (hd : ∀ z ∈ C, ¬ left z.id) : Tw C Mo N (fun _ => False) l :=
  ⟨fun q hq => by obtain ⟨z, hz, _, e⟩ := h.i q hq; exact ⟨z, hz, id, e⟩, fun z hz _ => h.o z hz (hd z hz), h.nd⟩
theorem Tw.step {l : List (Nat × Nat)} (h : Tw C Mo N left l) (hinj : ∀ y ∈ C, ∀ z ∈ C, (Mo y.id).b = (Mo z.id).b → y.id = z.id) {x : One} (hx : x ∈ C) (hlx : left x.id) (M : Mem) :
    (Mo x.id).b ∉ l.map (·.1) ∧ Tw C Mo (fun j => if j = x.id then M else N j) (fun j => left j ∧ j ≠ x.id) (l ++ [((Mo x.id).b, M.b)]) := by
  have hn : (Mo x.id).b ∉ l.map (·.1) := by
    intro hm
    obtain ⟨q, hq, e⟩ := List.mem_map.1 hm
    obtain ⟨z, hz, hl, rfl⟩ := h.i q hq
    have := hinj z hz x hx e
    rw [this] at hl
    exact hl hlx
  refine ⟨hn, fun q hq => ?_, fun z hz hl => ?_, ?_⟩
  · rcases List.mem_append.1 hq with hq | hq
    · obtain ⟨z, hz, hl, rfl⟩ := h.i q hq
      have hne : z.id ≠ x.id := fun e => hl (by rw [e]; exact hlx)
      exact ⟨z, hz, fun hh => hl hh.1, by rw [if_neg hne]⟩
    · rw [List.mem_singleton] at hq
      exact ⟨x, hx, fun hh => hh.2 rfl, by rw [if_pos rfl]; exact hq⟩
  · by_cases e : z.id = x.id
    · rw [if_pos e, e]
      exact List.mem_append_right _ (by simp)
    · rw [if_neg e]
      exact List.mem_append_left _ (h.o z hz (fun hh => hl ⟨hh, e⟩))
  · rw [List.map_append, List.nodup_append]
    refine ⟨h.nd, by simp, fun a ha b hb e => ?_⟩
    simp only [List.map_cons, List.map_nil, List.mem_singleton] at hb
    exact hn (by rw [← hb, ← e]; exact ha)
end
section
variable {w : World} {c : Nat} {F G : List Nat} {C : St} {P : List Str}
open Classical in
set_option maxRecDepth 100000 in
set_option maxHeartbeats 6400000 in
theorem copy_any (h : Cs w c F G C) (hW : WF P C) (hP : PoolOk P) (hl : C.length ≤ 1000000) :
    Calls Tryz.prog 33 #[.pointer (some ⟨c, 0, none⟩)] w fun e w' => ∃ c2 F2, e = .returned (.pointer (some ⟨c2, 0, none⟩)) ∧ Cs w' c2 F2 G C ∧ (∀ g ∈ F2, w.heap.size ≤ g) ∧ Keeps [] w w' := by
  obtain ⟨m, Mo, L, h⟩ := h
  have f0 : w.cell? ⟨c, 0, none⟩ = some (.map (some m)) := h.cb.cell 0
  have hmm := @run_makeMap Tryz.prog
  have HPM := Lib.hid (PM.made w)
  have hz0 : (w.alloc (.map #[] 0)).heap.size = w.heap.size + 1 := by simp
  have HGM : Hid (GMap kI eP ((w.alloc (.map #[] 0)).alloc (.map #[] 0)) (w.heap.size + 1) 0 (fun _ => none)) := Lib.hid (by
    have := GMap.made (S := kI) (E := eP) (w.alloc (.map #[] 0))
    rw [hz0] at this
    exact this)
  have hz1 : ((w.alloc (.map #[] 0)).alloc (.map #[] 0)).heap.size = w.heap.size + 2 := by simp
  have HBK : Hid (Blk (((w.alloc (.map #[] 0)).alloc (.map #[] 0)).alloc (.cells #[.map (some (w.heap.size + 1))] 65)) (w.heap.size + 2) 65 #[.map (some (w.heap.size + 1))]) := Lib.hid (by
    have := Blk.new ((w.alloc (.map #[] 0)).alloc (.map #[] 0)) 65 #[.map (some (w.heap.size + 1))]
    rw [hz1] at this
    exact this)
  have K1 : Keeps [] w (w.alloc (.map #[] 0)) := (Keeps.refl _ _).alloc _
  have K2 : Keeps [] (w.alloc (.map #[] 0)) ((w.alloc (.map #[] 0)).alloc (.map #[] 0)) := (Keeps.refl _ _).alloc _
  have K3 : Keeps [] ((w.alloc (.map #[] 0)).alloc (.map #[] 0)) (((w.alloc (.map #[] 0)).alloc (.map #[] 0)).alloc (.cells #[.map (some (w.heap.size + 1))] 65)) := (Keeps.refl _ _).alloc _
  have HPM3 := Lib.hid (HPM.out.keep (K2.trans K3 (by simp)) (by simp))
  have HGM3 := Lib.hid (HGM.out.keep K3 (by simp))
  have KK3 := Lib.hid ((K1.trans K2 (by simp)).trans K3 (by simp))
  have HZ3 : Hid ((((w.alloc (.map #[] 0)).alloc (.map #[] 0)).alloc (.cells #[.map (some (w.heap.size + 1))] 65)).heap.size = w.heap.size + 3) := Lib.hid (by simp)
  have HR := Lib.hid h
  have HW := Lib.hid hW
  have HP := Lib.hid hP
  clear h hW hP K1 K2 K3 HPM HGM hz0 hz1
  go_enter Tryz.func33, Tryz.ntmps33
  go_upto_region 3 with fail
  clear hmm
  have HBK' : Hid (Blk (((w.alloc (.map #[] 0)).alloc (.map #[] 0)).alloc (.cells #[.map (some (w.heap.size + 1))] 65)) (w.heap.size + 1 + 1) 65 #[.map (some (w.heap.size + 1))]) := HBK
  obtain ⟨n0, hn0⟩ : ∃ n0, w.heap.size = n0 := ⟨_, rfl⟩
  rw [hn0] at HBK' HPM3 HGM3 KK3 HZ3 ⊢
  have HN0 := Lib.hid hn0
  clear hn0 HBK
  generalize ((w.alloc (.map #[] 0)).alloc (.map #[] 0)).alloc (.cells #[.map (some (n0 + 1))] 65) = w3 at HBK' HPM3 HGM3 KK3 HZ3 ⊢
  have HALL := Lib.hid (HR.out.all.keep KK3.out (by simp))
  have f3 : w3.cell? ⟨c, 0, none⟩ = some (.map (some m)) := (KK3.out.cell (p := ⟨c, 0, none⟩) HR.out.cb.lt (by simp)).trans f0
  go_wp2_with (at_range; refine wpList_rangeG rfl _ _ rfl Tryz.underlying63 rfl HALL.out ?_; intro w4 cnt0 hc0 hr0 k0 hz4)
  try go_frame
  have HR0 := Lib.hid hr0
  have hs4 := HZ3.out
  have hH0 : Half w w4 Mo C (n0 + 1 + 1) (n0 + 1) 0 Mo (fun g => if g = n0 + 1 + 1 then some (0, 6) else if g = n0 + 1 then some (0, 7) else none) [n0 + 1 + 1, n0 + 1] (fun j => (if has C j = true then some (Mo j).b else none).isSome = true) (fun _ => none) := by
    have hall : ∀ z ∈ C, ¬ ¬ ((if has C z.id = true then some (Mo z.id).b else none).isSome = true) := fun z hz hh => by
      rw [has_iff.2 ⟨z, hz, rfl⟩] at hh
      exact hh rfl
    have hn := HN0.out
    refine ⟨HBK'.out.keep k0 (by simp), (HGM3.out.keep k0 (by simp)).congr (fun j _ => ?_), fun z hz hh => absurd hh (hall z hz), fun z hz hh => absurd hh (hall z hz), if_pos rfl, ?_, fun g hg => ?_, fun g hg => ?_, fun g hg => ?_, fun z hz hh => absurd hh (hall z hz)⟩
    · by_cases hh : has C j = true <;> simp [hh]
    · rw [if_neg (by omega), if_pos rfl]
    · by_cases e1 : g = n0 + 1 + 1
      · simp [e1]
      · rw [if_neg e1] at hg
        by_cases e2 : g = n0 + 1
        · simp [e2]
        · rw [if_neg e2] at hg; cases hg
    · simp only [List.mem_cons, List.not_mem_nil, or_false] at hg
      omega
    · simp only [List.mem_cons, List.not_mem_nil, or_false] at hg
      omega
  have HH0 := Lib.hid hH0
  have HPM4 := Lib.hid (HPM3.out.keep k0 (by simp))
  have KK4 := Lib.hid (KK3.out.trans k0 (by simp))
  have hs5 : w4.heap.size = n0 + 4 := by omega
  clear hH0 hr0 k0 hz4 hs4 HGM3 HBK' f3
  go_loopw [5] (fun _ wr => ∃ (left : Int → Prop) (cnt n : Nat) (N : Int → Mem) (L2 : Nat → Option (Int × Nat)) (F2 : List Nat) (l : List (Nat × Nat)), GRng kI eP wr m w3.heap.size C.length (fun j => if has C j = true then some (Mo j).b else none) left cnt ∧ Half w wr Mo C (n0 + 1 + 1) (n0 + 1) n N L2 F2 left (fun _ => none) ∧ PM wr n0 l ∧ Tw C Mo N left l ∧ Keeps [] w wr ∧ (∀ g ∈ F2, g ≠ n0 ∧ g ≠ w3.heap.size) ∧ n + cnt ≤ C.length ∧ w4.heap.size ≤ wr.heap.size) (fun _ wr => wr.rangeLeft m w3.heap.size)
  case atStart => exact ⟨_, cnt0, 0, Mo, _, _, [], HR0.out, HH0.out, HPM4.out, ⟨by simp, fun z hz hh => absurd (show (if has C z.id = true then some (Mo z.id).b else none).isSome = true by rw [has_iff.2 ⟨z, hz, rfl⟩]; rfl) hh, by simp⟩, KK4.out, fun g hg => by
    have := HZ3.out
    simp only [List.mem_cons, List.not_mem_nil, or_false] at hg
    omega, by omega, Nat.le_refl _⟩
  case round =>
    obtain ⟨left, cnt, n, N, L2, F2, l, hr, hh, hpm, htw, kp, hf2, hcn, hsz⟩ := hrel
    have HRG := Lib.hid hr
    have HH := Lib.hid hh
    have HPMr := Lib.hid hpm
    have HTW := Lib.hid htw
    have KP := Lib.hid kp
    have HF2 := Lib.hid hf2
    have hle := hr.left_eq
    clear hr hh hpm htw kp hf2 HR0 HH0 HPM4
    go_wp2_with (at_next; refine wpList_nextG rfl _ rfl rfl HRG.out ?_ ?_)
    · intro hdone
      have hdn : ∀ z ∈ C, ¬ left z.id := fun z hz => hdone z.id (kI_ok (HW.out.ok z hz).id1 (HW.out.ok z hz).id2)
      have HHD := Lib.hid (HH.out.done hdn)
      have HTD := Lib.hid (HTW.out.done hdn)
      have hnd := HTW.out.nd
      have HND := Lib.hid hnd
      clear hdone hdn HRG HTW hnd
      obtain ⟨ws, hws⟩ : ∃ ws, ws = wr := ⟨_, rfl⟩
      subst hws
      go_wp2_with (at_range; refine wpList_rangeP rfl _ rfl rfl HPMr.out ?_; intro w6 hp6 k6 hz6)
      try go_frame
      have HP6 := Lib.hid hp6
      have HH6 := Lib.hid (HHD.out.keep HR.out k6 (by simp) (by simp))
      have KP6 := Lib.hid (KP.out.trans k6 (by simp))
      have hF2s : Hid (∀ g ∈ F2, g < ws.heap.size) := Lib.hid (fun g hg => HH.out.ltF g hg)
      clear hp6 k6
      go_loopw [8] (fun _ wq => ∃ left2 : Nat → Prop, PIt wq n0 ws.heap.size l left2 ∧ Half w wq Mo C (n0 + 1 + 1) (n0 + 1) n N L2 F2 (fun _ => False) (prL left2 Mo N) ∧ Keeps [] w wq) (fun _ wq => wq.rangeLeft n0 ws.heap.size)
      case atStart => exact ⟨_, HP6.out, HH6.out.parC (fun z hz => prL_pos (List.mem_map.2 ⟨_, HTD.out.o z hz id, rfl⟩)), KP6.out⟩
      case round =>
        obtain ⟨left2, hp, hh, kq⟩ := hrel
        have HPQ := Lib.hid hp
        have HHQ := Lib.hid hh
        have KQ := Lib.hid kq
        clear hp hh kq HP6 HH6 KP6
        go_wp2_with (at_next; refine wpList_nextP rfl _ rfl rfl HPQ.out HND.out ?_ ?_)
        · intro hdone
          have hfin : RepM wr (n0 + 1 + 1) (n0 + 1) N L2 F2 G C := HHQ.out.end_ HR.out (fun z hz => prL_neg (hdone _ _ (HTD.out.o z hz id))) KQ.out
          have HFIN := Lib.hid hfin
          have HNEW : Hid (∀ g ∈ F2, w.heap.size ≤ g) := Lib.hid HHQ.out.new
          clear hdone hfin
          go_wp2_with fail
          go_ret
          exact ⟨n0 + 1 + 1, F2, rfl, ⟨n0 + 1, N, L2, HFIN.out⟩, HNEW.out, KQ.out⟩
        · intro xb yb w7 hq hl2 hp7 hlt7 k7 hz7 hen
          obtain ⟨z, hz, -, e⟩ := HTD.out.i _ hq
          injection e with e1 e2
          try dsimp only at e1 e2
          have K7 : Keeps [] w w7 := KQ.out.trans k7 (fun g hg => .inr (by rw [List.mem_singleton.1 hg]; exact KP.out.size))
          have hr7 := HR.out.keep0 K7
          have hone : ∀ y ∈ C, IsOne w7 (Mo y.id).b := fun y hy => ⟨_, (hr7.one y hy).b⟩
          have hlook := hp7.pm.look (parOf Mo z) (fun x hx => by
            unfold parOf at hx
            split at hx
            · cases hx
            · rename_i h0
              injection hx with hx
              obtain ⟨y, hy, hyp⟩ := has_iff.1 (HW.out.tree.par hz h0)
              rw [← hx, ← hyp]
              exact hone y hy) (fun q hq => by obtain ⟨y, hy, _, rfl⟩ := HTD.out.i q hq; exact hone y hy)
          rw [HTD.out.find HW.out.tree hz] at hlook
          have hx0 : w7.cell? ⟨xb, 0, none⟩ = some (pv (parOf Mo z)) := by rw [e1]; exact (hr7.one z hz).b.cell 0
          have hr2F : ws.heap.size ∉ F2 := fun hg => by have := hF2s.out _ hg; omega
          have hh7 := HHQ.out.keep HR.out k7 (fun g hg hgF => hr2F (by rw [← List.mem_singleton.1 hg]; exact hgF)) (fun g hg => by rw [List.mem_singleton.1 hg]; exact KP.out.size)
          have hy0 : w7.cell? ⟨yb, 0, none⟩ = some (pv (prL left2 Mo N z)) := by rw [e2]; exact (hh7.one z hz id).b.cell 0
          have hyf : w7.frozen? ⟨yb, 0, none⟩ = false := by rw [e2]; exact (hh7.one z hz id).b.frozen 0
          have hset := hh7.setPar HR.out HW.out.tree hz (parOf N z) (par' := prL (fun y => left2 y ∧ y ≠ xb) Mo N) (prL_neg (fun hh => hh.2 e1.symm)) (fun y hy hne => by
            have hbne : (Mo y.id).b ≠ xb := fun e => hne (HR.out.inj hy hz (e.trans e1))
            by_cases hlb : left2 (Mo y.id).b
            · rw [prL_pos (left2 := left2) hlb]; exact prL_pos ⟨hlb, hbne⟩
            · rw [prL_neg (left2 := left2) hlb]; exact prL_neg (fun hh => hlb hh.1))
          rw [← e2] at hset
          have hybF : yb ∈ F2 := by rw [e2]; exact hh7.blkF hz id (by simp [Mem.blocks])
          have KS : Keeps [yb] w7 (w7.setCell ⟨yb, 0, none⟩ (pv (parOf N z))) := (Keeps.refl _ w7).setCell (by simp) _
          obtain ⟨hp8, hle8⟩ := hp7.keep KS (fun hh => (HF2.out yb hybF).1 (List.mem_singleton.1 hh).symm) (fun hh => by have := hF2s.out yb hybF; have := List.mem_singleton.1 hh; omega)
          have K8 := K7.trans KS (fun g hg => .inr (by rw [List.mem_singleton.1 hg]; exact HHQ.out.new yb hybF))
          have HSET := Lib.hid hset
          have HP8 := Lib.hid hp8
          have HK8 := Lib.hid K8
          have HLE8 := Lib.hid hle8
          have hen' : (Instr.entry (.pointer (some ⟨ws.heap.size, 0, none⟩))).run Tryz.prog w7 = .ok (.tuple #[.pointer (some ⟨xb, 0, none⟩), .pointer (some ⟨yb, 0, none⟩)]) w7 := hen
          clear hset hp8 K8 KS hen hq hl2 hp7 k7 hz7 e1 e2 K7 hr7 hone hr2F hh7 hybF hle8 HPQ HHQ KQ hz
          have ep : pv (parOf N z) = .pointer ((parOf N z).map fun g => ⟨g, 0, none⟩) := rfl
          rw [ep] at hlook HSET HP8 HK8 HLE8
          generalize ((parOf N z).map fun g => (⟨g, 0, none⟩ : Addr)) = pA at hlook HSET HP8 HK8 HLE8
          generalize pv (parOf Mo z) = v1 at hlook hx0
          generalize pv (prL left2 Mo N z) = v2 at hy0
          clear ep
          go_wp2_with fail
          first
            | exact ⟨⟨_, HP8.out, HSET.out, HK8.out⟩, by rw [HLE8.out]; exact hlt7⟩
            | (go_roundw
               case rel => exact ⟨_, HP8.out, HSET.out, HK8.out⟩
               case measure => rw [HLE8.out]; exact hlt7)
    · intro i xb w5 cnt' hok hhi hxb hlx hr2 hlt2 k2 hz2 hen
      obtain ⟨x, hx⟩ := has_find hhi
      obtain ⟨hxC, hxi⟩ := find_mem hx
      have hrl := HRG.out.lt
      have hr3 : w3.heap.size = n0 + 3 := HZ3.out
      have hn0 : w.heap.size = n0 := HN0.out
      have K5 : Keeps [] w w5 := KP.out.trans k2 (fun g hg => .inr (by rw [List.mem_singleton.1 hg]; omega))
      have hh5 := HH.out.keep HR.out k2 (fun g hg hgF => (HF2.out g hgF).2 (List.mem_singleton.1 hg)) (fun g hg => by rw [List.mem_singleton.1 hg]; omega)
      have hpm5 := HPMr.out.keep k2 (fun hg => by have := List.mem_singleton.1 hg; omega)
      have hen' : (Instr.entry (.pointer (some ⟨w3.heap.size, 0, none⟩))).run Tryz.prog w5 = .ok (.tuple #[.int .i64 i, .pointer (some ⟨xb, 0, none⟩)]) w5 := hen
      have HK5 := Lib.hid K5
      have HH5 := Lib.hid hh5
      have HPM5 := Lib.hid hpm5
      have HR5 := Lib.hid hr2
      have HOK := Lib.hid hok
      have HX := Lib.hid hx
      have HLX := Lib.hid hlx
      have hle5 := hr2.left_eq
      have HXB := Lib.hid hxb
      have HXI := Lib.hid hxi
      have hcl : n < maxLen := by unfold maxLen; omega
      obtain ⟨A, cap, hrow, -, -, -⟩ := own_shape (HR.out.at_ hx).1.o
      have HROW := Lib.hid hrow
      have hrd := rd_le HW.out HP.out hxC
      clear hen k2 hr2 hok hhi hx hlx hxb hxi hh5 hpm5 K5 hrow HRG hr3 hn0
      go_upto_region 6 with fail
      refine copy6_any w5 xb (kids C i) (Mo i).mw (Mo i).ml x.rd.length cap (Mo i).mv (Mo i).mq _ _ _ _ (pv (parOf Mo x)) A (rw (rdC (Mo i).sl) x.rd) (Mo i).sl (mget x.wr) (mget x.lg) (cellOf x.rd) _ _
        (fun W hW => by have := ((HR.out.keep0 (HK5.out.trans hW (by simp))).at_ HX.out).1.b; rw [HXB.out, HROW.out] at this; exact this)
        (fun W hW => ((HR.out.keep0 (HK5.out.trans hW (by simp))).at_ HX.out).1.wm) (fun W hW => ((HR.out.keep0 (HK5.out.trans hW (by simp))).at_ HX.out).1.l) (fun W hW => ((HR.out.keep0 (HK5.out.trans hW (by simp))).at_ HX.out).1.v) (fun W hW => ((HR.out.keep0 (HK5.out.trans hW (by simp))).at_ HX.out).1.k)
        (fun W hW => by have := ((HR.out.keep0 (HK5.out.trans hW (by simp))).at_ HX.out).1.o; rw [HROW.out] at this; exact this) (rw_one (rdC_one _) _) hrd _ _ _ _ _ _ _ _ _ _ _ _ _ _ _ _ _ _ _ _ _ _ _ _ _ _ _ _ _ _ _ _ _ _ _ _ _ _ _ _ _ _ _ _ _ _ _ _ _ _ _ _ _ _ _ _ _ _ _ _ _ _ _ _ _ _ _ _ _ _ _ _ _ _ _ _ _ _ _ _ ?_
      intro v24 v25 v26 v27 v28 v29 v30 v31 v32 v33 v34 v35 v36 v37 v38 v39 v40 v41 v42 v43 v44 v45 v46 v47 v48 v49 v50 v51 v52 v53 v54 M W6 b6 m6 l6 o6 v6 q6 k6 ne6 ge6 sl6
      have hMn : ∀ g ∈ M.blocks, g ≠ n0 ∧ g ≠ n0 + 1 ∧ g ≠ w3.heap.size := fun g hg => by have := ge6 g hg; have := HZ3.out; omega
      have hz65 : w5.heap.size ≤ W6.heap.size := k6.size
      have K6 : Keeps [] w W6 := HK5.out.trans k6 (by simp)
      have hone6 : ∀ y ∈ C, IsOne W6 (Mo y.id).b := fun y hy => ⟨_, ((HR.out.keep0 K6).one y hy).b⟩
      obtain ⟨htn, htw⟩ := HTW.out.step (fun y hy z hz e => HR.out.inj hy hz e) hxC (by rw [HXI.out]; exact HLX.out) M
      rw [HXI.out, HXB.out] at htn htw
      have hp6 := HPM5.out.keep k6 (by simp)
      have h6o : IsOne W6 xb := by have := hone6 x hxC; rw [HXI.out, HXB.out] at this; exact this
      have h6l : ∀ q ∈ l, IsOne W6 q.1 := fun q hq => by obtain ⟨z, hz, _, rfl⟩ := HTW.out.i q hq; exact hone6 z hz
      have hh6 := HH5.out.keep HR.out k6 (by simp) (by simp)
      have HR6 := Lib.hid (HR5.out.keep k6 (by simp) (by simp))
      have B6 := Lib.hid b6
      have M6 := Lib.hid m6
      have L6 := Lib.hid l6
      have O6 := Lib.hid o6
      have V6 := Lib.hid v6
      have Q6 := Lib.hid q6
      have NE6 := Lib.hid ne6
      have GE6 := Lib.hid ge6
      have SL6 := Lib.hid sl6
      have HMN := Lib.hid hMn
      have HTW2 := Lib.hid htw
      have HP6 := Lib.hid hp6
      have H6O := Lib.hid h6o
      have H6L := Lib.hid h6l
      have HTN := Lib.hid htn
      have HH6 := Lib.hid hh6
      have HK6 := Lib.hid K6
      clear b6 m6 l6 o6 v6 q6 ne6 ge6 sl6 hMn htw htn hp6 h6o h6l hh6 K6 hone6 k6 HR5 HH5 HPM5
      have hle6 := HR6.out.left_eq
      go_upto_region 8 with (refine wpList_updP rfl rfl _ _ _ rfl n0 l rfl HP6.out xb M.b rfl rfl H6O.out H6L.out HTN.out ?_; intro W7 p7 k7)
      have hn0F : n0 ∉ F2 := fun hg => (HF2.out n0 hg).1 rfl
      have hh7 := HH6.out.keep HR.out k7 (fun g hg hgF => hn0F (by rw [← List.mem_singleton.1 hg]; exact hgF)) (fun g hg => by rw [List.mem_singleton.1 hg]; have := HN0.out; omega)
      have c4 : W7.cell? ⟨n0 + 1 + 1, 0, none⟩ = some (.map (some (n0 + 1))) := hh7.cb.cell 0
      have HH7 := Lib.hid hh7
      have P7 := Lib.hid p7
      have K7 := Lib.hid k7
      clear hh7 p7 k7
      go_wp2_with (refine wpList_updG rfl rfl _ _ _ 63 rfl Tryz.underlying63 (n0 + 1) n _ rfl HH7.out.all hcl i M.b rfl rfl HOK.out ?_; intro W8 h8 k8)
      have hk68 : Keeps [n0, n0 + 1] W6 W8 := (K7.out.mono (by simp)).trans k8 (fun g hg => .inl (by rw [List.mem_singleton.1 hg]; simp))
      have hMK : ∀ g ∈ M.blocks, g ∉ [n0, n0 + 1] := fun g hg hgK => by
        have := HMN.out g hg
        simp only [List.mem_cons, List.not_mem_nil, or_false] at hgK
        omega
      have K8 : Keeps [] w W8 := HK6.out.trans hk68 (fun g hg => .inr (by
        have := HN0.out
        simp only [List.mem_cons, List.not_mem_nil, or_false] at hg
        omega))
      have hr8 := (HR.out.keep0 K8).at_ HX.out
      have hM8 : OneAt W8 M none (kids C i) x := ⟨B6.out.keep hk68 (hMK _ (by simp [Mem.blocks])), M6.out.keep hk68 (hMK _ (by simp [Mem.blocks])), L6.out.keep hk68 (hMK _ (by simp [Mem.blocks])), by
          rw [SL6.out]; exact own_keep O6.out hk68 (fun g hg => hMK g (by simp [Mem.blocks, hg])), V6.out.keep hk68 (hMK _ (by simp [Mem.blocks])), by
          rw [SL6.out]; exact Q6.out.keep hk68 (hMK _ (by simp [Mem.blocks])), by rw [SL6.out]; exact hr8.1.s⟩
      obtain ⟨L2', hadd⟩ := HH7.out.add HR.out HW.out.tree HX.out k8 hM8 SL6.out (fun g hg => by
        refine ⟨fun hgF => ?_, ?_, ?_⟩
        · have := HH.out.ltF g hgF
          have := GE6.out g hg
          omega
        · have := GE6.out g hg
          have := HN0.out
          omega
        · simp only [Mem.blocks, List.mem_cons] at hg
          rcases hg with rfl | rfl | rfl | rfl | rfl | hg
          · exact hM8.b.lt
          · exact hM8.wm.lt
          · exact hM8.l.lt
          · exact hM8.v.lt
          · exact hM8.k.lt
          · exact own_lt hM8.o hg) NE6.out h8
      have HADD := Lib.hid hadd
      have hmw : m < w.heap.size := HR.out.ltF _ HR.out.mF
      have hnm : m ∉ [n0, n0 + 1] := fun hg => by
        have := HN0.out
        simp only [List.mem_cons, List.not_mem_nil, or_false] at hg
        omega
      have hn3 : w3.heap.size ∉ [n0, n0 + 1] := fun hg => by
        have := HZ3.out
        simp only [List.mem_cons, List.not_mem_nil, or_false] at hg
        omega
      have HR8 := Lib.hid (HR6.out.keep hk68 hnm hn3)
      have P8 := Lib.hid (P7.out.keep k8 (by simp))
      have HK8 := Lib.hid K8
      have hle8 := HR8.out.left_eq
      have HF8 : Hid (∀ g ∈ M.blocks ++ F2, g ≠ n0 ∧ g ≠ w3.heap.size) := Lib.hid (fun g hg => by
        rcases List.mem_append.1 hg with hg | hg
        · exact ⟨(HMN.out g hg).1, (HMN.out g hg).2.2⟩
        · exact HF2.out g hg)
      have hz8 : w4.heap.size ≤ W8.heap.size := by have := hk68.size; omega
      clear h8 k8 hk68 hMK K8 hr8 hM8 hadd HH7 P7 K7 HR6
      first
        | exact ⟨⟨_, cnt', n + 1, _, L2', _, _, HR8.out, HADD.out, P8.out, HTW2.out, HK8.out, HF8.out, by omega, hz8⟩, by rw [hle8, hle]; omega⟩
        | (go_roundw
           case rel => exact ⟨_, cnt', n + 1, _, L2', _, _, HR8.out, HADD.out, P8.out, HTW2.out, HK8.out, HF8.out, by omega, hz8⟩
           case measure => rw [hle8, hle]; omega)
end
end Go.Proofs.YtbllmpcpfmlemaaGreat
