/- The reference's device: the walks, the rest. -/
import Derived.Test.YtfhnlkbmkfjpnaaR1
import Derived.Deep.RegionLaw
import Derived.Deep.RegionHeld3
namespace Go.Proofs.Ytfhnlkbmkfjpnaa
open Go.RowKit

/-- The same as wpList_app, as one step of a region that draws its order ('go_region_law'). -/
theorem step_app {P : Program} {w : World} {ops : Array Oper} {o : Oper} {a : Act} {K : Act → World → Prop} {Q : Exit → Act → World → Prop} {E : Prop} (hgd : o.guard = none) (s x : Operand) (t : TypeId)
    (ho : o.op = .call { callee := .builtin .append, args := #[s, x], argTypes := #[t, t] })
    (e : TypeId) (z : Value) (size bytes : Nat) (ht : P.underlying t = some (.slice e)) (hi : (P.info? e).map (fun i => (i.zero, i.size, i.bytes)) = some (some z, size, bytes))
    (hzs : z.cells.size = size) (hsz : 0 < size)
    (v : Value) (n : Nat) (xs : List Value) (hs : a.eval s = v) (hown : w.ownsRow 0 e size v n xs)
    (B : Nat) (A : Option Addr) (m c : Nat) (news : List Value) (hx : a.eval x = .slice A m c) (hr : Reads w B size A m news) (h1 : ∀ u ∈ news, u.oneCell' = true)
    (h63 : n + m ≤ maxLen) (hbytes : (n + m) * bytes ≤ 140737488355328)
    (h : ∀ v' w', w'.ownsRow 0 e size v' (n + m) (xs ++ news) → Keeps (fp v) w w' → (∀ g ∈ fp v', g ∈ fp v ∨ w.heap.size ≤ g) → K (a.put o.dst v') w') :
    if Region.wanted o (yielded ops a.tmps) = true then Oper.wp P o a w K Q else E := by
  obtain ⟨i, hi0, hz, hsize, hby⟩ := info_parts hi
  refine step_append_any w hgd s x t ho 0 e i z size bytes ht hi0 hz hsize hby hzs hsz v n xs hs hown B A m c news hx hr h1 h63 hbytes (Nat.zero_le _) (fun v' w' ho' hg hat => ?_)
  refine h v' w' ho' ((Keeps.refl _ w).grown hg (fun g hv => .inl (by unfold fp; rw [hv]; simp))) (fun g hg' => ?_)
  unfold fp at hg' ⊢
  rcases hat with e | e
  · rw [e] at hg'; exact .inl hg'
  · rw [e] at hg'; simp at hg'; right; omega

set_option maxHeartbeats 400000 in
theorem rlist_any (w : World) (F : List Nat) (p : Nat) (s : Sw) (h : RfRep w F p s) :
    Calls Try.prog 23 #[.pointer (some ⟨p, 0, none⟩)] w fun e w' => ∃ v, e = .returned v ∧ w'.ownsRow 0 3 1 v (cnt s.L) ((lst s.L s.L.length).map (.int .i64)) ∧ Keeps [] w w' ∧ ∀ g ∈ fp v, w.heap.size ≤ g := by
  obtain ⟨A, cap, h⟩ := h
  have hm := h.m
  have ho := h.o
  have hpl := h.b.lt
  have hB := h.b
  obtain ⟨_, _, hv, hcap, hmax, hA⟩ := own_shape ho
  obtain ⟨rfl, -, rfl⟩ : A = _ ∧ s.L.length = _ ∧ cap = _ := by injection hv with h1 h2 h3; exact ⟨h1, rfl, h3⟩
  clear hv h
  go_enter Try.func23, Try.ntmps23
  go_wp2
  go_loopw [3, 4] (fun o i wr => ∃ k : Nat, k ≤ s.L.length ∧ i = .int .i64 k ∧ wr.ownsRow 0 3 1 o (lst s.L k).length ((lst s.L k).map (.int .i64)) ∧ Keeps [] w wr ∧ ∀ g ∈ fp o, w.heap.size ≤ g) (fun _ i _ => s.L.length - (intOf i).toNat)
  case atStart => exact ⟨0, by omega, rfl, World.ownsRow_nil _ _ _ _, Keeps.refl _ _, by simp⟩
  case round =>
    obtain ⟨k, hk, rfl, hown, hkp, hfr⟩ := hrel
    obtain ⟨A2, cap2, rfl, _, _, hA2⟩ := own_shape hown
    have hll := lst_len s.L k
    have c0 : wr.cell? ⟨p, 0, none⟩ = some (.slice A s.L.length cap) := (hB.keep hkp (by simp)).cell 0
    by_cases hlt : k < s.L.length
    · obtain ⟨g, rfl⟩ := hA (by omega)
      have cg0 : w.cell? ⟨g, k, none⟩ = some (.string s.L[k]) := own_cell ho (by simp [hlt])
      have hgl : g < w.heap.size := own_lt ho (by simp)
      have cg : wr.cell? ⟨g, k, none⟩ = some (.string s.L[k]) := (hkp.cell (p := ⟨g, k, none⟩) hgl (by simp)).trans cg0
      have hs := hkp.size
      have hL : lst s.L (k + 1) = if emp s.L[k] then lst s.L k else lst s.L k ++ [(k : Int)] := by
        show (if emp (s.L.getD k E0) then _ else _) = _
        simp [List.getD, hlt]
      have HL := Lib.hid hL; clear hL
      clear cg0
      cases he : s.L[k].toList.isEmpty
      · go_wp2_with (at_builtin; refine wpList_app _ rfl (.tmp 22) (.tmp 24) _ rfl 3 (.int .i64 0) 1 8 Try.underlying42 (by kernel_rfl) rfl (by omega) (.slice A2 (lst s.L k).length cap2) _ _ rfl (own_keep hown ((Keeps.refl [] _).alloc _) (by simp)) _ _ _ _ [.int .i64 k] rfl (reads_one wr (.int .i64 k) 3) (by simp [Value.oneCell']) (by unfold maxLen; omega) (by omega) ?_)
        intro v' w' ho' hk' hf'
        have hk2 : Keeps [] w w' := (hkp.alloc _).trans hk' (fun g hg => .inr (hfr g hg))
        have he2 : emp s.L[k] = false := he
        have hn : lst s.L (k + 1) = lst s.L k ++ [(k : Int)] := by rw [HL.out, he2]; rfl
        have ho2 : w'.ownsRow 0 3 1 v' (lst s.L (k + 1)).length ((lst s.L (k + 1)).map (.int .i64)) := by rw [hn]; simpa using ho'
        have hf2 : ∀ g ∈ fp v', w.heap.size ≤ g := by
          intro g hg
          rcases hf' g hg with h1 | h1
          · exact hfr g h1
          · omega
        clear ho' hk' hf' hn he2 hown hkp hfr
        go_wp2
        go_roundw
        case rel => exact ⟨k + 1, by omega, by go_num, ho2, hk2, hf2⟩
        case measure => simp [intOf]; omega
      · go_wp2
        go_roundw
        case rel =>
          have he2 : emp s.L[k] = true := he
          have hn : lst s.L (k + 1) = lst s.L k := by rw [HL.out, he2]; rfl
          exact ⟨k + 1, by omega, by go_num, by rw [hn]; exact hown, hkp, hfr⟩
        case measure => simp [intOf]; omega
    · obtain rfl : k = s.L.length := by omega
      go_wp2
      go_ret
      exact ⟨.slice A2 (cnt s.L) cap2, by simp [lst_len'], by simpa [lst_len'] using hown, hkp, by simpa [lst_len'] using hfr⟩

theorem rused_any (w : World) (F : List Nat) (p : Nat) (s : Sw) (h : RfRep w F p s) :
    Calls Try.prog 22 #[.pointer (some ⟨p, 0, none⟩)] w fun e w' => e = .returned (.int .i64 (cnt s.L)) ∧ Keeps [] w w' := by
  go_enter Try.func22, Try.ntmps22
  go_wp2_with fail
  refine (rlist_any w F p s h).mono ?_
  rintro e w1 ⟨v, rfl, ho, hk, -⟩
  obtain ⟨A, c, rfl, -, -, -⟩ := own_shape ho
  go_wp2
  go_ret
  exact ⟨rfl, hk⟩

theorem rnew_any (w : World) (n : Int) :
    Calls Try.prog 18 #[.int .i64 n] w fun e w' => ∃ F p, e = .returned (.pointer (some ⟨p, 0, none⟩)) ∧ RfRep w' F p ⟨List.replicate (max 0 (min n 4096)).toNat E0, 0, 0⟩ ∧ Keeps [] w w' ∧ ∀ g ∈ F, w.heap.size ≤ g := by
  obtain ⟨i0, hi, hz0, hz1, hz2⟩ := info_parts (P := Try.prog) (e := 9) (z := .string E0) (size := 1) (bytes := 16) (by kernel_rfl)
  obtain ⟨m, hm, hmm⟩ : ∃ m : Nat, max 0 (min n 4096) = (m : Int) ∧ m ≤ 4096 := ⟨(max 0 (min n 4096)).toNat, by omega, by omega⟩
  rw [hm]
  have HM := Lib.hid hm; clear hm
  go_enter Try.func18, Try.ntmps18
  go_wp2_with (at_make; refine wpList_make_full _ rfl (.tmp 5) (.tmp 5) _ rfl 0 9 i0 (.string E0) 1 Try.underlying26 hi hz0 hz1 .i64 .i64 _ _ m rfl rfl (by have := HM.out; omega) (by have := HM.out; omega) (by rw [hz2]; omega) (by unfold maxLen; omega) (Nat.zero_le _) ?_)
  all_goals
    intro w' ho hg
    have hr : (madeCells #[Value.string E0] m).toList = (List.replicate m E0).map Value.string := by
      rw [List.map_replicate]
      exact toList_madeCells_one _ _
    rw [hr] at ho
    have hk : Keeps [] w w' := (Keeps.refl _ _).grown hg (by simp)
    have hs : w.heap.size < w'.heap.size := own_lt ho (by simp)
    clear hg hr
    go_wp2
    go_ret
    refine ⟨[w'.heap.size, w.heap.size], w'.heap.size, rfl, ⟨some ⟨w.heap.size, 0, none⟩, m, ?_, ?_, ?_, by simpa using hmm, by simp, by simp, by simp⟩, hk.alloc _, ?_⟩
    · simp
    · have := Blk.new w' 50 #[.slice (some ⟨w.heap.size, 0, none⟩) m m, .int .i64 0, .int .i64 0]
      simpa using this
    · have := own_keep ho ((Keeps.refl [] w').alloc (.cells #[.slice (some ⟨w.heap.size, 0, none⟩) m m, .int .i64 0, .int .i64 0] 50)) (by simp)
      simpa using this
    · intro g hg
      simp at hg
      omega

set_option maxHeartbeats 400000 in
theorem rput_any (w : World) (F : List Nat) (p : Nat) (s : Sw) (x : ByteArray) (h : RfRep w F p s) (hr : s.ret ≤ 1000000000) :
    Calls Try.prog 33 #[.pointer (some ⟨p, 0, none⟩), .string x] w fun e w' => e = .returned (.tuple #[.int .i64 (s.put x).1, .bool (s.put x).2.1]) ∧ RfRep w' F p (s.put x).2.2 ∧ Keeps F w w' := by
  have hrep := h
  obtain ⟨A, cap, h⟩ := h
  have c0 : w.cell? ⟨p, 0, none⟩ = some (.slice A s.L.length cap) := h.b.cell 0
  have hm := h.m
  by_cases h1 : x.size = 64
  · have t1 : ((x.size : Int) != 64) = false := by rw [h1]; rfl
    have H1 := Lib.hid h1
    clear h1
    obtain ⟨_, _, hv, hcap, hmax, hA⟩ := own_shape h.o
    obtain ⟨rfl, -, rfl⟩ : A = _ ∧ s.L.length = _ ∧ cap = _ := by injection hv with h1 h2 h3; exact ⟨h1, rfl, h3⟩
    clear hv
    have ho := h.o
    clear h
    go_enter Try.func33, Try.ntmps33
    go_wp2
    go_loop [6] (fun i => ∃ k : Nat, k ≤ s.L.length ∧ i = .int .i64 k ∧ k ≤ first s.L) (fun i => s.L.length - (intOf i).toNat)
    case atStart => exact ⟨0, by omega, rfl, by omega⟩
    case round =>
      obtain ⟨k, hk, rfl, hi⟩ := hrel
      by_cases hlt : k < s.L.length
      · obtain ⟨g, rfl⟩ := hA (by omega)
        have cg : w.cell? ⟨g, k, none⟩ = some (.string s.L[k]) := own_cell ho (by simp [hlt])
        cases hx : s.L[k].toList.isEmpty
        · have hj1 : k + 1 ≤ first s.L := idx_gt hlt hi (by rw [emp_iff]; exact hx)
          go_wp2
          go_round
          case rel => exact ⟨k + 1, by omega, by go_num, hj1⟩
          case measure => simp [intOf]; omega
        · have hjx : first s.L = k := idx_eq hlt hi (by rw [emp_iff]; exact hx)
          have e : s.put x = ((k : Int), true, ⟨s.L.set k x, 0, s.ret + s.due⟩) := by
            unfold Sw.put; rw [if_pos ⟨H1.out, cnt_lt_of_first (by omega)⟩, hjx]
          have H := Lib.hid e; clear e hjx hi
          go_wp2_with fail
          refine (ruse_any _ F p s hrep hr).mono ?_
          rintro e w1 ⟨rfl, ⟨A1, cap1, g1⟩, hk1⟩
          clear c0 cg
          have b1 : Blk w1 p 50 #[.slice A1 s.L.length cap1, .int .i64 0, .int .i64 (s.ret + s.due)] := g1.b
          have o1 : w1.ownsRow 0 9 1 (.slice A1 s.L.length cap1) s.L.length (s.L.map .string) := g1.o
          obtain ⟨_, _, hv, hcap, hmax, hA1⟩ := own_shape o1
          obtain ⟨rfl, -, rfl⟩ : A1 = _ ∧ s.L.length = _ ∧ cap1 = _ := by injection hv with h1 h2 h3; exact ⟨h1, rfl, h3⟩
          clear hv
          obtain ⟨g1', rfl⟩ := hA1 (by omega)
          have hoff : p ∉ fp (.slice (some ⟨g1', 0, none⟩) s.L.length cap1) := g1.off
          have hpg : p ≠ g1' := by simpa using hoff
          have c0 : w1.cell? ⟨p, 0, none⟩ = some (.slice (some ⟨g1', 0, none⟩) s.L.length cap1) := b1.cell 0
          have cg : w1.cell? ⟨g1', k, none⟩ = some (.string s.L[k]) := own_cell o1 (by simp [hlt])
          have fg := own_free o1 k
          go_wp2
          go_ret2
          rw [H.out]
          have hF := g1.f
          refine ⟨rfl, ⟨some ⟨g1', 0, none⟩, cap1, by simpa using hF, ?_, ?_, by simpa using g1.m, by simp, by simp, g1.r0⟩, ?_⟩
          · have hb := b1.far (p := ⟨g1', k, none⟩) hpg (.string x)
            simpa using hb
          · have ho := own_set o1 k (.string x)
            simpa [map_set] using ho
          · rw [hF] at hk1 ⊢
            exact hk1.setCell (.inl (by simp)) _
      · have e : s.put x = (-1, false, s) := by
          unfold Sw.put; rw [if_neg]; rintro ⟨_, h2⟩; have := first_lt h2; omega
        have H := Lib.hid e; clear e
        go_wp2
        go_ret2
        rw [H.out]
        exact ⟨rfl, hrep, Keeps.refl _ _⟩
  · have e : s.put x = (-1, false, s) := by unfold Sw.put; rw [if_neg (fun h => h1 h.1)]
    have H := Lib.hid e; clear e
    have t1 : ((x.size : Int) != 64) = true := by simp; omega
    go_enter Try.func33, Try.ntmps33
    go_wp2
    go_ret2
    rw [H.out]
    exact ⟨rfl, hrep, Keeps.refl _ _⟩

set_option maxHeartbeats 400000 in
theorem rcopy_any (w : World) (F : List Nat) (p : Nat) (s : Sw) (h : RfRep w F p s) :
    Calls Try.prog 20 #[.pointer (some ⟨p, 0, none⟩)] w fun e w' => ∃ F' p', e = .returned (.pointer (some ⟨p', 0, none⟩)) ∧ RfRep w' F' p' s ∧ Keeps [] w w' ∧ ∀ g ∈ F', w.heap.size ≤ g := by
  obtain ⟨A, cap, h⟩ := h
  have c0 : w.cell? ⟨p, 0, none⟩ = some (.slice A s.L.length cap) := h.b.cell 0
  have c1 : w.cell? ⟨p, 1, none⟩ = some (.int .i64 s.due) := h.b.cell 1
  have c2 : w.cell? ⟨p, 2, none⟩ = some (.int .i64 s.ret) := h.b.cell 2
  have hl := h.b.lt
  have hm := h.m
  have hB := h.b
  have ho := h.o
  have D0 := Lib.hid h.d0
  have D1 := Lib.hid h.d1
  have D2 := Lib.hid h.r0
  clear h
  have h1 : ∀ u ∈ s.L.map Value.string, u.oneCell' = true := by simp [Value.oneCell']
  have hown : (w.alloc (.cells #[] 9)).drew.ownsRow 0 9 1 (.slice (some ⟨w.heap.size, 0, none⟩) 0 0) 0 [] := own_drew (own_of_blk (Blk.new w 9 #[]) (by omega) (by omega) rfl rfl)
  have hrd : Reads (w.alloc (.cells #[] 9)).drew (w.alloc (.cells #[] 9)).drew.heap.size 1 A s.L.length (s.L.map .string) := reads_own (own_drew (own_keep ho ((Keeps.refl [] _).alloc _) (by simp)))
  have hk0 : Keeps [] w (w.alloc (.cells #[] 9)).drew := ((Keeps.refl [] _).alloc _).drew
  have hin : (Try.prog.info? 9).map (fun i => (i.zero, i.size, i.bytes)) = some (some (.string E0), 1, 16) := by kernel_rfl
  have h63 : 0 + s.L.length ≤ maxLen := by unfold maxLen; omega
  have hby : (0 + s.L.length) * 16 ≤ 140737488355328 := by omega
  have H1 := Lib.hid h1
  have HO := Lib.hid hown
  have HR := Lib.hid hrd
  have HK := Lib.hid hk0
  have HI := Lib.hid hin
  have HB := Lib.hid hB
  clear h1 hown hrd hk0 hin ho hB
  go_enter Try.func20, Try.ntmps20
  go_wp2_with fail
  go_region_held3 (fun w' => w'.cell? ⟨p, 0, none⟩ = some (.slice A s.L.length cap) ∧ w'.cell? ⟨p, 1, none⟩ = some (.int .i64 s.due) ∧ w'.cell? ⟨p, 2, none⟩ = some (.int .i64 s.ret))
    (first
      | go_keep
      | (go_split_ands
         exact ⟨((HB.out.keep HK.out (by simp)).keep hk' (by simp; omega)).cell 0, ((HB.out.keep HK.out (by simp)).keep hk' (by simp; omega)).cell 1, ((HB.out.keep HK.out (by simp)).keep hk' (by simp; omega)).cell 2⟩))
    ((refine step_app (by rfl) (.tmp 3) (.tmp 7) 26 (by rfl) 9 (.string E0) 1 16 Try.underlying26 HI.out rfl (by omega) (.slice (some ⟨w.heap.size, 0, none⟩) 0 0) 0 [] (by rfl) HO.out _ A s.L.length cap (s.L.map .string) (by rfl) HR.out H1.out h63 hby ?_; intro v' w' ho' hk' hf'; obtain ⟨A1, cap1, rfl, -, -, -⟩ := own_shape ho'))
  go_wp2
  go_ret
  have ho2 : w'.ownsRow 0 9 1 (.slice A1 s.L.length cap1) s.L.length (s.L.map .string) := by simpa using ho'
  have hf2 : ∀ g ∈ fp (.slice A1 s.L.length cap1), w.heap.size ≤ g := by
    intro g hg
    rcases hf' g (by simpa using hg) with h2 | h2
    · have : g = w.heap.size := by simpa using h2
      omega
    · have := HK.out.size
      omega
  have hs : w.heap.size ≤ w'.heap.size := Nat.le_trans HK.out.size hk'.size
  refine ⟨w'.heap.size :: fp (.slice A1 s.L.length cap1), w'.heap.size, rfl, ⟨A1, cap1, rfl, Blk.new _ _ _, ?_, hm, D0.out, D1.out, D2.out⟩, ?_, ?_⟩
  · exact own_keep ho2 ((Keeps.refl [] _).alloc _) (by simp)
  · exact (HK.out.trans hk' (by simp)).alloc _
  · intro g hg
    rcases List.mem_cons.1 hg with rfl | hg
    · exact hs
    · exact hf2 g hg
set_option maxHeartbeats 1000000 in
theorem model_any (w : World) (F : List Nat) (p : Nat) (s : Sw) (d n b : Int) (h : RfRep w F p s) (hr : s.ret ≤ 1000000000) (h0 : 0 ≤ b) (h1 : b ≤ 255) :
    Calls Try.prog 21 #[.pointer (some ⟨p, 0, none⟩), .agg #[.int .i64 d, .int .i64 n, .int .u8 b]] w fun e w' =>
      e = .returned (.tuple #[.string (s.step d n b).1.1, .int .i64 (s.step d n b).1.2.1, .int .i64 (s.step d n b).1.2.2]) ∧ RfRep w' F p (s.step d n b).2 ∧ Keeps F w w' := by
  have hk0 : Keeps [] w (w.alloc (.cells #[.int .i64 d, .int .i64 n, .int .u8 b] 31)) := (Keeps.refl _ _).alloc _
  have hA := h.keep hk0 (by simp)
  have hk0' : Keeps F w (w.alloc (.cells #[.int .i64 d, .int .i64 n, .int .u8 b] 31)) := (Keeps.refl _ _).alloc _
  by_cases h34 : opk d = 3 ∨ opk d = 4
  · have H := Lib.hid (show s.step d n b = _ from if_pos h34)
    have hg := rget_any _ F p s n hA hr
    have HG := Lib.hid hg; clear hg
    rcases h34 with h34 | h34
    · have t1 : (bits .and .i64 d 7 == 3) = true := by simp [show bits .and .i64 d 7 = 3 from h34]
      clear h34
      go_enter Try.func21, Try.ntmps21
      go_wp2_with fail
      refine HG.out.mono ?_
      rintro e w1 ⟨rfl, hw1, hk1⟩
      go_wp2
      go_ret3
      rw [H.out]
      exact ⟨rfl, hw1, hk0'.trans hk1 (fun g hg => .inl hg)⟩
    · have t0 : (bits .and .i64 d 7 == 3) = false := by simp [show bits .and .i64 d 7 = 4 from h34]
      have t1 : (bits .and .i64 d 7 == 4) = true := by simp [show bits .and .i64 d 7 = 4 from h34]
      clear h34
      go_enter Try.func21, Try.ntmps21
      go_wp2_with fail
      refine HG.out.mono ?_
      rintro e w1 ⟨rfl, hw1, hk1⟩
      go_wp2
      go_ret3
      rw [H.out]
      exact ⟨rfl, hw1, hk0'.trans hk1 (fun g hg => .inl hg)⟩
  by_cases h56 : opk d = 5 ∨ opk d = 6
  · have H := Lib.hid (show s.step d n b = _ from (if_neg h34).trans (if_pos h56))
    have hg := rfree_any _ F p s n hA
    have HG := Lib.hid hg; clear hg h34
    rcases h56 with hk | hk
    · have t3 : (bits .and .i64 d 7 == 3) = false := by simp [show bits .and .i64 d 7 = 5 from hk]
      have t4 : (bits .and .i64 d 7 == 4) = false := by simp [show bits .and .i64 d 7 = 5 from hk]
      have t5 : (bits .and .i64 d 7 == 5) = true := by simp [show bits .and .i64 d 7 = 5 from hk]
      clear hk
      go_enter Try.func21, Try.ntmps21
      go_wp2_with fail
      refine HG.out.mono ?_
      rintro e w1 ⟨rfl, hw1, hk1⟩
      go_wp2
      go_ret3
      rw [H.out]
      exact ⟨rfl, hw1, hk0'.trans hk1 (fun g hg => .inl hg)⟩
    · have t3 : (bits .and .i64 d 7 == 3) = false := by simp [show bits .and .i64 d 7 = 6 from hk]
      have t4 : (bits .and .i64 d 7 == 4) = false := by simp [show bits .and .i64 d 7 = 6 from hk]
      have t5 : (bits .and .i64 d 7 == 5) = false := by simp [show bits .and .i64 d 7 = 6 from hk]
      have t6 : (bits .and .i64 d 7 == 6) = true := by simp [show bits .and .i64 d 7 = 6 from hk]
      clear hk
      go_enter Try.func21, Try.ntmps21
      go_wp2_with fail
      refine HG.out.mono ?_
      rintro e w1 ⟨rfl, hw1, hk1⟩
      go_wp2
      go_ret3
      rw [H.out]
      exact ⟨rfl, hw1, hk0'.trans hk1 (fun g hg => .inl hg)⟩
  by_cases h7 : opk d = 7
  · have H := Lib.hid (show s.step d n b = _ from (if_neg h34).trans ((if_neg h56).trans (if_pos h7)))
    have hg := rfail_any _ F p s n hA
    have HG := Lib.hid hg; clear hg h34 h56
    have hk := h7
    clear h7
    · have t3 : (bits .and .i64 d 7 == 3) = false := by simp [show bits .and .i64 d 7 = 7 from hk]
      have t4 : (bits .and .i64 d 7 == 4) = false := by simp [show bits .and .i64 d 7 = 7 from hk]
      have t5 : (bits .and .i64 d 7 == 5) = false := by simp [show bits .and .i64 d 7 = 7 from hk]
      have t6 : (bits .and .i64 d 7 == 6) = false := by simp [show bits .and .i64 d 7 = 7 from hk]
      have t7 : (bits .and .i64 d 7 == 7) = true := by simp [show bits .and .i64 d 7 = 7 from hk]
      clear hk
      go_enter Try.func21, Try.ntmps21
      go_wp2_with fail
      refine HG.out.mono ?_
      rintro e w1 ⟨rfl, hw1, hk1⟩
      go_wp2
      go_ret3
      rw [H.out]
      exact ⟨rfl, hw1, hk0'.trans hk1 (fun g hg => .inl hg)⟩
  · have H := Lib.hid (show s.step d n b = _ from (if_neg h34).trans ((if_neg h56).trans (if_neg h7)))
    have t3 : (bits .and .i64 d 7 == 3) = false := by simp; exact fun h => h34 (.inl h)
    have t4 : (bits .and .i64 d 7 == 4) = false := by simp; exact fun h => h34 (.inr h)
    have t5 : (bits .and .i64 d 7 == 5) = false := by simp; exact fun h => h56 (.inl h)
    have t6 : (bits .and .i64 d 7 == 6) = false := by simp; exact fun h => h56 (.inr h)
    have t7 : (bits .and .i64 d 7 == 7) = false := by simp; exact h7
    clear h34 h56 h7
    have hp := fun W (hW : RfRep W F p s) => rput_any W F p s (bodyS d n b) hW hr
    cases hq : (s.put (bodyS d n b)).2.1
    all_goals
      have HQ := Lib.hid hq
      go_enter Try.func21, Try.ntmps21
      go_wp2_with fail
      refine (body_any _ d n b h0 h1).mono ?_
      rintro e w1 ⟨rfl, hk1⟩
      go_wp2_with fail
      refine (hp _ (hA.keep hk1 (by simp))).mono ?_
      rw [HQ.out]
      rintro e w2 ⟨rfl, hw2, hk2⟩
      clear hp hq
      go_wp2
      go_ret3
      rw [H.out, HQ.out]
      exact ⟨rfl, hw2, (hk0'.trans hk1 (by simp)).trans hk2 (fun g hg => .inl hg)⟩
end Go.Proofs.Ytfhnlkbmkfjpnaa
