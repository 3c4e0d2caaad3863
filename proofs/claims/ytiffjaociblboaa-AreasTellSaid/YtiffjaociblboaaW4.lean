/- Private and the reference's Private; shows. -/
import Derived.Test.YtiffjaociblboaaW3
namespace Go.Proofs.Ytiffjaociblboaa
open Go.RowKit

def pri (L : List Ar) : List Ar := L.filter (fun x => !x.s)
theorem info24 : (Try.prog.info? 24).map (fun i => (i.zero, i.size, i.bytes)) = some (some (.agg #[.int .i64 0, .int .i64 0, .string ⟨#[]⟩, .int .i64 0, .bool false, .bool false]), 6, 48) := by kernel_rfl
theorem filter_take {α : Type} (p : α → Bool) (l : List α) {k : Nat} (h : k < l.length) : (l.take (k + 1)).filter p = (l.take k).filter p ++ if p l[k] then [l[k]] else [] := by
  rw [List.take_succ_eq_append_getElem h, List.filter_append]
  congr 1
  by_cases hp : p l[k] = true <;> simp [hp]
/-- A new list of areas: the call's own row. -/
def OwnL (w0 w : World) (v : Value) (L : List Ar) : Prop := w.ownsRow 0 24 6 v L.length (rw acs L) ∧ Keeps [] w0 w ∧ ∀ g ∈ fp v, w0.heap.size ≤ g
theorem OwnL.nil {w0 w : World} (h : Keeps [] w0 w) : OwnL w0 w (.slice none 0 0) [] := ⟨World.ownsRow_nil _ _ _ _, h, by simp [fp, Value.ownBlock]⟩
theorem OwnL.same {w0 w w' : World} {v : Value} {L : List Ar} (h : OwnL w0 w v L) (hk : Keeps [] w w') : OwnL w0 w' v L := ⟨own_keep h.1 hk (by simp), h.2.1.trans hk (by simp), h.2.2⟩
theorem OwnL.shape {w0 w : World} {v : Value} {L : List Ar} (h : OwnL w0 w v L) : ∃ A c, v = .slice A L.length c := by
  obtain ⟨A, c, rfl, _⟩ := own_shape h.1
  exact ⟨A, c, rfl⟩
theorem OwnL.at_ {w0 w : World} {A : Option Addr} {c : Nat} {L : List Ar} (h : OwnL w0 w (.slice A L.length c) L) (hm : L.length ≤ 1000000) : AtL w A L := AtL.of_own h.1 hm
/-- One area more. -/
theorem OwnL.app {w0 w wb w' : World} {v v' : Value} {L : List Ar} {x : Ar} {n : Nat} (h : OwnL w0 w v L) (hb : Keeps [] w wb) (hn : n = L.length + 1) (ho : w'.ownsRow 0 24 6 v' n (rw acs L ++ acs x)) (hk : Keeps (fp v) wb w') {N : Nat} (hf : ∀ g ∈ fp v', g ∈ fp v ∨ N ≤ g) (hN : wb.heap.size ≤ N) : OwnL w0 w' v' (L ++ [x]) := by
  obtain ⟨h1, h2, h3⟩ := h
  have e : (L ++ [x]).length = n := by rw [hn]; simp
  have hs := (h2.trans hb (by simp)).size
  refine ⟨by rw [e, rw_append, rw_cons, rw_nil, List.append_nil]; exact ho, (h2.trans hb (by simp)).trans hk (fun g hg => .inr (h3 g hg)), fun g hg => (hf g hg).elim (h3 g) (fun h => by omega)⟩
set_option maxRecDepth 100000 in
set_option maxHeartbeats 3200000 in
theorem private_any (w : World) (A : Option Addr) (L : List Ar) (c : Nat) (h : AtL w A L) :
    Calls Try.prog 20 #[.slice A L.length c] w fun e w' => ∃ v, e = .returned v ∧ OwnL w w' v (pri L) := by
  have hm := h.mx
  have HH := Lib.hid h
  have HI := Lib.hid info24
  clear h
  go_enter Try.func20, Try.ntmps20
  go_wp2_with fail
  go_loopw [3, 8] (fun v i wr => ∃ k : Nat, k ≤ L.length ∧ i = .int .i64 k ∧ OwnL w wr v (pri (L.take k))) (fun _ i _ => L.length - (intOf i).toNat)
  case atStart => exact ⟨0, by omega, rfl, OwnL.nil (Keeps.refl _ _)⟩
  case round =>
    obtain ⟨k, hk, rfl, O⟩ := hrel
    have HO := Lib.hid O
    obtain ⟨Av, cv, rfl⟩ := O.shape
    by_cases hlt : k < L.length
    · have HC := Lib.hid (HH.out.keep O.2.1)
      obtain ⟨bl, off, rfl, hbl, hc⟩ := HC.out.at_ (by omega)
      obtain ⟨c0, c1, c2, c3, c4, c5⟩ := hc k hlt
      have hf := filter_take (fun x : Ar => !x.s) L hlt
      have hpl : (pri (L.take k)).length ≤ 1000000 := Nat.le_trans (List.length_filter_le _ _) (by rw [List.length_take]; omega)
      obtain ⟨x, hx⟩ : ∃ x, L[k] = x := ⟨_, rfl⟩
      rw [hx] at c0 c1 c2 c3 c4 c5 hf
      have HF := Lib.hid hf
      clear hx hc hf O hbl
      obtain ⟨P, hP⟩ : ∃ P, pri (L.take k) = P := ⟨_, rfl⟩
      have HP := Lib.hid hP
      rw [hP] at HO hpl
      rw [hP]
      clear hP
      obtain ⟨xa, xn, xo, xf, xs, xw⟩ := x
      dsimp only at c0 c1 c2 c3 c4 c5
      cases xs with
      | true =>
        have kx : Keeps [] wr (wr.alloc (.cells #[.int .i64 xa, .int .i64 xn, .string xo, .int .i64 xf, .bool true, .bool xw] 24)) := (Keeps.refl _ _).alloc _
        have hn : pri (L.take (k + 1)) = P := by rw [← HP.out]; unfold pri; rw [HF.out]; simp
        have HN := Lib.hid hn
        have O2 := Lib.hid (HO.out.same kx)
        clear hn kx
        go_wp2_with fail
        go_roundw
        case rel => exact ⟨k + 1, by omega, by go_num, by rw [HN.out]; exact O2.out⟩
        case measure => simp [intOf]; omega
      | false =>
        have kx : Keeps [] wr (wr.alloc (.cells #[.int .i64 xa, .int .i64 xn, .string xo, .int .i64 xf, .bool false, .bool xw] 24)) := (Keeps.refl _ _).alloc _
        have hn : pri (L.take (k + 1)) = P ++ [⟨xa, xn, xo, xf, false, xw⟩] := by rw [← HP.out]; unfold pri; rw [HF.out]; simp
        have HN := Lib.hid hn
        have kx2 : Keeps [] wr ((wr.alloc (.cells #[.int .i64 xa, .int .i64 xn, .string xo, .int .i64 xf, .bool false, .bool xw] 24)).alloc (.cells #[.int .i64 xa, .int .i64 xn, .string xo, .int .i64 xf, .bool false, .bool xw] 24)) := kx.alloc _
        have hr := reads_cells (wr.alloc (.cells #[.int .i64 xa, .int .i64 xn, .string xo, .int .i64 xf, .bool false, .bool xw] 24)) #[.int .i64 xa, .int .i64 xn, .string xo, .int .i64 xf, .bool false, .bool xw] 1 6 24 rfl
        rw [show (wr.alloc (.cells #[.int .i64 xa, .int .i64 xn, .string xo, .int .i64 xf, .bool false, .bool xw] 24)).heap.size = wr.heap.size + 1 by simp] at hr
        have HR := Lib.hid hr
        have HO2 := Lib.hid (HO.out.same kx2)
        have HK2 := Lib.hid kx2
        clear hn kx kx2 hr
        go_wp2_with (at_builtin; refine wpList_app _ rfl (.tmp 15) (.tmp 17) _ rfl 24 (.agg #[.int .i64 0, .int .i64 0, .string ⟨#[]⟩, .int .i64 0, .bool false, .bool false]) 6 48 Try.underlying22 HI.out rfl (by omega) (.slice Av P.length cv) _ _ rfl HO2.out.1 _ _ 1 1 (acs ⟨xa, xn, xo, xf, false, xw⟩) rfl HR.out (acs_one _) (by unfold maxLen; omega) (by omega) ?_)
        intro v6 w6 o6 k6 f6
        have O6 := Lib.hid (HO.out.app HK2.out rfl o6 k6 f6 (by simp))
        clear o6 k6 f6 HO2 HR
        go_wp2_with fail
        go_roundw
        case rel => exact ⟨k + 1, by omega, by go_num, by rw [HN.out]; exact O6.out⟩
        case measure => simp [intOf]; omega
    · obtain rfl : k = L.length := by omega
      rw [List.take_length] at HO ⊢
      clear O
      go_wp2_with fail
      go_ret
      exact ⟨_, rfl, HO.out⟩
set_option maxRecDepth 100000 in
set_option maxHeartbeats 3200000 in
theorem rprivate_any (w : World) (A : Option Addr) (L : List Ar) (c : Nat) (h : AtL w A L) :
    Calls Try.prog 21 #[.slice A L.length c] w fun e w' => ∃ v, e = .returned v ∧ OwnL w w' v (pri L) := by
  have hm := h.mx
  have HH := Lib.hid h
  have HI := Lib.hid info24
  clear h
  go_enter Try.func21, Try.ntmps21
  go_wp2_with fail
  go_loopw [3, 4] (fun v i wr => ∃ k : Nat, k ≤ L.length ∧ i = .int .i64 k ∧ OwnL w wr v (pri (L.take k))) (fun _ i _ => L.length - (intOf i).toNat)
  case atStart => exact ⟨0, by omega, rfl, OwnL.nil (Keeps.refl _ _)⟩
  case round =>
    obtain ⟨k, hk, rfl, O⟩ := hrel
    have HO := Lib.hid O
    obtain ⟨Av, cv, rfl⟩ := O.shape
    by_cases hlt : k < L.length
    · have HC := Lib.hid (HH.out.keep O.2.1)
      obtain ⟨bl, off, rfl, hbl, hc⟩ := HC.out.at_ (by omega)
      obtain ⟨c0, c1, c2, c3, c4, c5⟩ := hc k hlt
      have hf := filter_take (fun x : Ar => !x.s) L hlt
      have hpl : (pri (L.take k)).length ≤ 1000000 := Nat.le_trans (List.length_filter_le _ _) (by rw [List.length_take]; omega)
      obtain ⟨x, hx⟩ : ∃ x, L[k] = x := ⟨_, rfl⟩
      rw [hx] at c0 c1 c2 c3 c4 c5 hf
      have HF := Lib.hid hf
      clear hx hc hf O hbl
      obtain ⟨P, hP⟩ : ∃ P, pri (L.take k) = P := ⟨_, rfl⟩
      have HP := Lib.hid hP
      rw [hP] at HO hpl
      rw [hP]
      clear hP
      obtain ⟨xa, xn, xo, xf, xs, xw⟩ := x
      dsimp only at c0 c1 c2 c3 c4 c5
      cases xs with
      | true =>
        have hn : pri (L.take (k + 1)) = P := by rw [← HP.out]; unfold pri; rw [HF.out]; simp
        have HN := Lib.hid hn
        clear hn
        go_wp2_with fail
        go_roundw
        case rel => exact ⟨k + 1, by omega, by go_num, by rw [HN.out]; exact HO.out⟩
        case measure => simp [intOf]; omega
      | false =>
        have hn : pri (L.take (k + 1)) = P ++ [⟨xa, xn, xo, xf, false, xw⟩] := by rw [← HP.out]; unfold pri; rw [HF.out]; simp
        have HN := Lib.hid hn
        have kx2 : Keeps [] wr (wr.alloc (.cells #[.int .i64 xa, .int .i64 xn, .string xo, .int .i64 xf, .bool false, .bool xw] 24)) := (Keeps.refl _ _).alloc _
        have hr := reads_cells wr #[.int .i64 xa, .int .i64 xn, .string xo, .int .i64 xf, .bool false, .bool xw] 1 6 24 rfl
        have HR := Lib.hid hr
        have HO2 := Lib.hid (HO.out.same kx2)
        have HK2 := Lib.hid kx2
        clear hn kx2 hr
        go_wp2_with (at_builtin; refine wpList_app _ rfl (.tmp 17) (.tmp 22) _ rfl 24 (.agg #[.int .i64 0, .int .i64 0, .string ⟨#[]⟩, .int .i64 0, .bool false, .bool false]) 6 48 Try.underlying22 HI.out rfl (by omega) (.slice Av P.length cv) _ _ rfl HO2.out.1 _ _ 1 1 (acs ⟨xa, xn, xo, xf, false, xw⟩) rfl HR.out (acs_one _) (by unfold maxLen; omega) (by omega) ?_)
        intro v6 w6 o6 k6 f6
        have O6 := Lib.hid (HO.out.app HK2.out rfl o6 k6 f6 (by simp))
        clear o6 k6 f6 HO2 HR
        go_wp2_with fail
        go_roundw
        case rel => exact ⟨k + 1, by omega, by go_num, by rw [HN.out]; exact O6.out⟩
        case measure => simp [intOf]; omega
    · obtain rfl : k = L.length := by omega
      rw [List.take_length] at HO ⊢
      clear O
      go_wp2_with fail
      go_ret
      exact ⟨_, rfl, HO.out⟩
/-- Two lists show the same at a page. -/
def shwB (L M : List Ar) (p : Int) : Bool := if (fnd L p).isSome && (fnd M p).isSome then
    (fndV L p).o.toList == (fndV M p).o.toList && ((fndV L p).f - (fndV L p).a == (fndV M p).f - (fndV M p).a) && ((fndV L p).s == (fndV M p).s) && ((fndV L p).w == (fndV M p).w)
  else (fnd L p).isSome == (fnd M p).isSome
end Go.Proofs.Ytiffjaociblboaa
