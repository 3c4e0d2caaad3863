/- A table of the reference in the hand; table. -/
import Derived.Test.YteognipfnbocpaaGreatQ1
namespace Go.Proofs.YteognipfnbocpaaGreat
open Go.RowKit
open T12 (E TbRep RfRep ent ents mapM mapN wlkM wlkB wlkN unmM clrM clrB lookX)
open T13 (Tl En TlRep)

/-- The table of a space that has one is turned. -/
def Rm.setTab (r : Rm) (x : Int) (m : Pg) : Rm := match r.ix x with
  | none => r
  | some i => { r with M := r.M.set i m }
theorem rset_none {r : Rm} {x : Int} (h : r.ix x = none) (m : Pg) : r.setTab x m = r := by unfold Rm.setTab; rw [h]
theorem rset_some {r : Rm} {x : Int} {i : Nat} (h : r.ix x = some i) (m : Pg) : r.setTab x m = { r with M := r.M.set i m } := by unfold Rm.setTab; rw [h]
theorem rset_ix (r : Rm) (x y : Int) (m : Pg) : (r.setTab x m).ix y = r.ix y := by unfold Rm.setTab; split <;> rfl
theorem rset_C (r : Rm) (x : Int) (m : Pg) : (r.setTab x m).C = r.C := by unfold Rm.setTab; split <;> rfl
theorem rset_n (r : Rm) (x : Int) (m : Pg) : (r.setTab x m).n = r.n := by unfold Rm.setTab; split <;> rfl
/-- The table m of space x lies at q, blocks G; it belongs to the reference's Mmu, or lies by itself. -/
def RFoc (w : World) (F : List Nat) (p : Nat) (r : Rm) (x : Int) (G : List Nat) (q : Nat) (m : Pg) : Prop :=
  ∃ L A1 A2 A3 c1 c2 c3 qs cs, RmAt w F p r L A1 A2 A3 c1 c2 c3 qs cs ∧ RfRep w G q m ∧ ((∃ i, r.ix x = some i ∧ r.M[i]? = some m ∧ qs[i]? = some q ∧ ∀ g ∈ G, L g = some (.tb i)) ∨ (r.ix x = none ∧ ∀ g ∈ G, g ∉ F))
section
variable {w w' : World} {F : List Nat} {p : Nat} {r : Rm} {x : Int} {G : List Nat} {q : Nat} {m : Pg}
theorem RFoc.rf (h : RFoc w F p r x G q m) : RfRep w G q m := by obtain ⟨L, A1, A2, A3, c1, c2, c3, qs, cs, _, h, _⟩ := h; exact h
theorem RFoc.rep (h : RFoc w F p r x G q m) : RmRep w F p r := by obtain ⟨L, A1, A2, A3, c1, c2, c3, qs, cs, h, _⟩ := h; exact ⟨L, A1, A2, A3, c1, c2, c3, qs, cs, h⟩
theorem RFoc.turn (h : RFoc w F p r x G q m) {G' : List Nat} {m' : Pg} (hk : Keeps G w w') (ht : RfRep w' G' q m') (hG' : ∀ g ∈ G', g ∈ G ∨ w.heap.size ≤ g) :
    ∃ F', RFoc w' F' p (r.setTab x m') x G' q m' ∧ ∀ g ∈ F', g ∈ F ∨ g ∈ G' := by
  obtain ⟨L, A1, A2, A3, c1, c2, c3, qs, cs, h, h0, ⟨i, hx, hm, hq, hG⟩ | ⟨hx, hG⟩⟩ := h
  · refine ⟨G' ++ F, ?_, fun g hg => ?_⟩
    · have hi : (r.setTab x m').ix x = some i := by rw [rset_ix]; exact hx
      rw [rset_some hx] at hi ⊢
      have hil : i < r.M.length := (List.getElem?_eq_some_iff.1 hm).1
      exact ⟨_, A1, A2, A3, c1, c2, c3, qs, cs, h.table hm hq hG hk ht hG', ht, .inl ⟨i, hi, by show (r.M.set i m')[i]? = _; rw [List.getElem?_set]; simp [hil], hq, fun g hg => relab_in hg⟩⟩
    · rcases List.mem_append.1 hg with h1 | h1
      · exact .inr h1
      · exact .inl h1
  · rw [rset_none hx]
    refine ⟨F, ⟨L, A1, A2, A3, c1, c2, c3, qs, cs, h.keep hk (fun g l hl h1 => hG g h1 (h.inF g l hl)), ht, .inr ⟨hx, fun g hg h1 => ?_⟩⟩, fun g hg => .inl hg⟩
    rcases hG' g hg with h2 | h2
    · exact hG g h2 h1
    · have := h.fl g h1; omega
theorem RFoc.same (h : RFoc w F p r x G q m) (hk : Keeps [] w w') : RFoc w' F p r x G q m := by
  obtain ⟨L, A1, A2, A3, c1, c2, c3, qs, cs, h, h0, h1⟩ := h
  exact ⟨L, A1, A2, A3, c1, c2, c3, qs, cs, h.keep hk (by simp), h0.keep hk (by simp), h1⟩
end
theorem RfRep.fresh (w : World) : RfRep (w.alloc (.cells #[.slice none 0 0] 77)) [w.heap.size] w.heap.size pg0 := by
  have he : ents pg0 256 = [] := ents_pg0_nil 256
  exact ⟨none, 0, by rw [he]; rfl, by rw [he]; exact Blk.new w 77 _, by rw [he]; exact World.ownsRow_nil _ _ _ _, fun _ _ => rfl⟩
set_option maxRecDepth 100000 in
set_option maxHeartbeats 1600000 in
theorem rtable_any (w : World) (F : List Nat) (p : Nat) (r : Rm) (h : RmRep w F p r) (x : Int) :
    Calls Tryz.prog 42 #[.pointer (some ⟨p, 0, none⟩), .int .i64 x] w fun e w' => ∃ G q, e = .returned (.pointer (some ⟨q, 0, none⟩)) ∧ RFoc w' F p r x G q (r.tab x) ∧ Keeps [] w w' ∧ ∀ g ∈ G, g ∈ F ∨ w.heap.size ≤ g := by
  obtain ⟨L, A1, A2, A3, c1, c2, c3, qs, cs, h⟩ := h
  have k0 := h.bp.cell 0
  have k1 := h.bp.cell 1
  have hlen : r.N.length ≤ 9223372036854775807 := own_max h.o1
  obtain ⟨_, _, hv, -, -, hA⟩ := own_shape h.o1
  obtain ⟨rfl, -, rfl⟩ : A1 = _ ∧ r.N.length = _ ∧ c1 = _ := by injection hv with h1 h2 h3; exact ⟨h1, rfl, h3⟩
  clear hv
  obtain ⟨_, _, hv, -, -, hB⟩ := own_shape h.o2
  obtain ⟨rfl, -, rfl⟩ : A2 = _ ∧ r.M.length = _ ∧ c2 = _ := by injection hv with h1 h2 h3; exact ⟨h1, rfl, h3⟩
  clear hv
  have HH := Lib.hid h
  clear h
  go_enter Tryz.func42, Tryz.ntmps42
  go_wp2
  go_loop [5] (fun i => ∃ k : Nat, k ≤ r.N.length ∧ i = .int .i64 k ∧ ∀ j (hj : j < r.N.length), j < k → (r.N[j] == x) = false) (fun i => r.N.length - (intOf i).toNat)
  case atStart => exact ⟨0, by omega, rfl, fun _ _ h => absurd h (by omega)⟩
  case round =>
    obtain ⟨k, hk, rfl, hst⟩ := hrel
    have HST := Lib.hid hst
    clear hst
    by_cases hlt : k < r.N.length
    · obtain ⟨g, rfl⟩ := hA (by omega)
      have y0 := own_cell HH.out.o1 (j := k) (u := .int .i64 r.N[k]) (by unfold iv; rw [List.getElem?_map, List.getElem?_eq_getElem hlt]; rfl)
      cases e1 : (r.N[k] == x) with
      | false =>
        have HE := Lib.hid e1
        go_wp2
        go_round
        case rel =>
          refine ⟨k + 1, by omega, by go_num, fun j hj hjk => ?_⟩
          by_cases e : j = k
          · subst e; exact HE.out
          · exact HST.out j hj (by omega)
        case measure => simp [intOf]; omega
      | true =>
        have hM : k < r.M.length := by rw [← HH.out.nm]; exact hlt
        obtain ⟨g2, rfl⟩ := hB (by omega)
        obtain ⟨G, q, hq, ht, hg⟩ := HH.out.ts k r.M[k] (List.getElem?_eq_getElem hM)
        have y1 := own_cell HH.out.o2 (j := k) (u := .pointer (some ⟨q, 0, none⟩)) (by rw [List.getElem?_map, hq]; rfl)
        have hix : r.ix x = some k := by
          unfold Rm.ix
          rw [List.findIdx?_eq_some_iff_getElem]
          exact ⟨hlt, e1, fun j hj => by simpa using HST.out j (by omega) hj⟩
        have htab : r.tab x = r.M[k] := by unfold Rm.tab; rw [hix]; simp [List.getElem?_eq_getElem hM]
        have HR := Lib.hid (And.intro hix (And.intro htab (And.intro hq (And.intro ht hg))))
        clear hix htab hq ht hg
        go_wp2
        go_ret
        refine ⟨G, q, rfl, ?_, Keeps.refl _ _, fun g hg => .inl (HH.out.inF _ _ (HR.out.2.2.2.2 g hg))⟩
        rw [HR.out.2.1]
        exact ⟨L, _, _, A3, _, _, c3, qs, cs, HH.out, HR.out.2.2.2.1, .inl ⟨k, HR.out.1, List.getElem?_eq_getElem hM, HR.out.2.2.1, HR.out.2.2.2.2⟩⟩
    · obtain rfl : k = r.N.length := by omega
      have hix : r.ix x = none := by
        unfold Rm.ix
        rw [List.findIdx?_eq_none_iff]
        intro y hy
        obtain ⟨j, hj, rfl⟩ := List.getElem_of_mem hy
        exact HST.out j hj hj
      have htab : r.tab x = pg0 := by unfold Rm.tab; rw [hix]
      have HR := Lib.hid (And.intro hix htab)
      clear hix htab
      go_wp2
      go_ret
      have ka : Keeps [] w (w.alloc (.cells #[.slice none 0 0] 77)) := (Keeps.refl _ _).alloc _
      refine ⟨[w.heap.size], _, rfl, ?_, ka, fun g hg => .inr (by simp at hg; omega)⟩
      rw [HR.out.2]
      exact ⟨L, _, _, A3, _, _, c3, qs, cs, HH.out.keep ka (by simp), RfRep.fresh w, .inr ⟨HR.out.1, fun g hg h => by rw [List.mem_singleton.1 hg] at h; have := HH.out.fl _ h; omega⟩⟩
end Go.Proofs.YteognipfnbocpaaGreat
