/- The reference's Cache and Spaces. -/
import Derived.Test.YteognipfnbocpaaGreatQ3
namespace Go.Proofs.YteognipfnbocpaaGreat
open Go.RowKit
open T12 (E TbRep RfRep ent ents cells5 mapM mapN wlkM wlkB wlkN unmM clrM clrB lookX)
open T13 (Tl En TlRep es)

/-- The entries of cache i. -/
def cacheC (C : List Tl) (i : Int) : List En := if i < 0 then [] else match C[i.toNat]? with
  | some k => k.L
  | none => []
theorem cacheC_at {C : List Tl} {i : Nat} {k : Tl} (h : C[i]? = some k) : cacheC C i = k.L := by
  unfold cacheC
  rw [if_neg (by omega), Int.toNat_natCast, h]
theorem cacheC_none {C : List Tl} {i : Int} (h : i < 0 ∨ (C.length : Int) ≤ i) : cacheC C i = [] := by
  unfold cacheC
  split
  · rfl
  · rw [List.getElem?_eq_none (by omega)]
theorem cacheL_C (s : Mm) (i : Int) : cacheL s i = cacheC s.C i := rfl
set_option maxRecDepth 100000 in
set_option maxHeartbeats 800000 in
theorem rcache_no (w : World) (F : List Nat) (p : Nat) (r : Rm) (h : RmRep w F p r) (i : Int) (h0 : i < 0 ∨ (r.C.length : Int) ≤ i) :
    Calls Tryz.prog 20 #[.pointer (some ⟨p, 0, none⟩), .int .i64 i] w fun e w' => e = .returned (.slice none 0 0) ∧ w = w' := by
  obtain ⟨L, A1, A2, A3, c1, c2, c3, qs, cs, h⟩ := h
  have k2 := h.bp.cell 2
  clear h
  by_cases h1 : i < 0
  · go_enter Tryz.func20, Tryz.ntmps20
    go_wp2
    go_ret
    exact ⟨rfl, rfl⟩
  · have h2 : (r.C.length : Int) ≤ i := by omega
    clear h0
    go_enter Tryz.func20, Tryz.ntmps20
    go_wp2
    go_ret
    exact ⟨rfl, rfl⟩
set_option maxRecDepth 100000 in
set_option maxHeartbeats 1600000 in
theorem rcache_some (w : World) (F : List Nat) (p : Nat) (r : Rm) (h : RmRep w F p r) (i : Nat) (k : Tl) (hi : r.C[i]? = some k) (hk : k.n ≤ 1000) :
    Calls Tryz.prog 20 #[.pointer (some ⟨p, 0, none⟩), .int .i64 i] w fun e w' => ∃ v, e = .returned v ∧ w'.ownsRow 0 83 4 v k.L.length (es k.L) ∧ Keeps [] w w' ∧ ∀ g ∈ fp v, w.heap.size ≤ g := by
  obtain ⟨L, A1, A2, A3, c1, c2, c3, qs, cs, h⟩ := h
  have hlen : r.C.length ≤ 9223372036854775807 := own_max h.o3
  have hil : i < r.C.length := (List.getElem?_eq_some_iff.1 hi).1
  have ka : Keeps [] w (w.alloc (.cells #[] 83)) := (Keeps.refl _ _).alloc _
  have hown : (w.alloc (.cells #[] 83)).ownsRow 0 83 4 (.slice (some ⟨w.heap.size, 0, none⟩) 0 0) 0 [] := own_of_blk (Blk.new w 83 #[]) (by omega) (by omega) rfl rfl
  obtain ⟨_, _, hv, -, -, hA⟩ := own_shape h.o3
  obtain ⟨rfl, -, rfl⟩ : A3 = _ ∧ r.C.length = _ ∧ c3 = _ := by injection hv with h1 h2 h3; exact ⟨h1, rfl, h3⟩
  clear hv
  obtain ⟨g, rfl⟩ := hA (by omega)
  have h2 := h.keep ka (by simp)
  have x2 := h.bp.cell 2
  have k2 := h2.bp.cell 2
  obtain ⟨G, q, hq, ht, -⟩ := h2.ks i k hi
  have y1 := own_cell h2.o3 (j := i) (u := .pointer (some ⟨q, 0, none⟩)) (by rw [List.getElem?_map, hq]; rfl)
  obtain ⟨A, cap, ht⟩ := ht
  have z1 := ht.b.cell 1
  have hm := ht.m
  have HO := Lib.hid hown
  have HR := Lib.hid (reads_own ht.o)
  have H1 := Lib.hid (T13.es_one k.L)
  have HK := Lib.hid ka
  have HI := Lib.hid info83
  obtain ⟨Lk, hLk⟩ : ∃ Lk, Lk = k.L := ⟨_, rfl⟩
  rw [← hLk] at z1 HR H1 hm ⊢
  have hll : Lk.length ≤ 1000 := by omega
  clear h h2 hown ka hi hq ht hA hLk hm hk
  go_enter Tryz.func20, Tryz.ntmps20
  go_wp2_with (at_builtin; refine wpList_app _ rfl (.tmp 16) (.tmp 26) 49 rfl 83 (.agg #[.int .i64 0, .int .i64 0, .int .i64 0, .bool false]) 4 32 Tryz.underlying49 HI.out rfl (by omega) (.slice (some ⟨w.heap.size, 0, none⟩) 0 0) 0 [] rfl HO.out _ A Lk.length cap (es Lk) rfl HR.out H1.out (by unfold maxLen; omega) (by omega) ?_)
  intro v' w' ho' hk' hf'
  have HF : Hid (w'.ownsRow 0 83 4 v' Lk.length (es Lk) ∧ Keeps [] w w' ∧ ∀ g ∈ fp v', w.heap.size ≤ g) := Lib.hid ⟨by simpa using ho', HK.out.trans hk' (fun g hg => .inr (by simp at hg; omega)), fun g hg => (hf' g hg).elim (fun h => by have h1 : g = w.heap.size := (by simpa using h); omega) (fun h => by have h1 : w.heap.size + 1 ≤ g := (by simpa using h); omega)⟩
  clear ho' hk' hf' HK HO HR
  go_wp2_with fail
  go_ret
  exact ⟨_, rfl, HF.out.1, HF.out.2.1, HF.out.2.2⟩
theorem rcache_any (w : World) (F : List Nat) (p : Nat) (r : Rm) (h : RmRep w F p r) (i : Int) (hk : ∀ k ∈ r.C, k.n ≤ 1000) :
    Calls Tryz.prog 20 #[.pointer (some ⟨p, 0, none⟩), .int .i64 i] w fun e w' => ∃ v, e = .returned v ∧ w'.ownsRow 0 83 4 v (cacheC r.C i).length (es (cacheC r.C i)) ∧ Keeps [] w w' ∧ ∀ g ∈ fp v, w.heap.size ≤ g := by
  by_cases h0 : i < 0 ∨ (r.C.length : Int) ≤ i
  · rw [cacheC_none h0]
    refine (rcache_no w F p r h i h0).mono ?_
    rintro e w1 ⟨rfl, rfl⟩
    exact ⟨_, rfl, World.ownsRow_nil _ _ _ _, Keeps.refl _ _, by simp⟩
  · obtain ⟨j, rfl⟩ : ∃ j : Nat, i = j := ⟨i.toNat, by omega⟩
    have hj : j < r.C.length := by omega
    rw [cacheC_at (List.getElem?_eq_getElem hj)]
    exact rcache_some w F p r h j _ (List.getElem?_eq_getElem hj) (hk _ (List.getElem_mem hj))
end Go.Proofs.YteognipfnbocpaaGreat
