/- The walks of the copy: maps.Clone, slices.Clone, Copy. -/
import Derived.Test.YtcikdffahnnbhaaD1
import Derived.Laws.Externs
import Derived.MapKept
namespace Go.Proofs.Ytcikdffahnnbhaa
open Go.RowKit

/-- A map, or a slice, against nil. -/
theorem run_equalIn_map (d : Nat) (w : World) (b : Nat) : (Op.equalIn (d + 1) 43 (.map (some b)) (.map none)).run Try.prog w = .ok false w := by
  simp [Op.equalIn, run_underlying Try.underlying43]
theorem run_eql_map_nil (w : World) (b : Nat) : (binOp .eql 43 (.map (some b)) (.map none)).run Try.prog w = .ok (.bool false) w := by
  simp only [binOp]
  simp [show Op.equal 43 (.map (some b)) (.map none) = Op.equalIn (9999 + 1) 43 (.map (some b)) (.map none) from rfl, run_equalIn_map]
theorem run_equalIn_slice (d : Nat) (w : World) (a : Addr) (n c : Nat) : (Op.equalIn (d + 1) 42 (.slice (some a) n c) (.slice none 0 0)).run Try.prog w = .ok false w := by
  simp [Op.equalIn, run_underlying Try.underlying42]
theorem run_eql_slice_nil (w : World) (a : Addr) (n c : Nat) : (binOp .eql 42 (.slice (some a) n c) (.slice none 0 0)).run Try.prog w = .ok (.bool false) w := by
  simp only [binOp]
  simp [show Op.equal 42 (.slice (some a) n c) (.slice none 0 0) = Op.equalIn (9999 + 1) 42 (.slice (some a) n c) (.slice none 0 0) from rfl, run_equalIn_slice]
theorem run_assert_map (w : World) (v : Value) : (Instr.typeAssert (.iface 43 v) 20 43 false).run Try.prog w = .ok v w := by
  simp [Instr.typeAssert, run_underlying Try.underlying43, go_sem, Result.andThen]
theorem run_clone_map (w : World) {b : Nat} {es : Array MapEntry} {clock : Nat} (hb : w.heap[b]? = some (.map es clock)) :
    (Extern.MapsClone.clone #[.iface 43 (.map (some b))]).run Try.prog w = .ok (.iface 43 (.map (some w.heap.size))) (w.alloc (.map es clock)) := by
  have e : Extern.MapsClone.clone #[.iface 43 (.map (some b))] = (getObj b >>= fun o => match o with
      | .map entries clock => (newObj (.map entries clock) >>= fun n => pure (.iface 43 (.map (some n))))
      | _ => stuck "maps.clone: a map expected") := rfl
  rw [e]
  simp [MapKept.run_getObj_map hb, Result.andThen, go_sem]

set_option maxHeartbeats 2000000 in
theorem cloneM_any (w : World) (b n : Nat) (f : Int → Int) (h : MapAt w b n f) :
    Calls Try.prog 23 #[.map (some b)] w fun e w' => e = .returned (.map (some w.heap.size)) ∧ MapAt w' w.heap.size n f ∧ Keeps [] w w' ∧ w'.heap.size = w.heap.size + 1 := by
  obtain ⟨D, ⟨es, clock, hb, F, hs, hD⟩, e⟩ := h
  have hq := fun w => run_eql_map_nil w b
  have fin : MapAt (w.alloc (.map es clock)) w.heap.size n f := ⟨D, ⟨es, clock, (MapKept.heap_alloc w _).1, F, hs, hD⟩, e⟩
  have kf : Keeps [] w (w.alloc (.map es clock)) := (Keeps.refl _ _).alloc _
  go_enter Try.func23, Try.ntmps23
  go_wp2
  rw [run_callFunc_extern Try.func25 (by kernel_rfl) (by kernel_rfl) (by kernel_rfl) (e := Extern.MapsClone.clone) (by kernel_rfl), run_clone_map w hb]
  simp only [Result.andThen]
  rw [Oper.upon_value]
  go_wp2
  rw [run_assert_map]
  simp only [Result.andThen]
  rw [Oper.upon_value]
  go_wp2
  go_ret
  exact ⟨rfl, fin, kf, by simp⟩

theorem cells4_one (L : List Fr) : ∀ u ∈ cells4 L, u.oneCell' = true := by
  intro u hu
  unfold cells4 at hu
  obtain ⟨x, _, hx⟩ := List.mem_flatMap.1 hu
  unfold c4 at hx
  simp only [List.mem_cons, List.not_mem_nil, or_false] at hx
  rcases hx with rfl | rfl | rfl | rfl <;> rfl
set_option maxHeartbeats 2000000 in
theorem cloneS_any (w : World) (L : List Fr) (g cap : Nat) (hl : L.length ≤ 40) (h : w.ownsRow 0 48 4 (.slice (some ⟨g, 0, none⟩) L.length cap) L.length (cells4 L)) :
    Calls Try.prog 22 #[.slice (some ⟨g, 0, none⟩) L.length cap] w fun e w' => ∃ v, e = .returned v ∧ w'.ownsRow 0 48 4 v L.length (cells4 L) ∧ Keeps [] w w' ∧ ∀ x ∈ fp v, w.heap.size ≤ x := by
  have hq := fun w => run_eql_slice_nil w ⟨g, 0, none⟩ L.length cap
  go_enter Try.func22, Try.ntmps22
  go_wp2_with (at_builtin; refine wpList_app _ rfl (.tmp 5) (.tmp 6) _ rfl 48 (.agg #[.bool false, .bool false, .bool false, .int .i64 0]) 4 16 Try.underlying42 info48 rfl (by omega) (.slice (some ⟨w.heap.size, 0, none⟩) 0 0) 0 [] rfl (own_of_blk (Blk.new w 48 #[]) (by omega) (by omega) rfl rfl) _ _ _ _ (cells4 L) rfl (reads_own (own_keep h ((Keeps.refl [] _).alloc _) (by simp))) (cells4_one L) (by unfold maxLen; omega) (by omega) ?_)
  intro v' w' ho' hk' hf'
  go_wp2
  go_ret
  have hk1 : Keeps [] w (w.alloc (.cells #[] 48)) := (Keeps.refl _ _).alloc _
  refine ⟨v', rfl, by simpa using ho', hk1.trans hk' (by simp), fun g hg => ?_⟩
  rcases hf' g hg with h2 | h2
  · have : g = w.heap.size := by simpa using h2
    omega
  · have h3 := hk1.size; omega

set_option maxHeartbeats 2000000 in
theorem copy_any (w : World) (F : List Nat) (p : Nat) (s : Ck) (h : CkRep w F p s) :
    Calls Try.prog 18 #[.pointer (some ⟨p, 0, none⟩)] w fun e w' => ∃ F' p', e = .returned (.pointer (some ⟨p', 0, none⟩)) ∧ CkRep w' F' p' s ∧ Keeps [] w w' ∧ ∀ x ∈ F', w.heap.size ≤ x := by
  obtain ⟨g, cap, bu, bn, bb, h⟩ := h
  have hl := h.l1
  have c0 := h.e0
  have c1 := h.e1
  have c2 := h.e2
  have c3 := h.e3
  have c4 := h.e4
  have kd : Keeps [] w w.drew := (Keeps.refl [] w).drew
  have HC : Hid (∀ W, Keeps [] w W → W.cell? ⟨p, 0, none⟩ = some (.slice (some ⟨g, 0, none⟩) s.L.length cap) ∧ W.cell? ⟨p, 1, none⟩ = some (.int .i64 s.h) ∧ W.cell? ⟨p, 2, none⟩ = some (.map (some bu)) ∧ W.cell? ⟨p, 3, none⟩ = some (.map (some bn)) ∧ W.cell? ⟨p, 4, none⟩ = some (.map (some bb))) :=
    Lib.hid (fun W hk => by have := h.keep hk (by simp); exact ⟨this.e0, this.e1, this.e2, this.e3, this.e4⟩)
  have HG : Hid (∀ W, Keeps [] w W → W.ownsRow 0 48 4 (.slice (some ⟨g, 0, none⟩) s.L.length cap) s.L.length (cells4 s.L) ∧ MapAt W bu s.N s.us ∧ MapAt W bn s.N s.nw ∧ MapAt W bb s.N s.bf) :=
    Lib.hid (fun W hk => by have := h.keep hk (by simp); exact ⟨this.o, this.mu, this.mn, this.mb⟩)
  have HF := Lib.hid (And.intro h.l0 (And.intro h.hh (And.intro h.ru (And.intro h.rn (And.intro h.rb h.ro)))))
  clear h
  go_enter Try.func18, Try.ntmps18
  go_wp2_with fail
  go_region_held3 (fun w' => Keeps [] w w' ∧ w'.cell? ⟨p, 0, none⟩ = some (.slice (some ⟨g, 0, none⟩) s.L.length cap) ∧ w'.cell? ⟨p, 1, none⟩ = some (.int .i64 s.h) ∧ w'.cell? ⟨p, 2, none⟩ = some (.map (some bu)) ∧ w'.cell? ⟨p, 3, none⟩ = some (.map (some bn)) ∧ w'.cell? ⟨p, 4, none⟩ = some (.map (some bb)))
    (first
      | exact ⟨kd, c0, c1, c2, c3, c4⟩
      | exact ⟨K1, HC.out _ K1⟩
      | exact ⟨K2, HC.out _ K2⟩
      | exact ⟨K3, HC.out _ K3⟩
      | exact ⟨K4, HC.out _ K4⟩
      | exact ⟨K4.alloc _, HC.out _ (K4.alloc _)⟩)
    ((first
      | (go_at_call 22; refine (cloneS_any _ s.L g cap hl (HG.out _ kd).1).mono ?_; rintro e w1 ⟨v, rfl, oS, kS, fS⟩; obtain ⟨A1, cap1, rfl, -, -, -⟩ := own_shape oS; have K1 := kd.trans kS (by simp))
      | (go_at_call 23; refine (cloneM_any w1 bu s.N s.us (HG.out _ K1).2.1).mono ?_; rintro e w2 ⟨rfl, mU, kU, zU⟩; have K2 := K1.trans kU (by simp))
      | (go_at_call 23; refine (cloneM_any w2 bn s.N s.nw (HG.out _ K2).2.2.1).mono ?_; rintro e w3 ⟨rfl, mN, kN, zN⟩; have K3 := K2.trans kN (by simp))
      | (go_at_call 23; refine (cloneM_any w3 bb s.N s.bf (HG.out _ K3).2.2.2).mono ?_; rintro e w4 ⟨rfl, mB, kB, zB⟩; have K4 := K3.trans kB (by simp))))
  go_wp2
  go_ret
  have a1 := mU.lt
  have a2 := mN.lt
  have a3 := mB.lt
  have oS4 := ((own_keep oS kU (by simp)) |> fun o => own_keep o kN (by simp)) |> fun o => own_keep o kB (by simp)
  have mU4 := ((mU.keep kN (by simp)).keep kB (by simp)).alloc (.cells #[.slice A1 s.L.length cap1, .int .i64 s.h, .map (some w1.heap.size), .map (some (w1.heap.size + 1)), .map (some (w1.heap.size + 1 + 1))] 45)
  have mN4 := (mN.keep kB (by simp)).alloc (.cells #[.slice A1 s.L.length cap1, .int .i64 s.h, .map (some w1.heap.size), .map (some (w1.heap.size + 1)), .map (some (w1.heap.size + 1 + 1))] 45)
  have mB4 := mB.alloc (.cells #[.slice A1 s.L.length cap1, .int .i64 s.h, .map (some w1.heap.size), .map (some (w1.heap.size + 1)), .map (some (w1.heap.size + 1 + 1))] 45)
  have oS5 := own_keep oS4 ((Keeps.refl [] w4).alloc (.cells #[.slice A1 s.L.length cap1, .int .i64 s.h, .map (some w1.heap.size), .map (some (w1.heap.size + 1)), .map (some (w1.heap.size + 1 + 1))] 45)) (by simp)
  have z1 := K1.size
  obtain ⟨l0, hh, ru, rn, rb, ro⟩ := HF.out
  obtain ⟨A2, cap2, e2, -, -, hA⟩ := own_shape oS5
  injection e2 with e2 _ e3
  subst e2 e3
  obtain ⟨g1, rfl⟩ := hA l0
  have f1 := fS g1 (by simp)
  have zz : w4.heap.size = w1.heap.size + 1 + 1 + 1 := by rw [zB, zN, zU]
  refine ⟨[w1.heap.size + 1 + 1 + 1, g1, w1.heap.size, w1.heap.size + 1, w1.heap.size + 1 + 1], w1.heap.size + 1 + 1 + 1, rfl, ⟨g1, cap1, w1.heap.size, w1.heap.size + 1, w1.heap.size + 1 + 1, (by intro x; simp), (by rw [← zz]; exact Blk.new _ _ _), oS5, l0, hl, hh, mU4, by rw [zU] at mN4; exact mN4, by rw [zN, zU] at mB4; exact mB4, by omega, by omega, by omega, ru, rn, rb, ro⟩, K4.alloc _, ?_⟩
  intro x hx
  have z4 := K4.size
  have zd : w.drew.heap.size = w.heap.size := rfl
  simp at hx
  omega
end Go.Proofs.Ytcikdffahnnbhaa
