/- The reference's Look, Entries, Cache, Spaces. -/
import Derived.Test.YteognipfnbocpaaGreatQ2
namespace Go.Proofs.YteognipfnbocpaaGreat
open Go.RowKit
open T12 (E TbRep RfRep ent ents cells5 mapM mapN wlkM wlkB wlkN unmM clrM clrB lookX)
open T13 (Tl En TlRep es)

theorem info42 : (Tryz.prog.info? 42).map (fun i => (i.zero, i.size, i.bytes)) = some (some (.agg #[.int .i64 0, .int .i64 0, .bool false, .bool false, .bool false]), 5, 24) := by kernel_rfl
theorem info83 : (Tryz.prog.info? 83).map (fun i => (i.zero, i.size, i.bytes)) = some (some (.agg #[.int .i64 0, .int .i64 0, .int .i64 0, .bool false]), 4, 32) := by kernel_rfl
theorem rmlook_any (w : World) (F : List Nat) (p : Nat) (r : Rm) (h : RmRep w F p r) (x pg : Int) :
    Calls Tryz.prog 14 #[.pointer (some ⟨p, 0, none⟩), .int .i64 x, .int .i64 pg] w fun e w' => e = .returned (.tuple #[pteV (lookX (r.tab x) pg), .bool (ent (r.tab x) pg).isSome]) ∧ Keeps [] w w' := by
  have k0 : Keeps [] w (w.alloc (.cells #[.int .i64 0, .int .i64 0, .bool false, .bool false, .bool false] 42)) := (Keeps.refl _ _).alloc _
  have HT := Lib.hid (rtable_any _ F p r (h.keep k0 (by simp)) x)
  have HB := Lib.hid (Blk.new w 42 #[.int .i64 0, .int .i64 0, .bool false, .bool false, .bool false])
  have HK0 := Lib.hid k0
  clear h k0
  unfold pteV
  generalize hLX : lookX (r.tab x) pg = lx
  generalize hE : (ent (r.tab x) pg).isSome = ex
  have HLX := Lib.hid hLX
  have HE := Lib.hid hE
  clear hLX hE
  go_enter Tryz.func14, Tryz.ntmps14
  go_wp2_with fail
  refine HT.out.mono ?_
  rintro e w1 ⟨G, q, rfl, f1, k1, -⟩
  have HL0 := T12.rlook_any w1 G q _ pg f1.rf
  rw [HLX.out, HE.out] at HL0
  have HL := Lib.hid HL0
  have HB1 := Lib.hid (HB.out.keep k1 (by simp))
  have HK1 := Lib.hid (HK0.out.trans k1 (by simp))
  clear f1 k1 HT HB HK0 HL0
  go_wp2_with fail
  refine HL.out.mono ?_
  rintro e w2 ⟨rfl, -, k2⟩
  have b2 := HB1.out.keep k2 (by simp)
  have KF := Lib.hid (HK1.out.trans k2 (by simp))
  clear k2 HB1 HK1 HL
  go_wp2_with (refine T12.wpList_store_blk rfl 42 _ _ rfl rfl w.heap.size rfl 42 _ #[.int .i64 lx.1, .int .i64 lx.2.fr, .bool lx.2.wr, .bool lx.2.ac, .bool lx.2.di] b2 rfl rfl (by simp [Value.oneCell']) (by kernel_rfl) ?_; intro w3 b3 k3)
  have r0 := b3.cell 0
  have r1 := b3.cell 1
  have r2 := b3.cell 2
  have r3 := b3.cell 3
  have r4 := b3.cell 4
  go_wp2
  refine bodyPost_ret (v := .tuple #[.agg #[.int .i64 lx.1, .int .i64 lx.2.fr, .bool lx.2.wr, .bool lx.2.ac, .bool lx.2.di], .bool ex]) (by simp [results, Tryz.results14, go_sem, r0, r1, r2, r3, r4]) rfl ?_
  exact ⟨rfl, KF.out.trans k3 (fun g hg => .inr (by simp at hg; omega))⟩
set_option maxRecDepth 100000 in
theorem rentries_any (w : World) (F : List Nat) (p : Nat) (r : Rm) (h : RmRep w F p r) (x : Int) :
    Calls Tryz.prog 17 #[.pointer (some ⟨p, 0, none⟩), .int .i64 x] w fun e w' => ∃ v, e = .returned v ∧ w'.ownsRow 0 42 5 v (ents (r.tab x) 256).length (cells5 (ents (r.tab x) 256)) ∧ Keeps [] w w' ∧ ∀ g ∈ fp v, w.heap.size ≤ g := by
  have k0 : Keeps [] w (w.alloc (.cells #[] 42)) := (Keeps.refl _ _).alloc _
  have HT := Lib.hid (rtable_any _ F p r (h.keep k0 (by simp)) x)
  have hown : (w.alloc (.cells #[] 42)).ownsRow 0 42 5 (.slice (some ⟨w.heap.size, 0, none⟩) 0 0) 0 [] := own_of_blk (Blk.new w 42 #[]) (by omega) (by omega) rfl rfl
  have HO := Lib.hid hown
  have HK0 := Lib.hid k0
  have HI := Lib.hid info42
  have hle := ents_bd (r.tab x)
  obtain ⟨E0, hE0⟩ : ∃ E0, ents (r.tab x) 256 = E0 := ⟨_, rfl⟩
  have HEE : Unit → ents (r.tab x) 256 = E0 := fun _ => hE0
  rw [hE0] at hle ⊢
  clear h k0 hown hE0
  go_enter Tryz.func17, Tryz.ntmps17
  go_wp2_with fail
  refine HT.out.mono ?_
  rintro e w1 ⟨G, q, rfl, f1, k1, -⟩
  obtain ⟨A, cap, g1⟩ := f1.rf
  have b1 := g1.b
  have o1 := g1.o
  rw [HEE ()] at b1 o1
  have c0 := b1.cell 0
  have HR := Lib.hid (reads_own o1)
  have HO1 := Lib.hid (own_keep HO.out k1 (by simp))
  have HK1 := Lib.hid (HK0.out.trans k1 (by simp))
  have H1 := Lib.hid (T12.cells5_one E0)
  clear f1 k1 g1 b1 o1 HEE HT HO
  go_wp2_with (at_builtin; refine wpList_app _ rfl (.tmp 5) (.tmp 11) 46 rfl 42 (.agg #[.int .i64 0, .int .i64 0, .bool false, .bool false, .bool false]) 5 24 Tryz.underlying46 HI.out rfl (by omega) (.slice (some ⟨w.heap.size, 0, none⟩) 0 0) 0 [] rfl HO1.out _ A E0.length cap (cells5 E0) rfl HR.out H1.out (by unfold maxLen; omega) (by omega) ?_)
  intro v' w' ho' hk' hf'
  have hz := HK1.out.size
  have HF : Hid (w'.ownsRow 0 42 5 v' E0.length (cells5 E0) ∧ Keeps [] w w' ∧ ∀ g ∈ fp v', w.heap.size ≤ g) := Lib.hid ⟨by simpa using ho', HK1.out.trans hk' (fun g hg => .inr (by simp at hg; omega)), fun g hg => (hf' g hg).elim (fun h => by have h1 : g = w.heap.size := (by simpa using h); omega) (fun h => by omega)⟩
  clear ho' hk' hf' HK1 HO1 HR
  go_wp2_with fail
  go_ret
  exact ⟨_, rfl, HF.out.1, HF.out.2.1, HF.out.2.2⟩
end Go.Proofs.YteognipfnbocpaaGreat
