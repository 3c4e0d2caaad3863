/- The reference: Form, the walk. -/
import Derived.Test.YtcoecpglnabbpaaE4
import Derived.Lib.ConvBytes
import Derived.IntWalk
namespace Go.Proofs.Ytcoecpglnabbpaa
open Go.RowKit

theorem ps1_good {l : Bs} {n : Nat} (h : l.length ≤ n) : ∀ p ∈ ps1 l, 1 ≤ p.length ∧ p.length ≤ n := by
  intro p hp
  obtain ⟨x, hx, rfl⟩ := List.mem_map.1 hp
  exact pieces_good n l h x hx
theorem ps1_len {l : Bs} {n : Nat} (h : l.length ≤ n) : (ps1 l).length ≤ n := by unfold ps1; rw [List.length_map]; exact pieces_len n l h
theorem renc_len (p : Bs) : (renc p).length ≤ p.length + 2 := enc_len _
theorem renc_flat : ∀ (L : List Bs) (n : Nat), (∀ p ∈ L, p.length ≤ n) → (L.flatMap renc).length ≤ L.length * (n + 2) := by
  intro L n h
  induction L with
  | nil => simp
  | cons p r ih =>
    have h1 := renc_len p
    have h2 := h p (by simp)
    have h3 := ih (fun q hq => h q (by simp [hq]))
    simp only [List.flatMap_cons, List.length_append, List.length_cons, Nat.add_mul]
    omega

theorem keeps_bytesWorld (w : World) (t : ByteArray) : Keeps [] w (Lib.bytesWorld w 5 t) :=
  ⟨by simp [Lib.bytesWorld, World.freeze, World.alloc, World.drew, -World.alloc_eq, -World.drew_eq], by simp [Lib.bytesWorld, World.freeze, World.alloc, World.drew, -World.alloc_eq, -World.drew_eq], by simp [Lib.bytesWorld, World.freeze, World.alloc, World.drew, -World.alloc_eq, -World.drew_eq], by rw [Lib.bytesWorld_size]; omega, fun k hk _ => Lib.bytesWorld_at_old w 5 t k hk⟩
theorem reads_bytesWorld (w : World) (t : ByteArray) : Reads (Lib.bytesWorld w 5 t) (w.heap.size + 1) 1 (some ⟨w.heap.size, 0, none⟩) t.size (bc (bys t)) := by
  refine ⟨by rw [bc_len]; simp, fun _ => ⟨_, rfl, Nat.lt_succ_self _, fun j u hu => ?_⟩⟩
  have hj : j < t.size := by
    have := (List.getElem?_eq_some_iff.1 hu).1
    rw [bc_len] at this
    simpa using this
  rw [add_of_plain, Nat.zero_add, Lib.bytesWorld_cell w 5 t j hj]
  rw [← hu]
  simp [bc, Lib.byteCells, hj]

set_option maxHeartbeats 6400000 in
set_option maxRecDepth 100000 in
theorem rform_any (s : ByteArray) (w : World) (hs : s.size ≤ 64) : Calls Try.prog 18 #[.string s] w fun e w' => e = .returned (.string (st (form (bys s)))) ∧ Keeps [] w w' := by
  have HI := Lib.hid info5
  have hF := form_renc (bys s).length (bys s) (Nat.le_refl _)
  have hg := ps1_good (l := bys s) (n := 64) (by simp; omega)
  have hn := ps1_len (l := bys s) (n := 64) (by simp; omega)
  have HF := Lib.hid hF
  have HG := Lib.hid hg
  clear hF hg
  go_enter Try.func18, Try.ntmps18
  go_wp2_with fail
  refine (rpieces_any s w (by omega)).mono ?_
  rintro e w1 ⟨v, rfl, o1, k1, f1⟩
  generalize ps1 (bys s) = L at *
  obtain ⟨A, c, rfl, -, -, hA⟩ := own_shape o1
  go_wp2
  go_loopw [4, 5] (fun v i wr => ∃ k : Nat, k ≤ L.length ∧ i = .int .i64 k ∧ wr.ownsRow 0 5 1 v ((L.take k).flatMap renc).length (bc ((L.take k).flatMap renc)) ∧ (∀ g ∈ fp v, w1.heap.size ≤ g) ∧ Keeps [] w1 wr) (fun _ i _ => L.length - (intOf i).toNat)
  case atStart => exact ⟨0, by omega, rfl, World.ownsRow_nil _ _ _ _, by simp, Keeps.refl _ _⟩
  case round =>
    obtain ⟨k, hk, rfl, ov, fv, kp⟩ := hrel
    obtain ⟨Av, cv, rfl, -, -, -⟩ := own_shape ov
    by_cases hlt : k < L.length
    · have hM : (L.take (k + 1)).flatMap renc = (L.take k).flatMap renc ++ renc L[k] := by rw [List.take_succ_eq_append_getElem hlt, List.flatMap_append]; simp
      have hMl : ((L.take k).flatMap renc).length ≤ k * 202 := by
        have := renc_flat (L.take k) 200 (fun p hp => by have := (HG.out p (List.mem_of_mem_take hp)).2; omega)
        have h2 : (L.take k).length ≤ k := List.length_take_le _ _
        have h3 := Nat.mul_le_mul_right 202 h2
        omega
      have hMl2 : ((L.take k).flatMap renc).length ≤ 40400 := by
        have := Nat.mul_le_mul_right 202 (show k ≤ 200 by omega)
        omega
      have HM := Lib.hid hM
      clear hM hMl
      generalize (L.take k).flatMap renc = M at *
      obtain ⟨g, rfl⟩ := hA (by omega)
      have x0 := own_cell (own_keep o1 kp (by simp)) (j := k) (u := .string (st L[k])) (by simp [sc, List.getElem?_eq_getElem hlt])
      have HX : Hid ((sc L)[k]? = some (.string (st L[k]))) := Lib.hid (by simp [sc, List.getElem?_eq_getElem hlt])
      have hgk := HG.out _ (List.getElem_mem hlt)
      have hsz : (st L[k]).size = L[k].length := st_size _
      have hs1 : 0 < (st L[k]).size := by omega
      have hs2 : (st L[k]).size ≤ 64 := by omega
      have hB := begins_any (st L[k]) 0 wr (by omega) hs1
      have hB2 : Calls Try.prog 23 #[.string (st L[k]), .int .i64 0] wr fun e w' => e = .returned (.bool (beg (st L[k]) 0)) ∧ ∃ n, w' = wr.drewN n := hB
      have HB := Lib.hid hB2
      clear hB hB2 hsz
      generalize hp : L[k] = p at *
      clear hp
      cases hb : beg (st p) 0 with
      | false =>
        rw [hb] at HB
        have kd := fun d => kp.drewN d
        go_wp2_with fail
        refine HB.out.mono ?_
        rintro e w2 ⟨rfl, d, rfl⟩
        have kq := kp.drewN d
        have ov2 := own_keep ov ((Keeps.refl [] wr).drewN d) (by simp)
        have HO := Lib.hid ov2
        clear HB kd ov2 kp
        generalize wr.drewN d = W at *
        have x1 : W.cell? ⟨g, k, none⟩ = some (.string (st p)) := own_cell (own_keep o1 kq (by simp)) (j := k) (u := .string (st p)) HX.out
        go_wp2_with (at_builtin; refine wpList_app _ rfl (.tmp 34) (.tmp 41) _ rfl 5 (.int .u8 0) 1 1 Try.underlying27 HI.out rfl (by omega) (.slice Av M.length cv) _ _ rfl (own_keep HO.out ((Keeps.refl [] _).alloc _) (by simp)) _ _ _ _ [.int .u8 (st p).size] rfl (reads_one _ _ 5) (by simp [Value.oneCell']) (by unfold maxLen; omega) (by omega) ?_)
        intro v6 w6 o6 k6 f6
        have K6 := (kq.alloc (.cells #[.int .u8 (st p).size] 5)).trans k6 (fun g hg => .inr (fv g hg))
        have F6 : ∀ g ∈ fp v6, w1.heap.size ≤ g := fun g hg => (f6 g hg).elim (fv g) (fun h => by have := kq.size; omega)
        obtain ⟨A6, c6, rfl, -, -, -⟩ := own_shape o6
        have x2 : w6.cell? ⟨g, k, none⟩ = some (.string (st p)) := own_cell (own_keep o1 K6 (by simp)) (j := k) (u := .string (st p)) HX.out
        have hcv := Lib.run_convert_string_bytes (P := Try.prog) w6 9 27 5 (st p) Try.underlying9 Try.underlying27 Try.underlying5
        have HO6 := Lib.hid (own_keep o6 (keeps_bytesWorld w6 (st p)) (by simp))
        have HRD := Lib.hid (reads_bytesWorld w6 (st p))
        have K7 := K6.trans (keeps_bytesWorld w6 (st p)) (by simp)
        have HP1 := Lib.hid (bc_one (bys (st p)))
        clear o6 k6 f6 HO x1 kq ov
        generalize Lib.bytesWorld w6 5 (st p) = w7 at *
        generalize grownCap w6 (st p).size 0 5 = gc at *
        go_wp2_with (at_builtin; refine wpList_app _ rfl (.tmp 43) (.tmp 48) _ rfl 5 (.int .u8 0) 1 1 Try.underlying27 HI.out rfl (by omega) (.slice A6 (M.length + 1) c6) _ _ rfl HO6.out _ _ _ _ _ rfl HRD.out HP1.out (by unfold maxLen; omega) (by omega) ?_)
        intro v8 w8 o8 k8 f8
        have hn8 : (UInt8.ofNat p.length).toNat = p.length := toNat_ofNat (by omega)
        have hren : renc p = UInt8.ofNat p.length :: p := by
          have hq : decide (3 ≤ eqN p) = false := hb
          unfold renc
          rw [hq]
          rfl
        have hbc : bc (M ++ renc p) = bc M ++ Value.int .u8 (st p).size :: bc (bys (st p)) := by
          rw [hren, st_size]
          unfold bc
          rw [Lib.byteCells_append]
          show _ ++ (Value.int .u8 ((UInt8.ofNat p.length).toNat : Int) :: Lib.byteCells p) = _
          rw [hn8]
          rfl
        have hlen8 : (M ++ renc p).length = M.length + 1 + (st p).size := by rw [hren, st_size]; simp; omega
        have hfin : w8.ownsRow 0 5 1 v8 ((L.take (k + 1)).flatMap renc).length (bc ((L.take (k + 1)).flatMap renc)) := by
          rw [HM.out, hbc, hlen8]
          simpa using o8
        have hf8 : ∀ g ∈ fp v8, w1.heap.size ≤ g := fun g hg => (f8 g hg).elim (F6 g) (fun h => by have := K7.size; omega)
        have K8 := K7.trans k8 (fun g hg => .inr (F6 g hg))
        have HFI := Lib.hid hfin
        have HF8 := Lib.hid hf8
        clear hfin hf8 hbc hren hn8 hlen8 o8 k8 f8 hcv HO6 HRD HP1
        go_wp2_with fail
        go_roundw
        case rel => exact ⟨k + 1, by omega, by go_num, HFI.out, HF8.out, K8⟩
        case measure => simp [intOf]; omega
      | true =>
        rw [hb] at HB
        go_wp2_with fail
        refine HB.out.mono ?_
        rintro e w2 ⟨rfl, d, rfl⟩
        have kq := kp.drewN d
        have ov2 := own_keep ov ((Keeps.refl [] wr).drewN d) (by simp)
        clear HB kp ov
        generalize wr.drewN d = W at *
        have x1 : W.cell? ⟨g, k, none⟩ = some (.string (st p)) := own_cell (own_keep o1 kq (by simp)) (j := k) (u := .string (st p)) HX.out
        have x2 : W.drew.cell? ⟨g, k, none⟩ = some (.string (st p)) := x1
        have ja : (0 : Int) < (st p).size := by omega
        have jb : (128 : Int) + (st p).size ≤ 192 := by omega
        have jw : IntKind.i64.wrap (128 + ((st p).size : Int)) = 128 + ((st p).size : Int) := IntWalk.i64_in _ (by omega)
        have ju : IntKind.u8.wrap (128 + ((st p).size : Int)) = 128 + ((st p).size : Int) := IntWalk.u8_in _ (by omega)
        have HO := Lib.hid (own_keep ov2 (((Keeps.refl [] W).alloc (.cells #[.int .u8 (128 + (st p).size), .int .u8 (st p)[0].toNat] 5)).drew) (by simp))
        have HRD : Hid (Reads (W.alloc (.cells #[.int .u8 (128 + (st p).size), .int .u8 (st p)[0].toNat] 5)).drew (W.heap.size + 1) 1 (some ⟨W.heap.size, 0, none⟩) 2 [.int .u8 (128 + (st p).size), .int .u8 (st p)[0].toNat]) := Lib.hid ((reads_cells W #[.int .u8 (128 + (st p).size), .int .u8 (st p)[0].toNat] 2 1 5 rfl).drew)
        clear ov2
        go_wp2_with fail
        go_region_law (refine step_app (by rfl) (.tmp 19) (.tmp 32) 27 (by rfl) 5 (.int .u8 0) 1 1 Try.underlying27 HI.out rfl (by omega) (.slice Av M.length cv) M.length (bc M) ?_ HO.out _ (some ⟨W.heap.size, 0, none⟩) 2 2 [.int .u8 (128 + (st p).size), .int .u8 (st p)[0].toNat] ?_ HRD.out (by simp [Value.oneCell']) (by unfold maxLen; omega) (by omega) (fun v8 w8 o8 k8 f8 => ?_); (focus (first | (simp [Act.eval]; done) | (simp [Act.eval, Act.put]; done))); (focus (first | (simp [Act.eval]; done) | (simp [Act.eval, Act.put]; done))))
        all_goals
          have hn8 : (UInt8.ofNat (128 + p.length)).toNat = 128 + p.length := toNat_ofNat (by omega)
          have hren : renc p = [UInt8.ofNat (128 + p.length), p.headD 0] := by
            have hq : decide (3 ≤ eqN p) = true := hb
            unfold renc
            rw [hq]
            rfl
          have hhd : (st p)[0] = p.headD 0 := by
            cases p with
            | nil => simp at hgk
            | cons a r => rfl
          have hbc : bc (M ++ renc p) = bc M ++ [Value.int .u8 (128 + (st p).size), .int .u8 (st p)[0].toNat] := by
            rw [hren, st_size, hhd]
            unfold bc
            rw [Lib.byteCells_append]
            show _ ++ (Value.int .u8 ((UInt8.ofNat (128 + p.length)).toNat : Int) :: _) = _
            rw [hn8]
            rfl
          have hlen8 : (M ++ renc p).length = M.length + 2 := by rw [hren]; simp
          have hfin : w8.ownsRow 0 5 1 v8 ((L.take (k + 1)).flatMap renc).length (bc ((L.take (k + 1)).flatMap renc)) := by
            rw [HM.out, hbc, hlen8]
            exact o8
          have K7 := (kq.alloc (.cells #[.int .u8 (128 + (st p).size), .int .u8 (st p)[0].toNat] 5)).drew
          have hf8 : ∀ g ∈ fp v8, w1.heap.size ≤ g := fun g hg => (f8 g hg).elim (fv g) (fun h => by have := K7.size; omega)
          have K8 := K7.trans k8 (fun g hg => .inr (fv g hg))
          have HFI := Lib.hid hfin
          have HF8 := Lib.hid hf8
          clear hfin hf8 hbc hren hn8 hlen8 o8 k8 f8 HO HRD hhd jw ju
          go_wp2_with fail
          go_roundw
          case rel => exact ⟨k + 1, by omega, by go_num, HFI.out, HF8.out, K8⟩
          case measure => simp [intOf]; omega
    · obtain rfl : k = L.length := by omega
      have HF2 : Hid (form (bys s) = (L.take L.length).flatMap renc) := Lib.hid (by rw [List.take_length]; exact HF.out)
      generalize (L.take L.length).flatMap renc = M at *
      have hc := run_str ov
      go_wp2
      go_ret
      show _ = Ending.returned (.string (st (form (bys s)))) ∧ _
      rw [HF2.out]
      exact ⟨rfl, k1.trans kp (by simp)⟩
end Go.Proofs.Ytcoecpglnabbpaa
