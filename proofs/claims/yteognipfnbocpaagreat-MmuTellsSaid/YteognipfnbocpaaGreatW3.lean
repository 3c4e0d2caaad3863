/- Texts of elder seats, turned to this one. -/
import Derived.Test.YteognipfnbocpaaGreatW2
namespace Go.Proofs.YteognipfnbocpaaGreat
open Go.RowKit
open T12 (E TbRep)
open T13 (Tl En TlRep es)

theorem info61 : (Tryz.prog.info? 61).map (fun i => (i.zero, i.size, i.bytes)) = some (some (.pointer none), 1, 8) := by kernel_rfl
def lab0 (b p : Nat) : Nat → Option Lb := fun g => if g = b ∨ g = p then some .me else none
theorem MmAt.start (w : World) : MmAt ((w.alloc (.map #[] 0)).alloc (.cells #[.map (some w.heap.size), .slice none 0 0, .int .i64 0] 60)) [w.heap.size, w.heap.size + 1] (w.heap.size + 1) (mm0 0) (lab0 w.heap.size (w.heap.size + 1)) w.heap.size 0 (fun _ => none) none 0 [] := by
  have hb : PMap ((w.alloc (.map #[] 0)).alloc (.cells #[.map (some w.heap.size), .slice none 0 0, .int .i64 0] 60)) w.heap.size 0 (fun _ => none) := (PMap.made w).keep ((Keeps.refl [] _).alloc _) (by simp)
  have hp : Blk ((w.alloc (.map #[] 0)).alloc (.cells #[.map (some w.heap.size), .slice none 0 0, .int .i64 0] 60)) (w.heap.size + 1) 60 #[.map (some w.heap.size), .slice none 0 0, .int .i64 0] := by
    have := Blk.new (w.alloc (.map #[] 0)) 60 #[.map (some w.heap.size), .slice none 0 0, .int .i64 0]
    rwa [show (w.alloc (.map #[] 0)).heap.size = w.heap.size + 1 by simp] at this
  refine ⟨fun g l hg => ?_, fun g l hg => ?_, hp, hb, World.ownsRow_nil _ _ _ _, ?_, ?_, by simp, fun _ _ => rfl, (fun _ _ h => by cases h), (fun i k h => by simp [mm0] at h), (fun x h => by cases h), fun g hg => ?_⟩
  · unfold lab0 at hg
    split at hg
    · rename_i h; simp; omega
    · cases hg
  · unfold lab0 at hg
    split at hg
    · rename_i h; simpa using h
    · cases hg
  · simp [lab0]
  · simp [lab0]
  · simp at hg ⊢; omega
theorem more_step {w wr w1 w8 : World} {F : List Nat} {p j N : Nat} {L : Nat → Option Lb} {b : Nat} {q : Int → Option Nat} {A A8 : Option Addr} {cap c8 : Nat} {c G : List Nat} {r : Nat} (I : MmAt wr F p (mm0 j) L b 0 q A cap c) (kp : Keeps [] w wr) (hF : ∀ x ∈ F, w.heap.size ≤ x)
    (k1 : Keeps [] wr.drew w1) (f1 : ∀ g ∈ G, wr.drew.heap.size ≤ g) (t1 : TlRep 95 w1 G r tl0) (k8 : Keeps (fp (.slice A j cap)) (w1.alloc (.cells #[.pointer (some ⟨r, 0, none⟩)] 61)) w8)
    (o8 : w8.ownsRow 0 61 1 (.slice A8 (j + 1) c8) (j + 1) (c.map pv ++ [.pointer (some ⟨r, 0, none⟩)])) (f8 : ∀ g ∈ fp (.slice A8 (j + 1) c8), g ∈ fp (.slice A j cap) ∨ N ≤ g) (hN : N = w1.heap.size + 1)
    (b8 : Blk w8 p 60 #[.map (some b), .slice A j cap, .int .i64 0]) :
    ∃ F' L', MmAt (w8.setCell ⟨p, 1, none⟩ (.slice A8 (j + 1) c8)) F' p (mm0 (j + 1)) L' b 0 q A8 c8 (c ++ [r]) ∧ Keeps [] w (w8.setCell ⟨p, 1, none⟩ (.slice A8 (j + 1) c8)) ∧ ∀ x ∈ F', w.heap.size ≤ x := by
  have hlen : (mm0 j).C.length = j := by simp [mm0]
  have hlA := I.lA
  rw [hlen] at hlA
  have k0 : Keeps [] wr w1 := ((Keeps.refl [] wr).drew).trans k1 (by simp)
  have zr : wr.drew.heap.size = wr.heap.size := rfl
  have z1 := k0.size
  have hGn : ∀ g ∈ G, L g = none := fun g hg => by
    cases hl : L g with
    | none => rfl
    | some l => have := I.lt g l hl; have := f1 g hg; omega
  have hpF := I.inF _ _ I.lp
  have hpl := I.lt _ _ I.lp
  have hpG : p ∉ G := fun h => by have := I.lp; rw [hGn p h] at this; cases this
  have hnA : ∀ g, N ≤ g → L g = none := fun g hg => by
    cases hl : L g with
    | none => rfl
    | some l => have := I.lt g l hl; omega
  have ka : Keeps [] wr (w1.alloc (.cells #[.pointer (some ⟨r, 0, none⟩)] 61)) := k0.alloc _
  have kk : Keeps (p :: fp (.slice A j cap)) wr (w8.setCell ⟨p, 1, none⟩ (.slice A8 (j + 1) c8)) := ((ka.mono (G := p :: fp (.slice A j cap)) (by simp)).trans k8 (fun g hg => .inl (List.mem_cons_of_mem _ hg))).setCell (.inl (by simp)) _
  have hGA : ∀ g ∈ G, g ∉ fp (.slice A j cap) := fun g hg h => by have := hlA g h; rw [hGn g hg] at this; cases this
  have hp8 : p ∉ fp (.slice A8 (j + 1) c8) := own_blk_off o8 b8 (by omega)
  have tt : TlRep 95 (w8.setCell ⟨p, 1, none⟩ (.slice A8 (j + 1) c8)) G r tl0 := ((t1.keep ((Keeps.refl [] w1).alloc (.cells #[.pointer (some ⟨r, 0, none⟩)] 61)) (by simp)).keep k8 hGA).keep ((Keeps.refl [p] w8).setCell (.inl (by simp)) _) (fun g hg h => hpG (by rw [List.mem_singleton.1 h] at hg; exact hg))
  refine ⟨_, _, I.more (b8.set_ 1 _) kk hGn (fun g hg h => ?_) tt ?_ (fun g hg => (f8 g hg).imp id (hnA g)), kp.trans kk (fun g hg => .inr ?_), fun x hx => ?_⟩
  · rcases f8 g h with h | h
    · exact hGA g hg h
    · have := t1.lt g hg; omega
  · have e : (c ++ [r]).map pv = c.map pv ++ [.pointer (some ⟨r, 0, none⟩)] := by simp [pv]
    rw [e]
    exact own_far o8 hp8 _
  · rcases List.mem_cons.1 hg with rfl | hg
    · exact hF _ hpF
    · exact hF _ (I.inF _ _ (hlA g hg))
  · have := kp.size
    rcases List.mem_append.1 hx with h | h
    · have := f1 x h; omega
    · rcases List.mem_append.1 h with h | h
      · rcases f8 x h with h | h
        · exact hF _ (I.inF _ _ (hlA x h))
        · omega
      · exact hF x h

set_option maxRecDepth 100000 in
set_option maxHeartbeats 3200000 in
theorem new_any (w : World) (n : Int) (h2 : n ≤ 64) :
    Calls Tryz.prog 5 #[.int .i64 n] w fun e w' => ∃ F p, e = .returned (.pointer (some ⟨p, 0, none⟩)) ∧ MmRep w' F p (mm0 n.toNat) ∧ Keeps [] w w' ∧ ∀ g ∈ F, w.heap.size ≤ g := by
  have hmm := @run_makeMap Tryz.prog
  have HI := Lib.hid info61
  have HS := Lib.hid (MmAt.start w)
  obtain ⟨N, hNN⟩ : ∃ N, n.toNat = N := ⟨_, rfl⟩
  rw [hNN]
  have hN : max n 0 = (N : Int) := by omega
  have hNb : N ≤ 64 := by omega
  clear hNN
  go_enter Tryz.func5, Tryz.ntmps5
  go_wp2_with fail
  clear hN
  have hk0 : Keeps [] w ((w.alloc (.map #[] 0)).alloc (.cells #[.map (some w.heap.size), .slice none 0 0, .int .i64 0] 60)) := ((Keeps.refl _ w).alloc _).alloc _
  have hF0 : ∀ g ∈ [w.heap.size, w.heap.size + 1], w.heap.size ≤ g := by simp
  obtain ⟨p, hp⟩ : ∃ p, p = w.heap.size + 1 := ⟨_, rfl⟩
  obtain ⟨b, hb⟩ : ∃ b, b = w.heap.size := ⟨_, rfl⟩
  have HK0 := Lib.hid hk0
  have HF0 := Lib.hid hF0
  go_loopw [10] (fun i wr => ∃ (j : Nat) (Fj : List Nat) (Lj : Nat → Option Lb) (A : Option Addr) (cap : Nat) (c : List Nat), j ≤ N ∧ i = .int .i64 j ∧ MmAt wr Fj (w.heap.size + 1) (mm0 j) Lj w.heap.size 0 (fun _ => none) A cap c ∧ Keeps [] w wr ∧ (∀ x ∈ Fj, w.heap.size ≤ x)) (fun i _ => N - (intOf i).toNat)
  case atStart => exact ⟨0, _, _, _, _, _, by omega, rfl, HS.out, hk0, hF0⟩
  case round =>
    clear hk0 hF0 hp hb HS
    obtain ⟨j, Fj, Lj, A, cap, c, hj, rfl, I, kp, hF⟩ := hrel
    by_cases hlt : j < N
    · have hlen : (mm0 j).C.length = j := by simp [mm0]
      have hbp := I.bp
      have hbo := I.bo
      have hpA := I.p_A
      rw [hlen] at hbp hbo hpA
      have c1 := hbp.cell 1
      have c1d : wr.drew.cell? ⟨w.heap.size + 1, 1, none⟩ = some (.slice A j cap) := c1
      have HC := Lib.hid (T13.new_any wr.drew 8 (by omega) (by omega))
      have HB := Lib.hid hbp.drew
      have HO := Lib.hid (own_drew hbo)
      have HII := Lib.hid I
      have HF := Lib.hid hF
      have HPA := Lib.hid hpA
      have hpl := hbp.lt
      clear hbp hbo hpA hlen I hF
      go_wp2_with fail
      go_region_law (first
        | (refine T13.step_call rfl 24 _ _ rfl #[.int .i64 8] (by first | (simp [Act.eval]; done) | (simp [Act.eval, Act.put]; done)) (enters_of Tryz.func24 (by kernel_rfl) rfl) HC.out ?_; rintro e w1 ⟨G, r, rfl, t1, k1, f1⟩; refine ⟨_, rfl, ?_⟩; have b1 := HB.out.keep k1 (by simp); have d1 : w1.cell? ⟨w.heap.size + 1, 1, none⟩ = some (.slice A j cap) := b1.cell 1; have z1 : w.heap.size + 1 < w1.heap.size := b1.lt; have O1 := Lib.hid (own_keep HO.out k1 (by simp)); have BB := Lib.hid b1; clear b1; have TT := Lib.hid t1; clear t1)
        | (refine step_app (by rfl) (.tmp 16) (.tmp 18) 58 (by rfl) 61 (.pointer none) 1 8 Tryz.underlying58 HI.out rfl (by omega) (.slice A j cap) j (c.map pv) ?_ (own_keep O1.out ((Keeps.refl [] w1).alloc (.cells #[.pointer (some ⟨r, 0, none⟩)] 61)) (by simp)) _ (some ⟨w1.heap.size, 0, none⟩) 1 1 [.pointer (some ⟨r, 0, none⟩)] ?_ (reads_one _ _ 61) (by simp [Value.oneCell']) (by unfold maxLen; omega) (by omega) (fun v8 w8 o8 k8 f8 => ?_); (focus (first | (simp [Act.eval]; done) | (simp [Act.eval, Act.put]; done))); (focus (first | (simp [Act.eval]; done) | (simp [Act.eval, Act.put]; done))); obtain ⟨A8, c8, rfl, -, -, -⟩ := own_shape o8; have b8 := (BB.out.alloc (.cells #[.pointer (some ⟨r, 0, none⟩)] 61)).keep k8 HPA.out; have d8 := b8.cell 1; have g8 := b8.frozen 1))
      all_goals
        have HM := Lib.hid (more_step HII.out kp HF.out k1 f1 TT.out k8 o8 f8 (by simp) b8)
        clear HII HF TT k8 o8 f8 b8 f1 k1 O1 BB HC HB HO HPA
        go_wp2
        go_roundw
        case rel =>
          obtain ⟨F', L', m1, m2, m3⟩ := HM.out
          exact ⟨j + 1, F', L', _, _, _, by omega, by go_num, m1, m2, m3⟩
        case measure => simp [intOf]; omega
    · obtain rfl : j = N := by omega
      go_wp2
      go_ret
      exact ⟨Fj, _, rfl, ⟨Lj, _, 0, _, A, cap, c, I, Nat.zero_le _⟩, kp, hF⟩
end Go.Proofs.YteognipfnbocpaaGreat
