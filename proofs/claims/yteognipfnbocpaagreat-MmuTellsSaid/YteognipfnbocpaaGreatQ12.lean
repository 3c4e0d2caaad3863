/- The reference's New. -/
import Derived.Test.YteognipfnbocpaaGreatQ11
namespace Go.Proofs.YteognipfnbocpaaGreat
open Go.RowKit
open T12 (E TbRep RfRep ent ents cells5 mapM mapN wlkM wlkB wlkN unmM clrM clrB lookX)
open T13 (Tl En TlRep es Nd)

theorem info63 : (Tryz.prog.info? 63).map (fun i => (i.zero, i.size, i.bytes)) = some (some (.pointer none), 1, 8) := by kernel_rfl
/-- Rows of two types lie apart. -/
theorem own_own_off {w : World} {e e' : TypeId} {size size' n n' : Nat} {v v' : Value} {xs xs' : List Value} (h : w.ownsRow 0 e size v n xs) (h' : w.ownsRow 0 e' size' v' n' xs') (hne : e ≠ e') : ∀ g ∈ fp v, g ∉ fp v' := by
  intro g hg
  obtain ⟨A, cap, rfl, -, -, -⟩ := own_shape h
  have hA : ∃ a, A = some a := by
    cases A with
    | none => simp [fp, Value.ownBlock] at hg
    | some a => exact ⟨a, rfl⟩
  obtain ⟨a, rfl⟩ := hA
  have ha : ∃ b, (some a : Option Addr) = some ⟨b, 0, none⟩ := by
    rcases h.2 with ⟨h1, _⟩ | ⟨g', cap', cur, h1, _⟩
    · cases h1
    · injection h1 with h1
      exact ⟨g', h1⟩
  obtain ⟨b, hb⟩ := ha
  injection hb with hb
  subst hb
  obtain rfl : g = b := by simpa [fp, Value.ownBlock] using hg
  obtain ⟨cur, hcur, _⟩ := own_blk h
  exact own_blk_off h' hcur (fun e => hne e.symm)
/-- One cache more. -/
theorem RmAt.more {w w' : World} {F : List Nat} {p : Nat} {r : Rm} {L : Nat → Option Lb} {A1 A2 A3 A3' : Option Addr} {c1 c2 c3 c3' : Nat} {qs cs G : List Nat} {q : Nat} {k : Tl} (h : RmAt w F p r L A1 A2 A3 c1 c2 c3 qs cs)
    (hp : Blk w' p 39 #[.slice A1 r.N.length c1, .slice A2 r.M.length c2, .slice A3' (r.C.length + 1) c3', .int .i64 r.n]) (hk : Keeps (p :: fp (.slice A3 r.C.length c3)) w w') (hG : ∀ g ∈ G, L g = none) (hGA : ∀ g ∈ G, g ∉ fp (.slice A3' (r.C.length + 1) c3')) (ht : TlRep 86 w' G q k)
    (ho : w'.ownsRow 0 63 1 (.slice A3' (r.C.length + 1) c3') (r.C.length + 1) ((cs ++ [q]).map pv)) (hA' : ∀ g ∈ fp (.slice A3' (r.C.length + 1) c3'), g ∈ fp (.slice A3 r.C.length c3) ∨ L g = none) :
    RmAt w' (G ++ (fp (.slice A3' (r.C.length + 1) c3') ++ F)) p { r with C := r.C ++ [k] } (relab (relab L (fp (.slice A3' (r.C.length + 1) c3')) .me) G (.cl r.C.length)) A1 A2 A3' c1 c2 c3' qs (cs ++ [q]) := by
  have hcl := h.clen
  have hlen1 : (r.C ++ [k]).length = r.C.length + 1 := by simp
  have h1 : ∀ g ∈ fp (.slice A3' (r.C.length + 1) c3'), L g = some .me ∨ L g = none := fun g hg => (hA' g hg).elim (fun h4 => .inl (h.l3 g h4)) .inr
  have h2 : ∀ g ∈ G, relab L (fp (.slice A3' (r.C.length + 1) c3')) .me g = some (.cl r.C.length) ∨ relab L (fp (.slice A3' (r.C.length + 1) c3')) .me g = none := fun g hg => by
    right
    unfold relab
    rw [if_neg (hGA g hg)]
    exact hG g hg
  have off : ∀ g l, L g = some l → l ≠ .me → g ∉ p :: fp (.slice A3 r.C.length c3) := fun g l h3 h4 h5 => by
    have : L g = some .me := by
      rcases List.mem_cons.1 h5 with rfl | h5
      · exact h.lp
      · exact h.l3 g h5
    rw [this] at h3
    injection h3 with h3
    exact h4 h3.symm
  have old : ∀ g l, L g = some l → relab (relab L (fp (.slice A3' (r.C.length + 1) c3')) .me) G (.cl r.C.length) g = some l := fun g l h3 => relab_old h2 (relab_old h1 h3)
  have hpA' : ∀ g ∈ fp (.slice A3' (r.C.length + 1) c3'), g < w'.heap.size := fun g hg => own_lt ho hg
  have k1 : ∀ g ∈ fp (.slice A1 r.N.length c1), g ∉ p :: fp (.slice A3 r.C.length c3) := fun g hg h5 => by
    rcases List.mem_cons.1 h5 with rfl | h5
    · exact own_blk_off h.o1 h.bp (by decide) hg
    · exact own_own_off h.o1 h.o3 (by decide) g hg h5
  have k2 : ∀ g ∈ fp (.slice A2 r.M.length c2), g ∉ p :: fp (.slice A3 r.C.length c3) := fun g hg h5 => by
    rcases List.mem_cons.1 h5 with rfl | h5
    · exact own_blk_off h.o2 h.bp (by decide) hg
    · exact own_own_off h.o2 h.o3 (by decide) g hg h5
  refine ⟨fun g l hg => ?_, fun g l hg => ?_, by show Blk w' p 39 #[_, _, .slice A3' (r.C ++ [k]).length c3', _]; rw [hlen1]; exact hp, own_keep h.o1 hk k1, own_keep h.o2 hk k2, by show w'.ownsRow 0 63 1 (.slice A3' (r.C ++ [k]).length c3') (r.C ++ [k]).length _; rw [hlen1]; exact ho, old _ _ h.lp, fun g hg => old _ _ (h.l1 g hg), fun g hg => old _ _ (h.l2 g hg), ?_, h.nm, fun i m hi => ?_, fun i k' hi => ?_, fun g hg => ?_⟩
  · unfold relab at hg
    split at hg
    · rename_i h3; exact ht.lt g h3
    · split at hg
      · rename_i h3; exact hpA' g h3
      · exact Nat.lt_of_lt_of_le (h.lt g l hg) hk.size
  · unfold relab at hg
    split at hg
    · rename_i h3; exact List.mem_append_left _ h3
    · split at hg
      · rename_i h3; exact List.mem_append_right _ (List.mem_append_left _ h3)
      · exact List.mem_append_right _ (List.mem_append_right _ (h.inF g l hg))
  · show ∀ g ∈ fp (.slice A3' (r.C ++ [k]).length c3'), _
    rw [hlen1]
    exact fun g hg => relab_old h2 (relab_in hg)
  · obtain ⟨G1, q1, g1, g2, g3⟩ := h.ts i m hi
    exact ⟨G1, q1, g1, g2.keep hk (fun g hg => off g _ (g3 g hg) (by simp)), fun g hg => old _ _ (g3 g hg)⟩
  · have hi' : (r.C ++ [k])[i]? = some k' := hi
    rcases Nat.lt_trichotomy i r.C.length with hlt | rfl | hlt
    · rw [List.getElem?_append_left hlt] at hi'
      obtain ⟨G1, q1, g1, g2, g3⟩ := h.ks i k' hi'
      exact ⟨G1, q1, by rw [List.getElem?_append_left (by omega)]; exact g1, g2.keep hk (fun g hg => off g _ (g3 g hg) (by simp)), fun g hg => old _ _ (g3 g hg)⟩
    · rw [List.getElem?_append_right (by omega), Nat.sub_self] at hi'
      injection hi' with hi'
      subst hi'
      exact ⟨G, q, by rw [List.getElem?_append_right (by omega), hcl, Nat.sub_self]; rfl, ht, fun g hg => relab_in hg⟩
    · rw [List.getElem?_eq_none (by simp; omega)] at hi'
      cases hi'
  · rcases List.mem_append.1 hg with h3 | h3
    · exact ht.lt g h3
    · rcases List.mem_append.1 h3 with h3 | h3
      · exact hpA' g h3
      · exact Nat.lt_of_lt_of_le (h.fl g h3) hk.size
def rm0 (n : Nat) : Rm := ⟨[], [], List.replicate n tl0, 0⟩
theorem rm0_succ (n : Nat) : rm0 (n + 1) = { rm0 n with C := (rm0 n).C ++ [tl0] } := by unfold rm0; simp [List.replicate_succ']
theorem RmAt.start (w : World) : RmAt (w.alloc (.cells #[.slice none 0 0, .slice none 0 0, .slice none 0 0, .int .i64 0] 39)) [w.heap.size] w.heap.size (rm0 0) (fun g => if g = w.heap.size then some .me else none) none none none 0 0 0 [] [] := by
  refine ⟨fun g l hg => ?_, fun g l hg => ?_, Blk.new w 39 _, World.ownsRow_nil _ _ _ _, World.ownsRow_nil _ _ _ _, World.ownsRow_nil _ _ _ _, by simp, ?_, ?_, ?_, rfl, fun i m h => ?_, fun i k h => ?_, fun g hg => ?_⟩
  · split at hg
    · rename_i h; simp; omega
    · cases hg
  · split at hg
    · rename_i h; simpa using h
    · cases hg
  · simp [fp, Value.ownBlock]
  · simp [fp, Value.ownBlock]
  · simp [fp, Value.ownBlock]
  · cases h
  · simp [rm0] at h
  · simp at hg ⊢; omega
theorem rmore_step {w wr w1 w8 : World} {F : List Nat} {p j N : Nat} {L : Nat → Option Lb} {A A8 : Option Addr} {cap c8 : Nat} {cs G : List Nat} {q : Nat} (I : RmAt wr F p (rm0 j) L none none A 0 0 cap [] cs) (kp : Keeps [] w wr) (hF : ∀ x ∈ F, w.heap.size ≤ x)
    (k1 : Keeps [] wr.drew w1) (f1 : ∀ g ∈ G, wr.drew.heap.size ≤ g) (t1 : TlRep 86 w1 G q tl0) (k8 : Keeps (fp (.slice A j cap)) (w1.alloc (.cells #[.pointer (some ⟨q, 0, none⟩)] 63)) w8)
    (o8 : w8.ownsRow 0 63 1 (.slice A8 (j + 1) c8) (j + 1) (cs.map pv ++ [.pointer (some ⟨q, 0, none⟩)])) (f8 : ∀ g ∈ fp (.slice A8 (j + 1) c8), g ∈ fp (.slice A j cap) ∨ N ≤ g) (hN : N = w1.heap.size + 1)
    (b8 : Blk w8 p 39 #[.slice none 0 0, .slice none 0 0, .slice A j cap, .int .i64 0]) :
    ∃ F' L', RmAt (w8.setCell ⟨p, 2, none⟩ (.slice A8 (j + 1) c8)) F' p (rm0 (j + 1)) L' none none A8 0 0 c8 [] (cs ++ [q]) ∧ Keeps [] w (w8.setCell ⟨p, 2, none⟩ (.slice A8 (j + 1) c8)) ∧ ∀ x ∈ F', w.heap.size ≤ x := by
  have hlen : (rm0 j).C.length = j := by simp [rm0]
  have hlA := I.l3
  rw [hlen] at hlA
  have k0 : Keeps [] wr w1 := ((Keeps.refl [] wr).drew).trans k1 (by simp)
  have zr : wr.drew.heap.size = wr.heap.size := rfl
  have z1 := k0.size
  have hGn : ∀ g ∈ G, L g = none := fun g hg => by
    cases hl : L g with
    | none => rfl
    | some l => have := I.lt g l hl; have := f1 g hg; omega
  have hpF := I.inF _ _ I.lp
  have hpl := I.lt _ _ I.lp
  have hpG : p ∉ G := fun h => by have := I.lp; rw [hGn p h] at this; cases this
  have hnA : ∀ g, N ≤ g → L g = none := fun g hg => by
    cases hl : L g with
    | none => rfl
    | some l => have := I.lt g l hl; omega
  have ka : Keeps [] wr (w1.alloc (.cells #[.pointer (some ⟨q, 0, none⟩)] 63)) := k0.alloc _
  have kk : Keeps (p :: fp (.slice A j cap)) wr (w8.setCell ⟨p, 2, none⟩ (.slice A8 (j + 1) c8)) := ((ka.mono (G := p :: fp (.slice A j cap)) (by simp)).trans k8 (fun g hg => .inl (List.mem_cons_of_mem _ hg))).setCell (.inl (by simp)) _
  have hGA : ∀ g ∈ G, g ∉ fp (.slice A j cap) := fun g hg h => by have := hlA g h; rw [hGn g hg] at this; cases this
  have hp8 : p ∉ fp (.slice A8 (j + 1) c8) := own_blk_off o8 b8 (by omega)
  have tt : TlRep 86 (w8.setCell ⟨p, 2, none⟩ (.slice A8 (j + 1) c8)) G q tl0 := ((t1.keep ((Keeps.refl [] w1).alloc (.cells #[.pointer (some ⟨q, 0, none⟩)] 63)) (by simp)).keep k8 hGA).keep ((Keeps.refl [p] w8).setCell (.inl (by simp)) _) (fun g hg h => hpG (by rw [List.mem_singleton.1 h] at hg; exact hg))
  rw [rm0_succ]
  have hm := I.more (w' := w8.setCell ⟨p, 2, none⟩ (.slice A8 (j + 1) c8)) (A3' := A8) (c3' := c8) (G := G) (q := q) (k := tl0)
  rw [hlen] at hm
  refine ⟨_, _, hm (b8.set_ 2 _) kk hGn (fun g hg h => ?_) tt ?_ (fun g hg => (f8 g hg).imp id (hnA g)), kp.trans kk (fun g hg => .inr ?_), fun x hx => ?_⟩
  · rcases f8 g h with h | h
    · exact hGA g hg h
    · have := t1.lt g hg; omega
  · have e : (cs ++ [q]).map pv = cs.map pv ++ [.pointer (some ⟨q, 0, none⟩)] := by simp [pv]
    rw [e]
    exact own_far o8 hp8 _
  · rcases List.mem_cons.1 hg with rfl | hg
    · exact hF _ hpF
    · exact hF _ (I.inF _ _ (hlA g hg))
  · have := kp.size
    rcases List.mem_append.1 hx with h | h
    · have := f1 x h; omega
    · rcases List.mem_append.1 h with h | h
      · rcases f8 x h with h | h
        · exact hF _ (I.inF _ _ (hlA x h))
        · omega
      · exact hF x h
set_option maxRecDepth 100000 in
set_option maxHeartbeats 3200000 in
theorem rnew_any (w : World) (n : Int) (h2 : n ≤ 64) :
    Calls Tryz.prog 6 #[.int .i64 n] w fun e w' => ∃ F p, e = .returned (.pointer (some ⟨p, 0, none⟩)) ∧ RmRep w' F p (rm0 n.toNat) ∧ Keeps [] w w' ∧ ∀ g ∈ F, w.heap.size ≤ g := by
  have HI := Lib.hid info63
  have HS := Lib.hid (RmAt.start w)
  obtain ⟨N, hNN⟩ : ∃ N, n.toNat = N := ⟨_, rfl⟩
  rw [hNN]
  have hk0 : Keeps [] w (w.alloc (.cells #[.slice none 0 0, .slice none 0 0, .slice none 0 0, .int .i64 0] 39)) := (Keeps.refl _ w).alloc _
  have HK0 := Lib.hid hk0
  have hN : n ≤ (N : Int) ∧ (n = N ∨ (N : Int) = 0) ∧ N ≤ 64 := by omega
  have hN1 := hN.1
  have hN3 := hN.2.2
  have HN2 := Lib.hid hN.2.1
  clear hNN hk0 hN
  go_enter Tryz.func6, Tryz.ntmps6
  go_wp2_with fail
  go_loopw [4] (fun i wr => ∃ (j : Nat) (Fj : List Nat) (Lj : Nat → Option Lb) (A : Option Addr) (cap : Nat) (c : List Nat), j ≤ N ∧ i = .int .i64 j ∧ RmAt wr Fj w.heap.size (rm0 j) Lj none none A 0 0 cap [] c ∧ Keeps [] w wr ∧ (∀ x ∈ Fj, w.heap.size ≤ x)) (fun i _ => N - (intOf i).toNat)
  case atStart => exact ⟨0, _, _, _, _, _, by omega, rfl, HS.out, HK0.out, by simp⟩
  case round =>
    clear HS HK0
    obtain ⟨j, Fj, Lj, A, cap, c, hj, rfl, I, kp, hF⟩ := hrel
    by_cases hlt : j < N
    · have hln : (j : Int) < n := by
        rcases HN2.out with h0 | h0 <;> omega
      have hlen : (rm0 j).C.length = j := by simp [rm0]
      have hbp := I.bp
      have hbo := I.o3
      have hpA := own_blk_off I.o3 I.bp (by decide)
      rw [hlen] at hbp hbo hpA
      have hbp' : Blk wr w.heap.size 39 #[.slice none 0 0, .slice none 0 0, .slice A j cap, .int .i64 0] := hbp
      have c1 := hbp'.cell 2
      have c1d : wr.drew.cell? ⟨w.heap.size, 2, none⟩ = some (.slice A j cap) := c1
      have HC := Lib.hid (T13.rnew_any wr.drew 8 (by omega) (by omega))
      have HB := Lib.hid hbp'.drew
      have HO := Lib.hid (own_drew hbo)
      have HII := Lib.hid I
      have HF := Lib.hid hF
      have HPA := Lib.hid hpA
      have hpl := hbp.lt
      have hj64 : (j : Int) < 64 := by omega
      clear hbp hbo hpA hlen I hF hbp'
      go_wp2_with fail
      go_region_law (first
        | (refine T13.step_call rfl 25 _ _ rfl #[.int .i64 8] (by first | (simp [Act.eval]; done) | (simp [Act.eval, Act.put]; done)) (enters_of Tryz.func25 (by kernel_rfl) rfl) HC.out ?_; rintro e w1 ⟨G, r, rfl, t1, k1, f1⟩; refine ⟨_, rfl, ?_⟩; have b1 := HB.out.keep k1 (by simp); have d1 : w1.cell? ⟨w.heap.size, 2, none⟩ = some (.slice A j cap) := b1.cell 2; have z1 : w.heap.size < w1.heap.size := b1.lt; have O1 := Lib.hid (own_keep HO.out k1 (by simp)); have BB := Lib.hid b1; clear b1; have TT := Lib.hid t1; clear t1)
        | (refine step_app (by rfl) (.tmp 20) (.tmp 22) 37 (by rfl) 63 (.pointer none) 1 8 Tryz.underlying37 HI.out rfl (by omega) (.slice A j cap) j (c.map pv) ?_ (own_keep O1.out ((Keeps.refl [] w1).alloc (.cells #[.pointer (some ⟨r, 0, none⟩)] 63)) (by simp)) _ (some ⟨w1.heap.size, 0, none⟩) 1 1 [.pointer (some ⟨r, 0, none⟩)] ?_ (reads_one _ _ 63) (by simp [Value.oneCell']) (by unfold maxLen; omega) (by omega) (fun v8 w8 o8 k8 f8 => ?_); (focus (first | (simp [Act.eval]; done) | (simp [Act.eval, Act.put]; done))); (focus (first | (simp [Act.eval]; done) | (simp [Act.eval, Act.put]; done))); obtain ⟨A8, c8, rfl, -, -, -⟩ := own_shape o8; have b8 := (BB.out.alloc (.cells #[.pointer (some ⟨r, 0, none⟩)] 63)).keep k8 HPA.out; have d8 := b8.cell 2; have g8 := b8.frozen 2))
      all_goals
        have HM := Lib.hid (rmore_step HII.out kp HF.out k1 f1 TT.out k8 o8 f8 (by simp) b8)
        clear HII HF TT k8 o8 f8 b8 f1 k1 O1 BB HC HB HO HPA
        go_wp2
        go_roundw
        case rel =>
          obtain ⟨F', L', m1, m2, m3⟩ := HM.out
          exact ⟨j + 1, F', L', _, _, _, by omega, by go_num, m1, m2, m3⟩
        case measure => simp [intOf]; omega
    · obtain rfl : j = N := by omega
      go_wp2
      go_ret
      exact ⟨Fj, _, rfl, ⟨Lj, none, none, A, 0, 0, cap, [], c, I⟩, kp, hF⟩
end Go.Proofs.YteognipfnbocpaaGreat
