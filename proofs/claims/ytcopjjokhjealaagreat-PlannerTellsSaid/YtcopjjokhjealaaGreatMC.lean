/- Texts of the elder seat, turned to this one: W43 W44 W45. -/
import Derived.Test.YtcopjjokhjealaaGreatMB
import Derived.Test.YtcopjjokhjealaaGreatLayF
import Derived.Shelf.SlSortCmp.NoneTotal
namespace Go.Proofs.YtcopjjokhjealaaGreat
open Go.RowKit Go.Shelf Go.Sort

theorem world3 (W : World) (o1 o2 o3 : Obj) : (((W.alloc o1).alloc o2).drew).alloc o3 = grow (W.drewN 1) #[o1, o2, o3] := by
  have h : ∀ a : Array Obj, ((a.push o1).push o2).push o3 = a ++ #[o1, o2, o3] := fun a => by apply Array.ext'; simp
  unfold grow
  rw [← h]
  rfl
set_option maxRecDepth 100000 in
set_option maxHeartbeats 3200000 in
theorem order_any (W : World) (x y : Ct) :
    Calls Tryz.prog 70 #[.agg #[.int .i64 x.l, .int .i64 x.i, .int .i64 x.runs, .int .i64 x.com, .int .i64 x.con, .int .i64 x.drp, .int .i64 x.str], .agg #[.int .i64 y.l, .int .i64 y.i, .int .i64 y.runs, .int .i64 y.com, .int .i64 y.con, .int .i64 y.drp, .int .i64 y.str]] W
      fun e w' => e = .returned (.int .i64 (cmpC x y)) ∧ ∃ os', w' = grow (W.drewN 1) os' := by
  have b1 := (Blk.new W 84 #[.int .i64 x.l, .int .i64 x.i, .int .i64 x.runs, .int .i64 x.com, .int .i64 x.con, .int .i64 x.drp, .int .i64 x.str]).alloc (.cells #[.int .i64 y.l, .int .i64 y.i, .int .i64 y.runs, .int .i64 y.com, .int .i64 y.con, .int .i64 y.drp, .int .i64 y.str] 84)
  have b2 := Blk.new (W.alloc (.cells #[.int .i64 x.l, .int .i64 x.i, .int .i64 x.runs, .int .i64 x.com, .int .i64 x.con, .int .i64 x.drp, .int .i64 x.str] 84)) 84 #[.int .i64 y.l, .int .i64 y.i, .int .i64 y.runs, .int .i64 y.com, .int .i64 y.con, .int .i64 y.drp, .int .i64 y.str]
  rw [ka_size] at b2
  have B1 := Lib.hid b1
  have B2 := Lib.hid b2
  clear b1 b2
  go_enter Tryz.func70, Tryz.ntmps70
  go_upto_region 1 with fail
  refine ord1_any _ W.heap.size (W.heap.size + 1) x y _ (fun W' k => ⟨B1.out.keep k (by simp), B2.out.keep k (by simp)⟩) _ _ _ _ _ _ _ _ _ _ _ _ _ _ _ ?_
  intro v5 v6 v7 v8 v9 v10 v11 v12 v13 v14 v15 v16
  go_wp2_with fail
  go_ret
  refine ⟨rfl, #[.cells #[.int .i64 x.l, .int .i64 x.i, .int .i64 x.runs, .int .i64 x.com, .int .i64 x.con, .int .i64 x.drp, .int .i64 x.str] 84, .cells #[.int .i64 y.l, .int .i64 y.i, .int .i64 y.runs, .int .i64 y.com, .int .i64 y.con, .int .i64 y.drp, .int .i64 y.str] 84, .cells #[.int .i64 (cmpI x.l y.l), .int .i64 (cmpI x.i y.i)] 3], ?_⟩
  exact world3 _ _ _ _

section
variable {α : Type} [Inhabited α] {c : α → List Value} {k : Nat}
theorem flat_rw (hc : ∀ x, (c x).length = k) (L : List α) : (flatK c k L.toArray).toList = rw c L := by
  apply List.ext_getElem?
  intro t
  have hlen := rw_len hc L
  by_cases ht : t < L.length * k
  · have hk : 0 < k := by
      rcases Nat.eq_zero_or_pos k with h | h
      · subst h; simp at ht
      · exact h
    have hd : t / k < L.length := Nat.div_lt_of_lt_mul (by rw [Nat.mul_comm]; exact ht)
    have hm : t % k < k := Nat.mod_lt _ hk
    have e := rw_at hc hd hm
    rw [Nat.mul_comm, Nat.div_add_mod] at e
    rw [e]
    have hg := get_flatK c k L.toArray t (by simpa using ht)
    have hs : t < (flatK c k L.toArray).size := by simpa using ht
    rw [Array.getElem?_toList, Array.getElem?_eq_getElem hs]
    rw [getElem!_pos (flatK c k L.toArray) t hs] at hg
    rw [hg]
    have h1 : L.toArray[t / k]! = L[t / k] := by simp [hd]
    rw [h1]
    have h2 : t % k < (c L[t / k]).length := by rw [hc]; exact hm
    rw [List.getElem?_eq_getElem h2, getElem!_pos (c L[t / k]) (t % k) h2]
  · rw [List.getElem?_eq_none (by simp; omega), List.getElem?_eq_none (by rw [hlen]; omega)]
theorem holdsK_of (hc : ∀ x, (c x).length = k) {w : World} {g : Nat} {cur : Array Value} {e : TypeId} {L : List α} (hb : w.heap[g]? = some (.cells cur e (0, 0))) (ht : cur.toList.take (L.length * k) = rw c L) : HoldsK c k w g 0 L.toArray := by
  intro j hj
  have hj' : j < L.length * k := by simpa using hj
  refine ⟨?_, by simp [World.frozen?, hb]⟩
  have h1 : cur.toList[j]? = (flatK c k L.toArray).toList[j]? := by rw [flat_rw hc, ← ht, List.getElem?_take_of_lt hj']
  rw [Array.getElem?_toList, Array.getElem?_toList, Array.getElem?_eq_getElem hj] at h1
  rw [getElem!_pos (flatK c k L.toArray) j hj]
  simp [World.cell?, hb, h1]
theorem take_putId (cur F : Array Value) (h : F.size ≤ cur.size) : (putCells id 0 F cur).toList.take F.size = F.toList := by
  apply List.ext_getElem?
  intro j
  by_cases hj : j < F.size
  · rw [List.getElem?_take_of_lt hj, Array.getElem?_toList]
    simp [putCells, hj, show j < cur.size by omega]
  · rw [List.getElem?_take_eq_none (by omega), List.getElem?_eq_none (by simp; omega)]
theorem heap_sortedX {w : World} {g n : Nat} {os : Array Obj} {cur : Array Value} {e : TypeId} {fr : Nat × Nat} (d : Array Value) (hb : w.heap[g]? = some (.cells cur e fr)) :
    (grow (putRow id (Sort.ahead w n) g 0 d) os).heap[g]? = some (.cells (putCells id 0 d cur) e fr) := by
  have hg : g < w.heap.size := (Array.getElem?_eq_some_iff.1 hb).1
  rw [heap_grow_old _ _ (by simpa using hg)]
  simp [putRow, mapBlock, Sort.ahead, Array.getElem?_modify, hb, onCells]
theorem grownBy_sortedX {w : World} {g n : Nat} {os : Array Obj} (d : Array Value) : w.grownBy (grow (putRow id (Sort.ahead w n) g 0 d) os) (some g) := by
  refine ⟨rfl, rfl, rfl, by simp, fun k hk hne => ?_⟩
  rw [heap_grow_old _ _ (by simpa using hk)]
  have : g ≠ k := fun e => hne (by rw [e])
  simp [putRow, mapBlock, Sort.ahead, Array.getElem?_modify, this]
end
instance : Inhabited Ct := ⟨zC⟩
theorem cmpI_lt (x y : Int) : (cmpI x y < 0 ↔ x < y) ∧ (cmpI x y = 0 ↔ x = y) := by
  unfold cmpI
  by_cases h1 : x < y
  · rw [if_pos h1]; constructor <;> omega
  · rw [if_neg h1]
    by_cases h2 : y < x
    · rw [if_pos h2]; constructor <;> omega
    · rw [if_neg h2]; constructor <;> omega
/-- The order of places. -/
def ltC (x y : Ct) : Prop := x.l < y.l ∨ (x.l = y.l ∧ x.i < y.i)
theorem ltOf_cmp (x y : Ct) : ltOf cmpC x y = true ↔ ltC x y := by
  unfold ltOf cmpC orI ltC
  obtain ⟨a1, a2⟩ := cmpI_lt x.l y.l
  obtain ⟨b1, b2⟩ := cmpI_lt x.i y.i
  rw [decide_eq_true_iff]
  by_cases h : cmpI x.l y.l = 0
  · rw [if_neg (by simpa using h), b1]
    have := a2.1 h
    constructor
    · exact fun h => .inr ⟨this, h⟩
    · rintro (h3 | h3)
      · omega
      · exact h3.2
  · rw [if_pos h, a1]
    constructor
    · exact .inl
    · rintro (h3 | h3)
      · exact h3
      · exact absurd (a2.2 h3.1) h
theorem swoC : SWO (ltOf cmpC) where
  irrefl x := by
    have h := ltOf_cmp x x
    cases hl : ltOf cmpC x x with
    | false => rfl
    | true => have := h.1 hl; unfold ltC at this; omega
  trans x y z h1 h2 := by
    rw [ltOf_cmp] at *
    unfold ltC at *
    omega
  ntrans x y z h1 h2 := by
    have e : ∀ a b, ltOf cmpC a b = false ↔ ¬ ltC a b := fun a b => by rw [← ltOf_cmp]; simp
    rw [e] at *
    unfold ltC at *
    omega
theorem cmpLays (blk off size : Nat) (w : World) : CmpLays Tryz.prog 70 #[] ccs 7 cmpC blk off size w := fun _ _ _ _ x y =>
  (order_any _ x y).mono (fun _ _ ⟨h1, os', h2⟩ => ⟨h1, 1, os', h2⟩)
/-- slices.SortFunc of counts. -/
theorem sortC_any (w : World) (v : Value) (cs : List Ct) (ho : w.ownsRow 0 84 7 v cs.length (rw ccs cs)) (hl : cs.length ≤ 1000) :
    Calls Tryz.prog 82 #[v, .func (.func 70) #[] #[]] w fun e w' => e = .returned (.tuple #[]) ∧ ∃ cs' : List Ct, cs'.Perm cs ∧ cs'.Pairwise (fun a b => ¬ ltC b a) ∧ w'.ownsRow 0 84 7 v cs'.length (rw ccs cs') ∧ Keeps (fp v) w w' := by
  rcases ho.2 with ⟨rfl, hz⟩ | ⟨gb, cap, cur, rfl, hbase, hgb, r1, r2, r3, r4⟩
  · have hcs : cs = [] := List.eq_nil_of_length_eq_zero hz
    subst hcs
    refine (AnyF.slices_SortFunc_none sortF none 0 (.func (.func 70) #[] #[]) w).mono ?_
    rintro e w' ⟨rfl, rfl⟩
    exact ⟨rfl, [], List.Perm.refl _, List.Pairwise.nil, ho, Keeps.refl _ _⟩
  · have hH : HoldsK ccs 7 w gb 0 cs.toArray := holdsK_of ccs_len hgb r4
    have hgl : gb < w.heap.size := (Array.getElem?_eq_some_iff.1 hgb).1
    have hs := AnyQ.slices_SortFunc sortF 7 (fun w => Tryz.isAgg84 w) (fun w => Tryz.sizeOf84 w) ccs ccs_len ccs_one cmpC swoC 70 #[] gb 0 cap cs.toArray w (enters_of Tryz.func70 (by kernel_rfl) rfl) (cmpLays gb 0 _ w) hH hgl (by simp; omega)
    have hs' : Calls Tryz.prog 82 #[.slice (some ⟨gb, 0, none⟩) cs.length cap, .func (.func 70) #[] #[]] w _ := hs
    refine hs'.mono ?_
    rintro e w' ⟨rfl, d', n, os, hp, hso, rfl⟩
    obtain ⟨d', rfl⟩ : ∃ L : List Ct, d' = L.toArray := ⟨d'.toList, by simp⟩
    have hsz : d'.length = cs.length := by have := hp.1; simpa using this
    have hpp : d'.Perm cs := by
      have h3 := hp.2.2
      have e1 : (d'.toArray.extract 0 cs.toArray.size).toList = d' := by simp [← hsz]
      have e2 : (cs.toArray.extract 0 cs.toArray.size).toList = cs := by simp
      rw [e1, e2] at h3
      exact h3
    refine ⟨rfl, d', hpp, ?_, ?_, (Keeps.refl _ _).grown (grownBy_sortedX _) (fun g hg => .inl (by cases hg; simp))⟩
    · rw [List.pairwise_iff_getElem]
      intro i j hi hj hij
      have h4 := hso i j (Nat.zero_le _) hij (by simp; omega)
      have g1 : d'.toArray[j]! = d'[j] := by simp [hj]
      have g2 : d'.toArray[i]! = d'[i] := by simp [hi]
      rw [g1, g2] at h4
      rw [← ltOf_cmp]
      simp [h4]
    · have hF := flat_rw (k := 7) ccs_len d'
      have hFs : (flatK ccs 7 d'.toArray).size = d'.length * 7 := by simp
      have hle : (flatK ccs 7 d'.toArray).size ≤ cur.size := by rw [hFs, r3, hsz]; exact Nat.mul_le_mul_right 7 r1
      refine ⟨rw_len ccs_len d', .inr ⟨gb, cap, _, by rw [hsz], hbase, heap_sortedX _ hgb, by rw [hsz]; exact r1, r2, by simp [putCells, r3], ?_⟩⟩
      rw [← hFs, take_putId _ _ hle, hF]
end Go.Proofs.YtcopjjokhjealaaGreat
namespace Go.Proofs.YtcopjjokhjealaaGreat
open Go.RowKit

/-- All counts, in the order of their places. -/
def AllK (g : Int × Int → Option Ct) (cs : List Ct) : Prop := (cs.map fun c => (c.l, c.i)).Nodup ∧ ∀ c, c ∈ cs ↔ kP.ok (c.l, c.i) ∧ g (c.l, c.i) = some c
theorem AllC.allK {g : Int × Int → Option Ct} {cs : List Ct} (h : AllC g cs) (hk : ∀ k c, g k = some c → (c.l, c.i) = k) : AllK g cs := by
  obtain ⟨ks, h1, h2, h3⟩ := h
  have e : ks = cs.map fun c => (c.l, c.i) := by
    have hg : ∀ (ks : List (Int × Int)) (cs : List Ct), cs.map some = ks.map g → ks = cs.map fun c => (c.l, c.i) := by
      intro ks
      induction ks with
      | nil => intro cs h; cases cs with
        | nil => rfl
        | cons c cs => cases h
      | cons k ks ih =>
        intro cs h
        cases cs with
        | nil => cases h
        | cons c cs =>
          simp only [List.map_cons, List.cons.injEq] at h
          rw [List.map_cons, ← ih cs h.2, hk k c h.1.symm]
    exact hg ks cs h3
  refine ⟨by rw [← e]; exact h1, fun c => ?_⟩
  constructor
  · intro hc
    have hm : some c ∈ ks.map g := by rw [← h3]; exact List.mem_map.2 ⟨c, hc, rfl⟩
    obtain ⟨k, hkm, hkc⟩ := List.mem_map.1 hm
    have := hk k c hkc
    subst this
    exact ⟨((h2 _).1 hkm).1, hkc⟩
  · rintro ⟨hok, hc⟩
    have hm := (h2 (c.l, c.i)).2 ⟨hok, by rw [hc]; rfl⟩
    have : some c ∈ cs.map some := by rw [h3]; exact List.mem_map.2 ⟨_, hm, hc⟩
    obtain ⟨c', hc', hcc⟩ := List.mem_map.1 this
    injection hcc with hcc
    rw [← hcc]
    exact hc'
theorem AllK.perm {g : Int × Int → Option Ct} {cs cs' : List Ct} (h : AllK g cs) (hp : cs'.Perm cs) : AllK g cs' :=
  ⟨((hp.map _).nodup_iff).2 h.1, fun c => by rw [hp.mem_iff]; exact h.2 c⟩
theorem AllK.sorted {g : Int × Int → Option Ct} {cs : List Ct} (h : AllK g cs) (hs : cs.Pairwise (fun a b => ¬ ltC b a)) : cs.Pairwise ltC := by
  have hn := List.pairwise_map.1 h.1
  refine (hs.and hn).imp (fun {a b} hab => ?_)
  obtain ⟨h1, h2⟩ := hab
  have h2 : (a.l, a.i) ≠ (b.l, b.i) := h2
  unfold ltC at h1 ⊢
  by_cases e1 : a.l = b.l
  · by_cases e2 : a.i = b.i
    · exact absurd (by rw [e1, e2]) h2
    · omega
  · omega
set_option maxRecDepth 100000 in
set_option maxHeartbeats 3200000 in
theorem counts_any (w : World) (F : List Nat) (p : Nat) (s : Pl) (lm cm nl nc : Nat) (A : Option Addr) (c : Nat) (f : Int → Option LnV) (h : PlAt w F p s lm cm nl nc A c f) (hnc : nc ≤ 1000) (hk : ∀ k c, s.ct k = some c → (c.l, c.i) = k) :
    Calls Tryz.prog 45 #[.pointer (some ⟨p, 0, none⟩)] w fun e w' => ∃ v cs, e = .returned v ∧ AllK s.ct cs ∧ cs.Pairwise ltC ∧ w'.ownsRow 0 84 7 v cs.length (rw ccs cs) ∧ Keeps [] w w' ∧ (∀ g ∈ fp v, w.heap.size ≤ g) ∧ cs.length ≤ 1000 := by
  have f2 : w.cell? ⟨p, 2, none⟩ = some (.map (some cm)) := h.b.cell 2
  have hpl := h.b.lt
  have ka : Keeps [] w (w.alloc (.cells #[.map (some cm)] 59)) := (Keeps.refl _ _).alloc _
  have HB : Hid ((w.alloc (.cells #[.map (some cm)] 59)).heap[w.heap.size]? = some (.cells #[.map (some cm)] 59 (0, 0))) := Lib.hid (Blk.new w 59 _)
  have HM := Lib.hid (h.mc.keep ka (by simp))
  have KA := Lib.hid ka
  have HK := Lib.hid hk
  have AP := Lib.hid (appendSeq_any _ w.heap.size cm nc s.ct HB.out HM.out hnc)
  clear h ka hk
  have CO : Hid (Calls Tryz.prog 81 #[.func (.func 83) #[] #[.pointer (some ⟨w.heap.size, 0, none⟩)]] (w.alloc (.cells #[.map (some cm)] 59)) fun e w' => ∃ v cs, e = .returned v ∧ AllC s.ct cs ∧ w'.ownsRow 0 84 7 v cs.length (rw ccs cs) ∧ Keeps [] w w' ∧ (∀ x ∈ fp v, w.heap.size ≤ x) ∧ cs.length ≤ nc) := Lib.hid (by
    go_enter Tryz.func81, Tryz.ntmps81
    go_wp2_with fail
    refine AP.out.mono ?_
    rintro e w2 ⟨v, cs, rfl, h1, h2, h3, h4, h5⟩
    have HX := Lib.hid (And.intro h1 (And.intro h2 (And.intro (KA.out.trans h3 (by simp)) (And.intro (fun x hx => Nat.le_trans (size_le_alloc w (.cells #[.map (some cm)] 59)) (h4 x hx)) h5))))
    clear h1 h2 h3 h4 h5
    go_wp2_with fail
    go_ret
    exact ⟨v, cs, rfl, HX.out⟩)
  have SF : Hid (Calls Tryz.prog 68 #[.func (.func 83) #[] #[.pointer (some ⟨w.heap.size, 0, none⟩)], .func (.func 70) #[] #[]] (w.alloc (.cells #[.map (some cm)] 59)) fun e w' => ∃ v cs, e = .returned v ∧ AllK s.ct cs ∧ cs.Pairwise ltC ∧ w'.ownsRow 0 84 7 v cs.length (rw ccs cs) ∧ Keeps [] w w' ∧ (∀ x ∈ fp v, w.heap.size ≤ x) ∧ cs.length ≤ 1000) := Lib.hid (by
    go_enter Tryz.func68, Tryz.ntmps68
    go_wp2_with fail
    refine CO.out.mono ?_
    rintro e w2 ⟨v, cs, rfl, h1, h2, h3, h4, h5⟩
    have hcl : cs.length ≤ 1000 := by omega
    have SC := Lib.hid (sortC_any w2 v cs h2 hcl)
    have HX := Lib.hid (And.intro (h1.allK HK.out) (And.intro h3 h4))
    clear h1 h2 h3 h4
    go_wp2_with fail
    refine SC.out.mono ?_
    rintro e w3 ⟨rfl, cs', hp, hs, ho, k3⟩
    have HY := Lib.hid (And.intro hp (And.intro hs (And.intro ho k3)))
    have hm : cs'.length ≤ 1000 := by rw [hp.length_eq]; exact hcl
    clear hp hs ho k3 SC
    go_wp2_with fail
    go_ret
    have hak := HX.out.1.perm HY.out.1
    exact ⟨v, cs', rfl, hak, hak.sorted HY.out.2.1, HY.out.2.2.1, HX.out.2.1.trans HY.out.2.2.2 (fun g hg => .inr (HX.out.2.2 g hg)), HX.out.2.2, hm⟩)
  go_enter Tryz.func45, Tryz.ntmps45
  go_wp2_with fail
  refine (values_any w cm).mono ?_
  rintro e w1 ⟨rfl, rfl⟩
  go_wp2_with fail
  refine SF.out.mono ?_
  rintro e w2 ⟨v, cs, rfl, h1, h2, h3, h4, h5, h6⟩
  have HX := Lib.hid (And.intro h1 (And.intro h2 (And.intro h3 (And.intro h4 (And.intro h5 h6)))))
  clear h1 h2 h3 h4 h5 h6
  go_wp2_with fail
  go_ret
  exact ⟨v, cs, rfl, HX.out⟩
end Go.Proofs.YtcopjjokhjealaaGreat
namespace Go.Proofs.YtcopjjokhjealaaGreat
open Go.RowKit

/-- The lines lie at A. -/
structure AtV (w : World) (A : Option Addr) (L : List LnV) : Prop where
  at_ : 0 < L.length → ∃ b off, A = some ⟨b, off, none⟩ ∧ b < w.heap.size ∧ ∀ k (hk : k < L.length),
    w.cell? ⟨b, off + k * 4, none⟩ = some (.int .i64 L[k].id) ∧ w.cell? ⟨b, off + k * 4 + 1, none⟩ = some (.int .i64 L[k].par) ∧ w.cell? ⟨b, off + k * 4 + 2, none⟩ = some (.int .i64 L[k].pid) ∧
    w.cell? ⟨b, off + k * 4 + 3, none⟩ = some (.slice (L[k].b.map fun g => ⟨g, 0, none⟩) L[k].n L[k].c)
  mx : L.length ≤ 1000000
theorem AtV.keep {w w' : World} {A : Option Addr} {L : List LnV} (h : AtV w A L) (hk : Keeps [] w w') : AtV w' A L := by
  refine ⟨fun h0 => ?_, h.mx⟩
  obtain ⟨b, off, h1, h2, h3⟩ := h.at_ h0
  have e : ∀ o, w'.cell? ⟨b, o, none⟩ = w.cell? ⟨b, o, none⟩ := fun o => hk.cell (p := ⟨b, o, none⟩) h2 (by simp)
  exact ⟨b, off, h1, Nat.lt_of_lt_of_le h2 hk.size, fun k hk => by simp only [e]; exact h3 k hk⟩
theorem AtV.of_own {w : World} {A : Option Addr} {c : Nat} {L : List LnV} (h : w.ownsRow 0 56 4 (.slice A L.length c) L.length (rw lcs L)) (hm : L.length ≤ 1000000) : AtV w A L := by
  refine ⟨fun h0 => ?_, hm⟩
  obtain ⟨_, _, hv, -, -, hA⟩ := own_shape h
  obtain ⟨g, hg⟩ := hA h0
  obtain ⟨rfl, -, rfl⟩ : A = _ ∧ L.length = _ ∧ c = _ := by injection hv with h1 h2 h3; exact ⟨h1, rfl, h3⟩
  subst hg
  have hc : ∀ k (hk : k < L.length) j (hj : j < 4) u, (lcs L[k])[j]? = some u → w.cell? ⟨g, k * 4 + j, none⟩ = some u := fun k hk j hj u hu => own_cell h (by rw [rw_at lcs_len hk hj]; exact hu)
  refine ⟨g, 0, rfl, own_lt h (by simp [fp, Value.ownBlock]), fun k hk => ?_⟩
  rw [Nat.zero_add]
  exact ⟨hc k hk 0 (by omega) _ rfl, hc k hk 1 (by omega) _ rfl, hc k hk 2 (by omega) _ rfl, hc k hk 3 (by omega) _ rfl⟩
/-- Lines that a world holds: all of the planner's. -/
structure LnsAt (w : World) (s : Pl) (A : Option Addr) (vs : List LnV) : Prop where
  at_ : AtV w A vs
  asc : Asc (vs.map (·.id))
  mem : ∀ x, x ∈ vs.map (·.id) ↔ (s.ln x).isSome = true
  va : VsAt s w vs
  mx : vs.length ≤ 1000
theorem LnsAt.keep {w w' : World} {s : Pl} {A : Option Addr} {vs : List LnV} (h : LnsAt w s A vs) (hk : Keeps [] w w') : LnsAt w' s A vs :=
  ⟨h.at_.keep hk, h.asc, h.mem, h.va.keep hk (fun _ hg => by cases hg), h.mx⟩
theorem linesA_any (w : World) (F : List Nat) (p : Nat) (s : Pl) (lm cm nl nc : Nat) (A : Option Addr) (c : Nat) (f : Int → Option LnV) (h : PlAt w F p s lm cm nl nc A c f) (hnl : nl ≤ 1000) (hs : ∀ x n, s.ln x = some n → kI.ok x) (hi : ∀ x n, s.ln x = some n → n.it.length ≤ 1000) :
    Calls Tryz.prog 41 #[.pointer (some ⟨p, 0, none⟩)] w fun e w' => ∃ A' c' vs, e = .returned (.slice A' (vs : List LnV).length c') ∧ LnsAt w' s A' vs ∧ Keeps [] w w' := by
  refine (lines_any w F p s lm cm nl nc A c f h hnl hs hi).mono ?_
  rintro e w' ⟨v, vs, rfl, h1, h2, h3, h4, h5, h6, h7⟩
  obtain ⟨A', c', rfl, -⟩ := own_shape h3
  exact ⟨A', c', vs, rfl, ⟨AtV.of_own h3 (by omega), h1, h2, h4, h7⟩, h5⟩
/-- The items of a line that are to come. -/
def cmgV (s : Pl) (x : Int) : List Int := match s.ln x with
  | none => []
  | some n => n.it
theorem cmg_none {s : Pl} {w : World} {A : Option Addr} {vs : List LnV} {x : Int} (h : LnsAt w s A vs) (hno : ∀ j (hj : j < vs.length), j < vs.length → ¬ vs[j].id = x) : cmgV s x = [] := by
  unfold cmgV
  cases hx : s.ln x with
  | none => rfl
  | some n =>
    have := (h.mem x).2 (by rw [hx]; rfl)
    obtain ⟨v, hv, hvx⟩ := List.mem_map.1 this
    obtain ⟨j, hj, rfl⟩ := List.getElem_of_mem hv
    exact absurd hvx (hno j hj hj)
/-- A line of the planner lies in a trial. -/
def witP (s : Pl) (t : Int) : Prop := ∃ x n, s.ln x = some n ∧ n.par = t
end Go.Proofs.YtcopjjokhjealaaGreat
