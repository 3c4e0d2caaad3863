/- Texts of elder seats, turned to this one. -/
import Derived.Test.YteognipfnbocpaaGreatRw
import Derived.Test.YteognipfnbocpaaGreatBits
import Derived.Test.YteognipfnbocpaaGreatProg
import Derived.BigRegion
import Derived.Deep.QuietTactic
import Derived.BigQuiet
import Derived.WalkLawsBesides
import Derived.WalkSpells
import Derived.Handy
import Derived.Deep.RegionHeld3
import Derived.Laws.MakeOwn
import Derived.KernelRfl
import Derived.Shelf.Abstract
import Derived.Deep.LoopGhost
namespace Go.Proofs.YteognipfnbocpaaGreat.T13
open Go.RowKit

/-- An entry: space, page, frame, with the right to write or not. -/
structure En where
  s : Int
  p : Int
  f : Int
  w : Bool
deriving DecidableEq
def en0 : En := ⟨0, 0, 0, false⟩
def ec (e : En) : List Value := [.int .i64 e.s, .int .i64 e.p, .int .i64 e.f, .bool e.w]
theorem ec_len (e : En) : (ec e).length = 4 := rfl
theorem ec_one (e : En) : ∀ u ∈ ec e, u.oneCell' = true := by
  intro u hu
  simp only [ec, List.mem_cons, List.not_mem_nil, or_false] at hu
  rcases hu with rfl | rfl | rfl | rfl <;> rfl
/-- The cells of a list of entries. -/
def es (L : List En) : List Value := rw ec L
theorem es_len (L : List En) : (es L).length = L.length * 4 := rw_len ec_len L
theorem es_one (L : List En) : ∀ u ∈ es L, u.oneCell' = true := rw_one ec_one L
theorem es_at {L : List En} {i j : Nat} (hi : i < L.length) (hj : j < 4) : (es L)[i * 4 + j]? = (ec L[i])[j]? := rw_at ec_len hi hj
theorem es_take (L : List En) (i : Nat) : (es L).take (i * 4) = es (L.take i) := rw_take ec_len L i
theorem es_drop (L : List En) (i : Nat) : (es L).drop (i * 4) = es (L.drop i) := rw_drop ec_len L i
theorem es_append (L M : List En) : es (L ++ M) = es L ++ es M := rw_append L M
def En.is (e : En) (s p : Int) : Bool := e.s == s && e.p == p
/-- The cache: its size, its entries. -/
structure Tl where
  n : Nat
  L : List En
def Tl.drop (t : Tl) (q : En → Bool) : Tl := { t with L := t.L.filter (fun e => !q e) }
def Tl.fill (t : Tl) (e : En) : Tl :=
  let L := t.L.filter (fun x => !x.is e.s e.p)
  if t.n = 0 then { t with L := L } else { t with L := e :: L.take (t.n - 1) }
/-- The place of the entry that Look returns. -/
def Tl.hit (t : Tl) (s p : Int) (w : Bool) : Option Nat :=
  match t.L.findIdx? (fun e => e.is s p) with
  | none => none
  | some i => if w && !(t.L.getD i en0).w then none else some i
def Tl.look (t : Tl) (s p : Int) (w : Bool) : Tl :=
  match t.hit s p w with
  | none => t
  | some i => { t with L := t.L.getD i en0 :: t.L.eraseIdx i }
def Tl.lookR (t : Tl) (s p : Int) (w : Bool) : Int × Bool :=
  match t.hit s p w with
  | none => (0, false)
  | some i => ((t.L.getD i en0).f, true)
end Go.Proofs.YteognipfnbocpaaGreat.T13
namespace Go.Proofs.YteognipfnbocpaaGreat.T13
open Go.RowKit

/-- The cache t lies at block p, as a struct of type T; F are all its blocks. -/
structure TlAt (T : TypeId) (w : World) (F : List Nat) (p : Nat) (t : Tl) (A : Option Addr) (cap : Nat) : Prop where
  f : F = p :: fp (.slice A t.L.length cap)
  b : Blk w p T #[.int .i64 t.n, .slice A t.L.length cap]
  o : w.ownsRow 0 83 4 (.slice A t.L.length cap) t.L.length (es t.L)
  m : t.L.length ≤ t.n
  t : T ≠ 83
def TlRep (T : TypeId) (w : World) (F : List Nat) (p : Nat) (t : Tl) : Prop := ∃ A cap, TlAt T w F p t A cap
section
variable {T : TypeId} {w w' : World} {F G : List Nat} {p : Nat} {s : Tl} {A : Option Addr} {cap : Nat}
theorem TlAt.off (h : TlAt T w F p s A cap) : p ∉ fp (.slice A s.L.length cap) := own_blk_off h.o h.b (fun e => h.t e.symm)
theorem TlRep.lt (h : TlRep T w F p s) : ∀ g ∈ F, g < w.heap.size := by
  obtain ⟨A, cap, h⟩ := h
  intro g hg
  rw [h.f] at hg
  rcases List.mem_cons.1 hg with rfl | hg
  · exact h.b.lt
  · exact own_lt h.o hg
theorem TlRep.keep (h : TlRep T w F p s) (hk : Keeps G w w') (hd : ∀ g ∈ F, g ∉ G) : TlRep T w' F p s := by
  obtain ⟨A, cap, h⟩ := h
  have hf := h.f
  exact ⟨A, cap, hf, h.b.keep hk (hd p (by rw [hf]; simp)), own_keep h.o hk (fun g hg => hd g (by rw [hf]; simp [hg])), h.m, h.t⟩
theorem TlRep.len (h : TlRep T w F p s) : s.L.length ≤ s.n := by obtain ⟨A, cap, h⟩ := h; exact h.m
end
/-- What is asked of a predicate on entries: a function value. F: what may have turned since w. -/
def PB (F : List Nat) (g : Nat) (lb : Array Value) (q : En → Bool) (w : World) : Prop :=
  ∀ (W : World) (x : En), Keeps F w W → Calls Tryz.prog g (#[.agg (ec x).toArray] ++ lb) W fun e w' => e = .returned (.bool (q x)) ∧ Keeps [] W w'
theorem PB.keep {F G : List Nat} {g : Nat} {lb : Array Value} {q : En → Bool} {w w' : World} (h : PB F g lb q w) (hk : Keeps G w w') (hG : ∀ x ∈ G, x ∈ F) : PB F g lb q w' :=
  fun W x hW => h W x ((hk.mono hG).trans hW (fun _ hx => .inl hx))
theorem PB.less {F G : List Nat} {g : Nat} {lb : Array Value} {q : En → Bool} {w : World} (h : PB F g lb q w) (hG : ∀ x ∈ G, x ∈ F) : PB G g lb q w :=
  fun W x hW => h W x (hW.mono hG)

/-- The index of the first that q holds of, or -1. -/
def fidx (q : En → Bool) (L : List En) : Int := match L.findIdx? q with | none => -1 | some i => (i : Int)
theorem fidx_some {q : En → Bool} {L : List En} {i : Nat} (h : L.findIdx? q = some i) : fidx q L = i := by unfold fidx; rw [h]
theorem fidx_none {q : En → Bool} {L : List En} (h : L.findIdx? q = none) : fidx q L = -1 := by unfold fidx; rw [h]
set_option maxRecDepth 100000 in
set_option maxHeartbeats 1600000 in
theorem indexFunc_any (w : World) (A : Option Addr) (cap : Nat) (L : List En) (g : Nat) (lb : Array Value) (q : En → Bool) (eg : ∀ args w, (callFunc g args).run Tryz.prog w = .ok (.enter g args) w)
    (hn : L.length ≤ 1000000) (ho : w.ownsRow 0 83 4 (.slice A L.length cap) L.length (es L)) (hp : PB [] g lb q w) :
    Calls Tryz.prog 78 #[.slice A L.length cap, .func (.func g) #[] lb] w fun e w' => e = .returned (.int .i64 (fidx q L)) ∧ Keeps [] w w' := by
  obtain ⟨_, _, hv, -, -, hA⟩ := own_shape ho
  obtain ⟨rfl, -, rfl⟩ : A = _ ∧ L.length = _ ∧ cap = _ := by injection hv with h1 h2 h3; exact ⟨h1, rfl, h3⟩
  clear hv
  go_enter Tryz.func78, Tryz.ntmps78
  go_wp2
  go_loopw [5, 8] (fun _ i wr => ∃ k : Nat, k ≤ L.length ∧ i = .int .i64 k ∧ (∀ j (h : j < L.length), j < k → q L[j] = false) ∧ Keeps [] w wr) (fun _ i _ => L.length - (intOf i).toNat)
  case atStart => exact ⟨0, by omega, rfl, fun _ _ h => absurd h (by omega), Keeps.refl _ _⟩
  case round =>
    obtain ⟨k, hk, rfl, hst, kp⟩ := hrel
    by_cases hlt : k < L.length
    · obtain ⟨b, rfl⟩ := hA (by omega)
      have ow := own_keep ho kp (by simp)
      have c0 := own_cell ow (j := k * 4) (u := .int .i64 L[k].s) (by rw [show k * 4 = k * 4 + 0 by omega, es_at hlt (by omega)]; rfl)
      have c1 := own_cell ow (j := k * 4 + 1) (u := .int .i64 L[k].p) (by rw [es_at hlt (by omega)]; rfl)
      have c2 := own_cell ow (j := k * 4 + 2) (u := .int .i64 L[k].f) (by rw [es_at hlt (by omega)]; rfl)
      have c3 := own_cell ow (j := k * 4 + 3) (u := .bool L[k].w) (by rw [es_at hlt (by omega)]; rfl)
      have hc := hp wr L[k] kp
      have HST := Lib.hid hst
      clear hst hp ho
      cases hq : q L[k] with
      | true =>
        rw [hq] at hc
        have hf : L.findIdx? q = some k := by
          rw [List.findIdx?_eq_some_iff_getElem]
          exact ⟨hlt, hq, fun j hj => by simpa using HST.out j (by omega) hj⟩
        have HF := Lib.hid (fidx_some hf)
        clear hf hq
        go_wp2_with (go_at_fn g; refine hc.mono ?_; rintro e w' ⟨rfl, hb'⟩)
        go_ret
        rw [HF.out]
        exact ⟨rfl, kp.trans hb' (by simp)⟩
      | false =>
        rw [hq] at hc
        have HQ := Lib.hid hq
        clear hq
        go_wp2_with (go_at_fn g; refine hc.mono ?_; rintro e w' ⟨rfl, hb'⟩)
        go_roundw
        case rel =>
          refine ⟨k + 1, by omega, by go_num, fun j hj hjk => ?_, kp.trans hb' (by simp)⟩
          by_cases e : j = k
          · subst e; exact HQ.out
          · exact HST.out j hj (by omega)
        case measure => simp [intOf]; omega
    · obtain rfl : k = L.length := by omega
      have hf : L.findIdx? q = none := by
        rw [List.findIdx?_eq_none_iff]
        intro x hx
        obtain ⟨j, hj, rfl⟩ := List.getElem_of_mem hx
        exact hst j hj hj
      have HF := Lib.hid (fidx_none hf)
      clear hf hst
      go_wp2
      go_ret
      rw [HF.out]
      exact ⟨rfl, kp⟩

/-- The closure of at, of DropFrame, of Flush. -/
theorem enters89 : ∀ (args : Array Value) (w : World), (callFunc 89 args).run Tryz.prog w = .ok (.enter 89 args) w := enters_of Tryz.func89 (by kernel_rfl) rfl
theorem enters81 : ∀ (args : Array Value) (w : World), (callFunc 81 args).run Tryz.prog w = .ok (.enter 81 args) w := enters_of Tryz.func81 (by kernel_rfl) rfl
theorem enters82 : ∀ (args : Array Value) (w : World), (callFunc 82 args).run Tryz.prog w = .ok (.enter 82 args) w := enters_of Tryz.func82 (by kernel_rfl) rfl
theorem at_pred (F : List Nat) (w : World) (b1 b2 : Nat) (s p : Int) (h1 : Blk w b1 3 #[.int .i64 s]) (h2 : Blk w b2 3 #[.int .i64 p]) (n1 : b1 ∉ F) (n2 : b2 ∉ F) :
    PB F 89 #[.pointer (some ⟨b1, 0, none⟩), .pointer (some ⟨b2, 0, none⟩)] (fun e => e.is s p) w := by
  intro W x hW
  have c1 : W.cell? ⟨b1, 0, none⟩ = some (.int .i64 s) := (h1.keep hW n1).cell 0
  have c2 : W.cell? ⟨b2, 0, none⟩ = some (.int .i64 p) := (h2.keep hW n2).cell 0
  have l1 : b1 < W.heap.size := (h1.keep hW n1).lt
  have l2 : b2 < W.heap.size := (h2.keep hW n2).lt
  have kk : Keeps [] W (W.alloc (.cells #[.int .i64 x.s, .int .i64 x.p, .int .i64 x.f, .bool x.w] 83)) := (Keeps.refl _ _).alloc _
  show Calls Tryz.prog 89 #[.agg #[.int .i64 x.s, .int .i64 x.p, .int .i64 x.f, .bool x.w], .pointer (some ⟨b1, 0, none⟩), .pointer (some ⟨b2, 0, none⟩)] W _
  cases e1 : x.s == s with
  | true =>
    have H := Lib.hid (show x.is s p = (x.p == p) by unfold En.is; rw [e1]; rfl)
    go_enter Tryz.func89, Tryz.ntmps89
    go_wp2
    go_ret
    rw [H.out]
    exact ⟨rfl, kk⟩
  | false =>
    have H := Lib.hid (show x.is s p = false by unfold En.is; rw [e1]; rfl)
    go_enter Tryz.func89, Tryz.ntmps89
    go_wp2
    go_ret
    rw [H.out]
    exact ⟨rfl, kk⟩
theorem frame_pred (F : List Nat) (w : World) (b1 : Nat) (s : Int) (h1 : Blk w b1 3 #[.int .i64 s]) (n1 : b1 ∉ F) :
    PB F 81 #[.pointer (some ⟨b1, 0, none⟩)] (fun e => e.f == s) w := by
  intro W x hW
  have c1 : W.cell? ⟨b1, 0, none⟩ = some (.int .i64 s) := (h1.keep hW n1).cell 0
  have l1 : b1 < W.heap.size := (h1.keep hW n1).lt
  have kk : Keeps [] W (W.alloc (.cells #[.int .i64 x.s, .int .i64 x.p, .int .i64 x.f, .bool x.w] 83)) := (Keeps.refl _ _).alloc _
  show Calls Tryz.prog 81 #[.agg #[.int .i64 x.s, .int .i64 x.p, .int .i64 x.f, .bool x.w], .pointer (some ⟨b1, 0, none⟩)] W _
  go_enter Tryz.func81, Tryz.ntmps81
  go_wp2
  go_ret
  exact ⟨rfl, kk⟩
theorem space_pred (F : List Nat) (w : World) (b1 : Nat) (s : Int) (h1 : Blk w b1 3 #[.int .i64 s]) (n1 : b1 ∉ F) :
    PB F 82 #[.pointer (some ⟨b1, 0, none⟩)] (fun e => e.s == s) w := by
  intro W x hW
  have c1 : W.cell? ⟨b1, 0, none⟩ = some (.int .i64 s) := (h1.keep hW n1).cell 0
  have l1 : b1 < W.heap.size := (h1.keep hW n1).lt
  have kk : Keeps [] W (W.alloc (.cells #[.int .i64 x.s, .int .i64 x.p, .int .i64 x.f, .bool x.w] 83)) := (Keeps.refl _ _).alloc _
  show Calls Tryz.prog 82 #[.agg #[.int .i64 x.s, .int .i64 x.p, .int .i64 x.f, .bool x.w], .pointer (some ⟨b1, 0, none⟩)] W _
  go_enter Tryz.func82, Tryz.ntmps82
  go_wp2
  go_ret
  exact ⟨rfl, kk⟩
theorem at_any (w : World) (s p : Int) : Calls Tryz.prog 77 #[.int .i64 s, .int .i64 p] w fun e w' => e = .returned (.func (.func 89) #[] #[.pointer (some ⟨w.heap.size, 0, none⟩), .pointer (some ⟨w.heap.size + 1, 0, none⟩)]) ∧ w' = (w.alloc (.cells #[.int .i64 s] 3)).alloc (.cells #[.int .i64 p] 3) := by
  go_enter Tryz.func77, Tryz.ntmps77
  go_wp2
  go_ret
  exact ⟨by simp, rfl⟩
theorem new_any (w : World) (n : Int) (h1 : -9223372036854775808 ≤ n) (h2 : n ≤ 9223372036854775807) : Calls Tryz.prog 24 #[.int .i64 n] w fun e w' => ∃ F p, e = .returned (.pointer (some ⟨p, 0, none⟩)) ∧ TlRep 95 w' F p ⟨n.toNat, []⟩ ∧ Keeps [] w w' ∧ ∀ g ∈ F, w.heap.size ≤ g := by
  have hmx : max 0 n = (n.toNat : Int) := by omega
  have hmx2 : max n 0 = (n.toNat : Int) := by omega
  generalize n.toNat = m at *
  go_enter Tryz.func24, Tryz.ntmps24
  go_wp2
  · go_ret
    have e : n = (m : Int) := by omega
    subst e
    exact ⟨[w.heap.size], w.heap.size, rfl, ⟨none, 0, rfl, Blk.new _ _ _, World.ownsRow_nil _ _ _ _, by simp, by decide⟩, (Keeps.refl _ _).alloc _, by simp⟩
  · go_ret
    obtain rfl : m = 0 := by omega
    exact ⟨[w.heap.size], w.heap.size, rfl, ⟨none, 0, rfl, Blk.new _ _ _, World.ownsRow_nil _ _ _ _, by simp, by decide⟩, (Keeps.refl _ _).alloc _, by simp⟩
end Go.Proofs.YteognipfnbocpaaGreat.T13
namespace Go.Proofs.YteognipfnbocpaaGreat.T13
open Go.RowKit

theorem info83 : (Tryz.prog.info? 83).map (fun i => (i.zero, i.size, i.bytes)) = some (some (.agg #[.int .i64 0, .int .i64 0, .int .i64 0, .bool false]), 4, 32) := by kernel_rfl
set_option maxRecDepth 100000 in
set_option maxHeartbeats 1600000 in
/-- slices.Delete of one entry. -/
theorem delete_any (w : World) (g n cap i : Nat) (xs : List Value) (ho : w.ownsRow 0 83 4 (.slice (some ⟨g, 0, none⟩) n cap) n xs) (h1c : ∀ u ∈ xs, u.oneCell' = true) (hi : i < n) (hn : n ≤ 1000000) :
    Calls Tryz.prog 79 #[.slice (some ⟨g, 0, none⟩) n cap, .int .i64 i, .int .i64 ((i : Int) + 1)] w fun e w' => e = .returned (.slice (some ⟨g, 0, none⟩) (n - 1) cap) ∧
      w'.ownsRow 0 83 4 (.slice (some ⟨g, 0, none⟩) (n - 1) cap) (n - 1) (xs.take (i * 4) ++ xs.drop ((i + 1) * 4)) ∧ Keeps [g] w w' := by
  obtain ⟨i0, hi0, hz0, hz1, hz2⟩ := info_parts (P := Tryz.prog) (e := 83) (z := .agg #[.int .i64 0, .int .i64 0, .int .i64 0, .bool false]) (size := 4) (bytes := 32) (by kernel_rfl)
  obtain ⟨cur, hb, hnc, hcm, hcs, hx⟩ := own_blk ho
  have hxl := own_len ho
  unfold maxLen at hcm
  have hnl : (xs.drop ((i + 1) * 4)).length = (n - (i + 1)) * 4 := by rw [List.length_drop, hxl]; omega
  have hcell : ∀ j, j < cap * 4 → w.drew.cell? ⟨g, j, none⟩ = some (cur.getD j undef) := fun j hj => by
    rw [hb.drew.cell]; simp [Array.getD, hcs, hj]
  obtain ⟨A, hA, hnews⟩ : ∃ A : Addr, (if cap = i + 1 then some (⟨g, 0, none⟩ : Addr) else some ⟨g, (i + 1) * 4, none⟩) = some A ∧ (∀ j u, (xs.drop ((i + 1) * 4))[j]? = some u → w.drew.cell? (A.add j) = some u) := by
    by_cases h : cap = i + 1
    · refine ⟨⟨g, 0, none⟩, by simp [h], fun j u hu => ?_⟩
      have h0 : (xs.drop ((i + 1) * 4)).length = 0 := by rw [hnl]; omega
      rw [List.length_eq_zero_iff.1 h0] at hu
      simp at hu
    · refine ⟨⟨g, (i + 1) * 4, none⟩, by simp [h], fun j u hu => ?_⟩
      rw [Addr.add_lit]
      rw [List.getElem?_drop] at hu
      exact own_cell (own_drew ho) hu
  have S1 := Lib.hid hnl
  have S2 := Lib.hid hnews
  have S3 : Hid (∀ u ∈ xs.drop ((i + 1) * 4), u.oneCell' = true) := fun u hu => h1c u (List.mem_of_mem_drop hu)
  have S4 : Hid (∀ j, j < (xs.drop ((i + 1) * 4)).length → (w.drew.cell? ⟨g, 0 + i * 4 + j, none⟩).isSome = true ∧ w.drew.frozen? ⟨g, 0 + i * 4 + j, none⟩ = false) := by
    intro j hj
    rw [hnl] at hj
    exact ⟨by rw [hcell _ (by omega)]; rfl, hb.drew.frozen _⟩
  have hwr : IntKind.i64.wrap ((i : Int) + 1) = (i : Int) + 1 := by rw [IntKind.wrap_i64]; omega
  have hp0 : (0 : Int) ≤ (i : Int) + 1 := by omega
  have hp1 : (i : Int) + 1 ≤ (n : Int) := by omega
  have hp2 : ((i : Int) + 1).toNat = i + 1 := by omega
  have HB := Lib.hid hb
  have HX := Lib.hid hx
  have HO := Lib.hid ho
  have HC := Lib.hid hcs
  clear hx hb ho hnl hnews hcell hxl hcs h1c
  have hic : i ≤ cap := by omega
  go_enter Tryz.func79, Tryz.ntmps79
  go_wp2_with fail
  go_region_law (refine step_append_room rfl (.tmp 22) (.tmp 25) 49 rfl 83 i0 4 Tryz.underlying49 hi0 hz1 g 0 i cap (by simp [Act.eval, Act.put]) A (n - (i + 1)) (cap - (i + 1)) (xs.drop ((i + 1) * 4)) (by simp [Act.eval, Act.put]) S1.out S2.out S3.out (by omega) S4.out ?_)
  have e1 : i + (n - (i + 1)) = n - 1 := by omega
  rw [e1]
  clear e1 hA
  go_wp2_with fail
  have hb1 := HB.out.drew.setCells (xs.drop ((i + 1) * 4)) (i * 4) (by rw [S1.out, HC.out]; omega)
  have hlen1 : (splice cur.toList (i * 4) (xs.drop ((i + 1) * 4))).length = cap * 4 := by
    rw [splice_len (by rw [S1.out, Array.length_toList, HC.out]; omega), Array.length_toList, HC.out]
  have hs1 : n - (n - 1) = 1 := by omega
  have hclr := run_clear_one (P := Tryz.prog) (w.drew.setCells g (i * 4) (xs.drop ((i + 1) * 4))) 49 83 0 (.agg #[.int .i64 0, .int .i64 0, .int .i64 0, .bool false]) [.int .i64 0, .int .i64 0, .int .i64 0, .bool false] Tryz.underlying49 (fun w => by kernel_rfl) (by kernel_rfl)
    (by simp [Value.oneCell']) g ((n - 1) * 4) (cap - (n - 1))
    (fun j hj => by rw [hb1.cell]; simp only [List.length_cons, List.length_nil] at hj; rw [List.getElem?_toArray, List.getElem?_eq_getElem (by rw [hlen1]; omega)]; rfl)
    (fun j _ => hb1.frozen _)
  rw [hs1, hclr]
  have hb2 := hb1.setCells [.int .i64 0, .int .i64 0, .int .i64 0, .bool false] ((n - 1) * 4) (by rw [List.size_toArray, hlen1]; simp; omega)
  have hk2 : Keeps [g] w ((w.drew.setCells g (i * 4) (xs.drop ((i + 1) * 4))).setCells g ((n - 1) * 4) [.int .i64 0, .int .i64 0, .int .i64 0, .bool false]) := ((Keeps.refl [g] w).drew.setCells _ _ (.inl (by simp))).setCells _ _ (.inl (by simp))
  have ho2 : ((w.drew.setCells g (i * 4) (xs.drop ((i + 1) * 4))).setCells g ((n - 1) * 4) [.int .i64 0, .int .i64 0, .int .i64 0, .bool false]).ownsRow 0 83 4 (.slice (some ⟨g, 0, none⟩) (n - 1) cap) (n - 1) (xs.take (i * 4) ++ xs.drop ((i + 1) * 4)) := by
    refine own_of_blk hb2 (by omega) (by unfold maxLen; omega) ?_ ?_
    · rw [List.size_toArray, splice_len (by rw [List.toList_toArray, hlen1]; simp; omega), List.toList_toArray, hlen1]
    · rw [List.toList_toArray]
      have e1 : ∀ Y : List Value, Y.length = cap * 4 → (splice Y ((n - 1) * 4) [.int .i64 0, .int .i64 0, .int .i64 0, .bool false]).take ((n - 1) * 4) = Y.take ((n - 1) * 4) := by
        intro Y hY
        unfold splice
        rw [List.append_assoc, List.take_append_of_le_length (by rw [List.length_take, hY]; omega), List.take_take, Nat.min_self]
      rw [List.toList_toArray, e1 _ hlen1]
      unfold splice
      have e2 : (cur.toList.take (i * 4)) = xs.take (i * 4) := by rw [← HX.out, List.take_take, Nat.min_eq_left (by omega)]
      rw [e2, List.take_append_of_le_length (by simp only [List.length_append, S1.out]; rw [← e2]; simp [HC.out]; omega)]
      apply List.take_of_length_le
      simp only [List.length_append, S1.out]
      rw [← e2]
      simp [HC.out]
      omega
  generalize (w.drew.setCells g (i * 4) (xs.drop ((i + 1) * 4))).setCells g ((n - 1) * 4) [.int .i64 0, .int .i64 0, .int .i64 0, .bool false] = w2 at *
  clear hb1 hlen1 hclr hb2 hs1
  go_wp2
  go_ret
  exact ⟨rfl, ho2, hk2⟩
/-- slices.Clone over entries. -/
theorem clone_any (w : World) (A : Option Addr) (n cap : Nat) (xs : List Value) (ho : w.ownsRow 0 83 4 (.slice A n cap) n xs) (h1 : ∀ u ∈ xs, u.oneCell' = true) (hn : n ≤ 1000000) :
    Calls Tryz.prog 75 #[.slice A n cap] w fun e w' => ∃ v, e = .returned v ∧ w'.ownsRow 0 83 4 v n xs ∧ Keeps [] w w' ∧ ∀ g ∈ fp v, w.heap.size ≤ g := by
  rcases A with _ | a
  · have hx : n = 0 ∧ cap = 0 := by
      rcases ho.2 with ⟨h, h0⟩ | ⟨g, c, cur, h, _⟩
      · injection h with _ _ h2; exact ⟨h0, h2⟩
      · injection h with h; cases h
    obtain ⟨rfl, rfl⟩ := hx
    have he := fun W => Lib.run_eql_slice_nil (P := Tryz.prog) W 49 83 none 0 0 0 0 Tryz.underlying49
    go_enter Tryz.func75, Tryz.ntmps75
    go_wp2
    go_ret
    exact ⟨_, rfl, ho, Keeps.refl _ _, by simp⟩
  · have he := fun W => Lib.run_eql_slice_nil (P := Tryz.prog) W 49 83 (some a) n cap 0 0 Tryz.underlying49
    go_enter Tryz.func75, Tryz.ntmps75
    go_wp2_with (at_builtin; refine wpList_app _ rfl (.tmp 5) (.tmp 6) _ rfl 83 (.agg #[.int .i64 0, .int .i64 0, .int .i64 0, .bool false]) 4 32 Tryz.underlying49 info83 rfl (by omega) (.slice (some ⟨w.heap.size, 0, none⟩) 0 0) 0 [] rfl (own_of_blk (Blk.new w 83 #[]) (by omega) (by omega) rfl rfl) _ _ _ _ xs rfl (reads_own (own_keep ho ((Keeps.refl [] _).alloc _) (by simp))) h1 (by unfold maxLen; omega) (by omega) ?_)
    intro v' w' ho' hk' hf'
    go_wp2
    go_ret
    have hk1 : Keeps [] w (w.alloc (.cells #[] 83)) := (Keeps.refl _ _).alloc _
    refine ⟨v', rfl, by simpa using ho', hk1.trans hk' (by simp), fun g hg => ?_⟩
    rcases hf' g hg with h2 | h2
    · have : g = w.heap.size := by simpa using h2
      omega
    · omega


theorem list_any (w : World) (F : List Nat) (p : Nat) (s : Tl) (hn : s.n ≤ 1000) (h : TlRep 95 w F p s) :
    Calls Tryz.prog 44 #[.pointer (some ⟨p, 0, none⟩)] w fun e w' => ∃ v, e = .returned v ∧ w'.ownsRow 0 83 4 v s.L.length (es s.L) ∧ Keeps [] w w' ∧ ∀ g ∈ fp v, w.heap.size ≤ g := by
  obtain ⟨A, cap, h⟩ := h
  have c1 : w.cell? ⟨p, 1, none⟩ = some (.slice A s.L.length cap) := h.b.cell 1
  have hm := h.m
  go_enter Tryz.func44, Tryz.ntmps44
  go_wp2_with fail
  refine (clone_any w A s.L.length cap _ h.o (es_one _) (by omega)).mono ?_
  rintro e w1 ⟨v, rfl, ho, hk, hf⟩
  go_wp2
  go_ret
  exact ⟨v, rfl, ho, hk, hf⟩

end Go.Proofs.YteognipfnbocpaaGreat.T13
namespace Go.Proofs.YteognipfnbocpaaGreat.T13
open Go.RowKit

/-- 'clear' of a slice of m entries. -/
theorem run_clear_n {P : Program} (w : World) (t e ty : TypeId) (z : Value) (zs : List Value) (m : Nat) (ht : P.underlying t = some (.slice e)) (hv : ∀ w, (zeroValue e).run P w = .ok z w) (hz : (Builtin.zeroCells z.cells (m + 1)).toList = zs) (h1 : ∀ v ∈ zs, v.oneCell' = true) (b o c : Nat)
    (hc : ∀ j, j < zs.length → (w.cell? ⟨b, o + j, none⟩).isSome = true) (hf : ∀ j, j < zs.length → w.frozen? ⟨b, o + j, none⟩ = false) :
    (Builtin.clear_ #[t] ty #[.slice (some ⟨b, o, none⟩) (m + 1) c]).run P w = .ok (.tuple #[]) (w.setCells b o zs) := by
  have hst := run_storeCells_cells (P := P) b o zs 0 w (by simpa using hc) (by simpa using hf) h1
  simp only [Nat.add_zero] at hst
  simp [Builtin.clear_, run_underlying ht, hv, hz, hst]
def zs34 (m : Nat) : List Value := (Builtin.zeroCells #[.int .i64 0, .int .i64 0, .int .i64 0, .bool false] m).toList
theorem zs34_len (m : Nat) : (zs34 m).length = m * 4 := by simp [zs34, Builtin.zeroCells]
theorem zs34_one (m : Nat) : ∀ v ∈ zs34 m, v.oneCell' = true := by
  intro v hv
  unfold zs34 Builtin.zeroCells at hv
  simp only [Array.toList_map, List.mem_map] at hv
  obtain ⟨i, -, rfl⟩ := hv
  have : i % 4 = 0 ∨ i % 4 = 1 ∨ i % 4 = 2 ∨ i % 4 = 3 := by omega
  rcases this with h | h | h | h <;> simp [h] <;> rfl
theorem run_clear34 (w : World) (b i n cap : Nat) (xs : List Value) (ho : w.ownsRow 0 83 4 (.slice (some ⟨b, 0, none⟩) n cap) n xs) (hi : i < n) (ty : TypeId) :
    (Builtin.clear_ #[49] ty #[.slice (some ⟨b, i * 4, none⟩) (n - i) (cap - i)]).run Tryz.prog w = .ok (.tuple #[]) (w.setCells b (i * 4) (zs34 (n - i))) := by
  obtain ⟨cur, hb, hnc, hcm, hcs, hx⟩ := own_blk ho
  obtain ⟨m, hm⟩ : ∃ m, n - i = m + 1 := ⟨n - i - 1, by omega⟩
  rw [hm]
  refine run_clear_n w 49 83 ty (.agg #[.int .i64 0, .int .i64 0, .int .i64 0, .bool false]) (zs34 (m + 1)) m Tryz.underlying49 (fun w => by kernel_rfl) rfl (zs34_one _) b (i * 4) (cap - i) (fun j hj => ?_) (fun j _ => hb.frozen _)
  rw [zs34_len] at hj
  rw [hb.cell, Array.getElem?_eq_getElem (by rw [hcs]; omega)]
  rfl
theorem own_clear {w : World} {b i n cap : Nat} {xs : List Value} (ho : w.ownsRow 0 83 4 (.slice (some ⟨b, 0, none⟩) n cap) n xs) (hi : i < n) :
    (w.setCells b (i * 4) (zs34 (n - i))).ownsRow 0 83 4 (.slice (some ⟨b, 0, none⟩) i cap) i (xs.take (i * 4)) := by
  obtain ⟨cur, hb, hnc, hcm, hcs, hx⟩ := own_blk ho
  have hl : i * 4 + (zs34 (n - i)).length ≤ cur.size := by rw [zs34_len, hcs]; omega
  refine own_of_blk (hb.setCells _ _ hl) (by omega) hcm ?_ ?_
  · rw [List.size_toArray, splice_len (by rw [Array.length_toList]; exact hl), Array.length_toList, hcs]
  · rw [List.toList_toArray]
    unfold splice
    rw [List.append_assoc, List.take_append_of_le_length (by rw [List.length_take, Array.length_toList, hcs]; omega), List.take_take, Nat.min_self, ← hx, List.take_take, Nat.min_eq_left (by omega)]
theorem es_set {L : List En} {i : Nat} (hi : i < L.length) (x : En) : ((((es L).set (i * 4) (.int .i64 x.s)).set (i * 4 + 1) (.int .i64 x.p)).set (i * 4 + 2) (.int .i64 x.f)).set (i * 4 + 3) (.bool x.w) = es (L.set i x) := by
  have h := rw_splice ec_len hi x
  have hl := es_len L
  show _ = rw ec (L.set i x)
  rw [← h]
  show _ = splice (es L) (i * 4) [.int .i64 x.s, .int .i64 x.p, .int .i64 x.f, .bool x.w]
  rw [← splice_cons _ _ _ _ (by simp [hl]; omega), ← splice_cons _ _ _ _ (by simp [hl]; omega), ← splice_cons _ _ _ _ (by simp [hl]; omega), ← splice_cons _ _ _ _ (by simp [hl]; omega), splice_nil]

/-- The list while DeleteFunc goes: i kept of the first j. -/
structure DF (q : En → Bool) (L M : List En) (i j : Nat) : Prop where
  l : M.length = L.length
  ij : i < j
  jn : j ≤ L.length
  t : M.take i = (L.take j).filter (fun e => !q e)
  d : M.drop j = L.drop j
theorem DF.start {q : En → Bool} {L : List En} {i : Nat} (h : L.findIdx? q = some i) : DF q L L i (i + 1) := by
  rw [List.findIdx?_eq_some_iff_getElem] at h
  obtain ⟨hi, hq, hb⟩ := h
  refine ⟨rfl, by omega, by omega, ?_, rfl⟩
  rw [List.take_succ_eq_append_getElem hi, List.filter_append, List.filter_eq_self.2 (fun x hx => ?_)]
  · simp [hq]
  · obtain ⟨j, hj, rfl⟩ := List.getElem_of_mem hx
    simp only [List.length_take] at hj
    have := hb j (by omega)
    simpa using this
theorem DF.get {q : En → Bool} {L M : List En} {i j : Nat} (h : DF q L M i j) (hj : j < L.length) : M[j]'(by rw [h.l]; exact hj) = L[j] := by
  have := h.d
  have h1 := congrArg (fun l => l[0]?) this
  simp only [List.getElem?_drop, Nat.add_zero] at h1
  rw [List.getElem?_eq_getElem (by rw [h.l]; exact hj), List.getElem?_eq_getElem hj] at h1
  injection h1
theorem DF.off {q : En → Bool} {L M : List En} {i j : Nat} (h : DF q L M i j) (hj : j < L.length) (hq : q L[j] = true) : DF q L M i (j + 1) := by
  have := h.ij
  refine ⟨h.l, by omega, by omega, ?_, ?_⟩
  · rw [List.take_succ_eq_append_getElem hj, List.filter_append, ← h.t]; simp [hq]
  · rw [← List.drop_drop, ← List.drop_drop, h.d]
theorem DF.on {q : En → Bool} {L M : List En} {i j : Nat} (h : DF q L M i j) (hj : j < L.length) (hq : q L[j] = false) : DF q L (M.set i L[j]) (i + 1) (j + 1) := by
  have hij := h.ij
  have hl := h.l
  refine ⟨by simp [hl], by omega, by omega, ?_, ?_⟩
  · rw [List.take_succ_eq_append_getElem hj, List.filter_append, ← h.t, List.take_succ_eq_append_getElem (by simp; omega)]
    simp [hq, List.take_set_of_le]
  · rw [List.drop_set_of_lt (by omega), ← List.drop_drop, ← List.drop_drop, h.d]
theorem DF.done {q : En → Bool} {L M : List En} {i : Nat} (h : DF q L M i L.length) : M.take i = L.filter (fun e => !q e) ∧ i = (L.filter (fun e => !q e)).length := by
  have h1 := h.t
  rw [List.take_length] at h1
  refine ⟨h1, ?_⟩
  rw [← h1, List.length_take, h.l]
  have := h.ij
  omega
end Go.Proofs.YteognipfnbocpaaGreat.T13
namespace Go.Proofs.YteognipfnbocpaaGreat.T13
open Go.RowKit

set_option maxRecDepth 100000 in
set_option maxHeartbeats 3200000 in
theorem deleteFunc_any (w : World) (A : Option Addr) (cap : Nat) (L : List En) (fn : Nat) (lb : Array Value) (q : En → Bool) (eg : ∀ args w, (callFunc fn args).run Tryz.prog w = .ok (.enter fn args) w)
    (hn : L.length ≤ 1000000) (ho : w.ownsRow 0 83 4 (.slice A L.length cap) L.length (es L)) (hp : PB (fp (.slice A L.length cap)) fn lb q w) :
    Calls Tryz.prog 88 #[.slice A L.length cap, .func (.func fn) #[] lb] w fun e w' => e = .returned (.slice A (L.filter (fun e => !q e)).length cap) ∧
      w'.ownsRow 0 83 4 (.slice A (L.filter (fun e => !q e)).length cap) (L.filter (fun e => !q e)).length (es (L.filter (fun e => !q e))) ∧ Keeps (fp (.slice A L.length cap)) w w' := by
  have hi := indexFunc_any w A cap L fn lb q eg hn ho (hp.less (by simp))
  cases hf : L.findIdx? q with
  | none =>
    rw [fidx_none hf] at hi
    have hL : L.filter (fun e => !q e) = L := by
      rw [List.filter_eq_self]
      intro x hx
      rw [List.findIdx?_eq_none_iff] at hf
      simpa using hf x hx
    rw [hL]
    have HI := Lib.hid hi
    have HO := Lib.hid ho
    clear hi hf hL hp ho
    go_enter Tryz.func88, Tryz.ntmps88
    go_wp2_with fail
    refine HI.out.mono ?_
    rintro e w1 ⟨rfl, k1⟩
    go_wp2
    go_ret
    exact ⟨rfl, own_keep HO.out k1 (by simp), k1.mono (by simp)⟩
  | some i =>
    rw [fidx_some hf] at hi
    have d0 := DF.start hf
    have hil : i < L.length := d0.jn
    obtain ⟨_, _, hv, hcap, hmax, hA⟩ := own_shape ho
    obtain ⟨rfl, -, rfl⟩ : A = _ ∧ L.length = _ ∧ cap = _ := by injection hv with h1 h2 h3; exact ⟨h1, rfl, h3⟩
    clear hv
    obtain ⟨g, rfl⟩ := hA (by omega)
    have hp : PB [g] fn lb q w := hp
    show Calls _ _ _ _ (fun e w' => _ ∧ _ ∧ Keeps [g] w w')
    have hgl : g < w.heap.size := own_lt ho (by simp)
    have HD := Lib.hid d0
    have t1 : ((i : Int) == -1) = false := by simp
    have HI := Lib.hid hi
    have hwr : IntKind.i64.wrap ((i : Int) + 1) = i + 1 := by rw [IntKind.wrap_i64]; omega
    clear hi hf d0 hA
    go_enter Tryz.func88, Tryz.ntmps88
    go_wp2_with fail
    refine HI.out.mono ?_
    rintro e w1 ⟨rfl, k1⟩
    have K1 : Keeps [g] w w1 := k1.mono (by simp)
    have o1 := own_keep ho k1 (by simp)
    clear HI k1 ho
    go_wp2
    go_loopw [5, 6, 7] (fun a b _ wr => ∃ (x j : Nat) (M : List En), a = .int .i64 x ∧ b = .int .i64 j ∧ Hid (DF q L M x j) ∧ x < j ∧ j ≤ L.length ∧ wr.ownsRow 0 83 4 (.slice (some ⟨g, 0, none⟩) L.length cap) L.length (es M) ∧ Keeps [g] w wr) (fun _ b _ _ => L.length - (intOf b).toNat)
    case atStart => exact ⟨i, i + 1, L, rfl, by go_num, HD, by omega, by omega, o1, K1⟩
    case round =>
      clear o1 K1 HD hwr t1 hil
      obtain ⟨x, j, M, rfl, rfl, D, hxj, hj, o, kp⟩ := hrel
      have hMl := D.out.l
      by_cases hlt : j < L.length
      · have ow := own_keep o ((Keeps.refl [] wr).alloc (.cells #[.int .i64 L[j].s, .int .i64 L[j].p, .int .i64 L[j].f, .bool L[j].w] 83)) (by simp)
        have hg := D.out.get hlt
        have c0 := own_cell o (j := j * 4) (u := .int .i64 L[j].s) (by rw [show j * 4 = j * 4 + 0 by omega, es_at (by omega) (by omega), hg]; rfl)
        have c1 := own_cell o (j := j * 4 + 1) (u := .int .i64 L[j].p) (by rw [es_at (by omega) (by omega), hg]; rfl)
        have c2 := own_cell o (j := j * 4 + 2) (u := .int .i64 L[j].f) (by rw [es_at (by omega) (by omega), hg]; rfl)
        have c3 := own_cell o (j := j * 4 + 3) (u := .bool L[j].w) (by rw [es_at (by omega) (by omega), hg]; rfl)
        have bA : Blk (wr.alloc (.cells #[.int .i64 L[j].s, .int .i64 L[j].p, .int .i64 L[j].f, .bool L[j].w] 83)) wr.heap.size 83 #[.int .i64 L[j].s, .int .i64 L[j].p, .int .i64 L[j].f, .bool L[j].w] := Blk.new _ _ _
        have kA : Keeps [g] w (wr.alloc (.cells #[.int .i64 L[j].s, .int .i64 L[j].p, .int .i64 L[j].f, .bool L[j].w] 83)) := kp.alloc _
        have hc := hp _ L[j] kA
        cases hq : q L[j] with
        | true =>
          rw [hq] at hc
          have D1 := Lib.hid (D.out.off hlt hq)
          have HC := Lib.hid hc
          clear hq hc D hg
          go_wp2_with (go_at_fn fn; refine HC.out.mono ?_; rintro e w4 ⟨rfl, k4⟩)
          have o4 := own_keep ow k4 (by simp)
          have K4 := kA.trans k4 (by simp)
          clear o kp ow kA bA k4
          go_roundw
          case rel => exact ⟨x, j + 1, M, by go_num, by go_num, D1, by omega, by omega, o4, K4⟩
          case measure => simp [intOf]; omega
        | false =>
          rw [hq] at hc
          have D1 := Lib.hid (D.out.on hlt hq)
          have HC := Lib.hid hc
          clear hq hc D hg
          have hxn : x < L.length := by omega
          have HM := Lib.hid (fun (W : World) (o4 : W.ownsRow 0 83 4 (.slice (some ⟨g, 0, none⟩) L.length cap) L.length (es M)) => And.intro (own_cell o4 (j := x * 4) (u := .int .i64 (M[x]'(by omega)).s) (by rw [show x * 4 = x * 4 + 0 by omega, es_at (by omega) (by omega)]; rfl)) (And.intro (own_cell o4 (j := x * 4 + 1) (u := .int .i64 (M[x]'(by omega)).p) (by rw [es_at (by omega) (by omega)]; rfl)) (And.intro (own_cell o4 (j := x * 4 + 2) (u := .int .i64 (M[x]'(by omega)).f) (by rw [es_at (by omega) (by omega)]; rfl)) (own_cell o4 (j := x * 4 + 3) (u := .bool (M[x]'(by omega)).w) (by rw [es_at (by omega) (by omega)]; rfl)))))
          have hwx : IntKind.i64.wrap ((x : Int) + 1) = x + 1 := by rw [IntKind.wrap_i64]; omega
          go_wp2_with (go_at_fn fn; refine HC.out.mono ?_; rintro e w4 ⟨rfl, k4⟩; have b4 := bA.keep k4 (by simp); have y0 : w4.cell? ⟨wr.heap.size, 0, none⟩ = some (.int .i64 L[j].s) := b4.cell 0; have y1 : w4.cell? ⟨wr.heap.size, 1, none⟩ = some (.int .i64 L[j].p) := b4.cell 1; have y2 : w4.cell? ⟨wr.heap.size, 2, none⟩ = some (.int .i64 L[j].f) := b4.cell 2; have y3 : w4.cell? ⟨wr.heap.size, 3, none⟩ = some (.bool L[j].w) := b4.cell 3; have o4 := own_keep ow k4 (by simp); have z0 := own_free o4 (x * 4); have z1 := own_free o4 (x * 4 + 1); have z2 := own_free o4 (x * 4 + 2); have z3 := own_free o4 (x * 4 + 3); obtain ⟨m0, m1, m2, m3⟩ := HM.out _ o4)
          have K4 := kA.trans k4 (by simp)
          have o5 := own_set (own_set (own_set (own_set o4 (x * 4) (.int .i64 L[j].s)) (x * 4 + 1) (.int .i64 L[j].p)) (x * 4 + 2) (.int .i64 L[j].f)) (x * 4 + 3) (.bool L[j].w)
          rw [es_set (by omega)] at o5
          have K5 := (((K4.setCell (p := ⟨g, x * 4, none⟩) (.inl (by simp)) (.int .i64 L[j].s)).setCell (p := ⟨g, x * 4 + 1, none⟩) (.inl (by simp)) (.int .i64 L[j].p)).setCell (p := ⟨g, x * 4 + 2, none⟩) (.inl (by simp)) (.int .i64 L[j].f)).setCell (p := ⟨g, x * 4 + 3, none⟩) (.inl (by simp)) (.bool L[j].w)
          clear o kp ow kA bA k4 b4 o4 K4
          go_roundw
          case rel => exact ⟨x + 1, j + 1, _, by go_num, by go_num, D1, by omega, by omega, o5, K5⟩
          case measure => simp [intOf]; omega
      · obtain rfl : j = L.length := by omega
        obtain ⟨dt, dl⟩ := D.out.done
        have hcl := fun ty => run_clear34 wr g x L.length cap _ o (by omega) ty
        have o6 := own_clear o (i := x) (by omega)
        rw [es_take, dt] at o6
        have k6 : Keeps [g] w (wr.setCells g (x * 4) (zs34 (L.length - x))) := kp.setCells _ _ (.inl (by simp))
        have HE := Lib.hid dl
        have hx0 : x ≤ cap := by omega
        have hx1 : cap ≠ x := by omega
        clear D dt dl o kp
        go_wp2_with fail
        go_ret
        have he := HE.out
        clear HE hcl
        subst he
        exact ⟨rfl, o6, k6⟩

/-- What a method leaves: the cache s', in old blocks of its own and in new ones. -/
def Next (T : TypeId) (w w' : World) (F : List Nat) (p : Nat) (s' : Tl) : Prop := ∃ F', TlRep T w' F' p s' ∧ Keeps F w w' ∧ ∀ g ∈ F', g ∈ F ∨ w.heap.size ≤ g
theorem Next.same {T : TypeId} {w w' : World} {F : List Nat} {p : Nat} {s' : Tl} (h : TlRep T w' F p s') (hk : Keeps F w w') : Next T w w' F p s' := ⟨F, h, hk, fun _ hg => .inl hg⟩
theorem fp_any (A : Option Addr) (n c m d : Nat) : fp (.slice A n c) = fp (.slice A m d) := by cases A <;> rfl
theorem filter_le (L : List En) (q : En → Bool) : (L.filter q).length ≤ L.length := List.length_filter_le q L
set_option maxRecDepth 100000 in
set_option maxHeartbeats 1600000 in
theorem remove_any (w : World) (F : List Nat) (p : Nat) (s : Tl) (fn : Nat) (lb : Array Value) (q : En → Bool) (eg : ∀ args w, (callFunc fn args).run Tryz.prog w = .ok (.enter fn args) w)
    (hn : s.n ≤ 1000) (h : TlRep 95 w F p s) (hp : PB F fn lb q w) :
    Calls Tryz.prog 76 #[.pointer (some ⟨p, 0, none⟩), .func (.func fn) #[] lb] w fun e w' => e = .returned (.int .i64 ((s.L.length : Int) - (s.drop q).L.length)) ∧ TlRep 95 w' F p (s.drop q) ∧ Keeps F w w' := by
  obtain ⟨A, cap, h⟩ := h
  have hm := h.m
  have hf := h.f
  have c1 : w.cell? ⟨p, 1, none⟩ = some (.slice A s.L.length cap) := h.b.cell 1
  have hd := deleteFunc_any w A cap s.L fn lb q eg (by omega) h.o (hp.less (by rw [hf]; intro x hx; simp [hx]))
  have hl := filter_le s.L (fun e => !q e)
  have hoff := h.off
  have HB := Lib.hid h.b
  have HD := Lib.hid hd
  have hwr : IntKind.i64.wrap ((s.L.length : Int) - ((s.L.filter (fun e => !q e)).length : Nat)) = (s.L.length : Int) - ((s.L.filter (fun e => !q e)).length : Nat) := by rw [IntKind.wrap_i64]; omega
  have ht := h.t
  clear hd h hp
  show Calls _ _ _ _ (fun e w' => e = .returned (.int .i64 ((s.L.length : Int) - ((s.L.filter (fun e => !q e)).length : Nat))) ∧ TlRep 95 w' F p ⟨s.n, s.L.filter (fun e => !q e)⟩ ∧ _)
  generalize s.L.filter (fun e => !q e) = M at *
  go_enter Tryz.func76, Tryz.ntmps76
  go_wp2_with fail
  refine HD.out.mono ?_
  rintro e w1 ⟨rfl, o1, k1⟩
  have b1 := HB.out.keep k1 hoff
  have d1 : w1.cell? ⟨p, 1, none⟩ = some (.slice A s.L.length cap) := b1.cell 1
  have f1 := b1.frozen 1
  clear c1
  go_wp2
  go_ret
  have hF : F = p :: fp (.slice A M.length cap) := by rw [hf, fp_any]
  refine ⟨rfl, ⟨A, cap, hF, b1.set_ 1 _, own_far o1 (by rw [fp_any A M.length cap s.L.length cap]; exact hoff) _, by show M.length ≤ s.n; omega, ht⟩, ?_⟩
  exact ((k1.mono (G := F) (by rw [hf]; intro x hx; simp [hx])).setCell (.inl (by rw [hf]; simp)) _)

theorem keepB {F : List Nat} {p : Nat} {s : Tl} {w : World} (h : TlRep 95 w F p s) : w.heap.size ∉ F ∧ w.heap.size + 1 ∉ F := ⟨fun x => by have := h.lt _ x; omega, fun x => by have := h.lt _ x; omega⟩
theorem drop_any (w : World) (F : List Nat) (p : Nat) (s : Tl) (x y : Int) (hn : s.n ≤ 1000) (h : TlRep 95 w F p s) :
    Calls Tryz.prog 48 #[.pointer (some ⟨p, 0, none⟩), .int .i64 x, .int .i64 y] w fun e w' => e = .returned (.int .i64 ((s.L.length : Int) - (s.drop (fun e => e.is x y)).L.length)) ∧ TlRep 95 w' F p (s.drop (fun e => e.is x y)) ∧ Keeps F w w' := by
  obtain ⟨n1, n2⟩ := keepB h
  have kk : Keeps [] w ((w.alloc (.cells #[.int .i64 x] 3)).alloc (.cells #[.int .i64 y] 3)) := ((Keeps.refl _ _).alloc _).alloc _
  have pr := at_pred F ((w.alloc (.cells #[.int .i64 x] 3)).alloc (.cells #[.int .i64 y] 3)) w.heap.size (w.heap.size + 1) x y ((Blk.new _ _ _).alloc _) (by simpa using Blk.new (w.alloc (.cells #[.int .i64 x] 3)) 3 #[.int .i64 y]) n1 n2
  have hr := remove_any _ F p s 89 _ _ enters89 hn (h.keep kk (by simp)) pr
  have HR := Lib.hid hr
  clear hr pr
  go_enter Tryz.func48, Tryz.ntmps48
  go_wp2_with fail
  refine (at_any _ x y).mono ?_
  rintro e w1 ⟨rfl, rfl⟩
  go_wp2_with fail
  refine HR.out.mono ?_
  rintro e w2 ⟨rfl, r2, k2⟩
  go_wp2
  go_ret
  exact ⟨rfl, r2, (kk.mono (by simp)).trans k2 (fun _ hx => .inl hx)⟩
theorem dropFrame_any (w : World) (F : List Nat) (p : Nat) (s : Tl) (x : Int) (hn : s.n ≤ 1000) (h : TlRep 95 w F p s) :
    Calls Tryz.prog 54 #[.pointer (some ⟨p, 0, none⟩), .int .i64 x] w fun e w' => e = .returned (.int .i64 ((s.L.length : Int) - (s.drop (fun e => e.f == x)).L.length)) ∧ TlRep 95 w' F p (s.drop (fun e => e.f == x)) ∧ Keeps F w w' := by
  obtain ⟨n1, n2⟩ := keepB h
  have kk : Keeps [] w (w.alloc (.cells #[.int .i64 x] 3)) := (Keeps.refl _ _).alloc _
  have pr := frame_pred F (w.alloc (.cells #[.int .i64 x] 3)) w.heap.size x (Blk.new _ _ _) n1
  have hr := remove_any _ F p s 81 _ _ enters81 hn (h.keep kk (by simp)) pr
  have HR := Lib.hid hr
  clear hr pr
  go_enter Tryz.func54, Tryz.ntmps54
  go_wp2_with fail
  refine HR.out.mono ?_
  rintro e w2 ⟨rfl, r2, k2⟩
  go_wp2
  go_ret
  exact ⟨rfl, r2, (kk.mono (by simp)).trans k2 (fun _ hx => .inl hx)⟩
theorem flush_any (w : World) (F : List Nat) (p : Nat) (s : Tl) (x : Int) (hn : s.n ≤ 1000) (h : TlRep 95 w F p s) :
    Calls Tryz.prog 57 #[.pointer (some ⟨p, 0, none⟩), .int .i64 x] w fun e w' => e = .returned (.int .i64 ((s.L.length : Int) - (s.drop (fun e => e.s == x)).L.length)) ∧ TlRep 95 w' F p (s.drop (fun e => e.s == x)) ∧ Keeps F w w' := by
  obtain ⟨n1, n2⟩ := keepB h
  have kk : Keeps [] w (w.alloc (.cells #[.int .i64 x] 3)) := (Keeps.refl _ _).alloc _
  have pr := space_pred F (w.alloc (.cells #[.int .i64 x] 3)) w.heap.size x (Blk.new _ _ _) n1
  have hr := remove_any _ F p s 82 _ _ enters82 hn (h.keep kk (by simp)) pr
  have HR := Lib.hid hr
  clear hr pr
  go_enter Tryz.func57, Tryz.ntmps57
  go_wp2_with fail
  refine HR.out.mono ?_
  rintro e w2 ⟨rfl, r2, k2⟩
  go_wp2
  go_ret
  exact ⟨rfl, r2, (kk.mono (by simp)).trans k2 (fun _ hx => .inl hx)⟩
end Go.Proofs.YteognipfnbocpaaGreat.T13
