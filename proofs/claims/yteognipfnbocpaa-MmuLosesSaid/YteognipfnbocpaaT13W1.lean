/- The cache in memory; the closures; slices.IndexFunc. -/
import Derived.Test.YteognipfnbocpaaT13P1
import Derived.BigRegion
import Derived.Deep.QuietTactic
import Derived.BigQuiet
import Derived.WalkLawsBesides
import Derived.WalkSpells
import Derived.Handy
import Derived.Deep.RegionHeld3
import Derived.Laws.MakeOwn
import Derived.KernelRfl
import Derived.Shelf.Abstract
import Derived.Deep.LoopGhost
namespace Go.Proofs.Yteognipfnbocpaa.T13
open Go.RowKit

/-- The cache t lies at block p, as a struct of type T; F are all its blocks. -/
structure TlAt (T : TypeId) (w : World) (F : List Nat) (p : Nat) (t : Tl) (A : Option Addr) (cap : Nat) : Prop where
  f : F = p :: fp (.slice A t.L.length cap)
  b : Blk w p T #[.int .i64 t.n, .slice A t.L.length cap]
  o : w.ownsRow 0 41 4 (.slice A t.L.length cap) t.L.length (es t.L)
  m : t.L.length ≤ t.n
  t : T ≠ 41
def TlRep (T : TypeId) (w : World) (F : List Nat) (p : Nat) (t : Tl) : Prop := ∃ A cap, TlAt T w F p t A cap
section
variable {T : TypeId} {w w' : World} {F G : List Nat} {p : Nat} {s : Tl} {A : Option Addr} {cap : Nat}
theorem TlAt.off (h : TlAt T w F p s A cap) : p ∉ fp (.slice A s.L.length cap) := own_blk_off h.o h.b (fun e => h.t e.symm)
theorem TlRep.lt (h : TlRep T w F p s) : ∀ g ∈ F, g < w.heap.size := by
  obtain ⟨A, cap, h⟩ := h
  intro g hg
  rw [h.f] at hg
  rcases List.mem_cons.1 hg with rfl | hg
  · exact h.b.lt
  · exact own_lt h.o hg
theorem TlRep.keep (h : TlRep T w F p s) (hk : Keeps G w w') (hd : ∀ g ∈ F, g ∉ G) : TlRep T w' F p s := by
  obtain ⟨A, cap, h⟩ := h
  have hf := h.f
  exact ⟨A, cap, hf, h.b.keep hk (hd p (by rw [hf]; simp)), own_keep h.o hk (fun g hg => hd g (by rw [hf]; simp [hg])), h.m, h.t⟩
theorem TlRep.len (h : TlRep T w F p s) : s.L.length ≤ s.n := by obtain ⟨A, cap, h⟩ := h; exact h.m
end
/-- What is asked of a predicate on entries: a function value. F: what may have turned since w. -/
def PB (F : List Nat) (g : Nat) (lb : Array Value) (q : En → Bool) (w : World) : Prop :=
  ∀ (W : World) (x : En), Keeps F w W → Calls Try.prog g (#[.agg (ec x).toArray] ++ lb) W fun e w' => e = .returned (.bool (q x)) ∧ Keeps [] W w'
theorem PB.keep {F G : List Nat} {g : Nat} {lb : Array Value} {q : En → Bool} {w w' : World} (h : PB F g lb q w) (hk : Keeps G w w') (hG : ∀ x ∈ G, x ∈ F) : PB F g lb q w' :=
  fun W x hW => h W x ((hk.mono hG).trans hW (fun _ hx => .inl hx))
theorem PB.less {F G : List Nat} {g : Nat} {lb : Array Value} {q : En → Bool} {w : World} (h : PB F g lb q w) (hG : ∀ x ∈ G, x ∈ F) : PB G g lb q w :=
  fun W x hW => h W x (hW.mono hG)

/-- The index of the first that q holds of, or -1. -/
def fidx (q : En → Bool) (L : List En) : Int := match L.findIdx? q with | none => -1 | some i => (i : Int)
theorem fidx_some {q : En → Bool} {L : List En} {i : Nat} (h : L.findIdx? q = some i) : fidx q L = i := by unfold fidx; rw [h]
theorem fidx_none {q : En → Bool} {L : List En} (h : L.findIdx? q = none) : fidx q L = -1 := by unfold fidx; rw [h]
set_option maxRecDepth 100000 in
set_option maxHeartbeats 1600000 in
theorem indexFunc_any (w : World) (A : Option Addr) (cap : Nat) (L : List En) (g : Nat) (lb : Array Value) (q : En → Bool) (eg : ∀ args w, (callFunc g args).run Try.prog w = .ok (.enter g args) w)
    (hn : L.length ≤ 1000000) (ho : w.ownsRow 0 41 4 (.slice A L.length cap) L.length (es L)) (hp : PB [] g lb q w) :
    Calls Try.prog 57 #[.slice A L.length cap, .func (.func g) #[] lb] w fun e w' => e = .returned (.int .i64 (fidx q L)) ∧ Keeps [] w w' := by
  obtain ⟨_, _, hv, -, -, hA⟩ := own_shape ho
  obtain ⟨rfl, -, rfl⟩ : A = _ ∧ L.length = _ ∧ cap = _ := by injection hv with h1 h2 h3; exact ⟨h1, rfl, h3⟩
  clear hv
  go_enter Try.func57, Try.ntmps57
  go_wp2
  go_loopw [5, 8] (fun _ i wr => ∃ k : Nat, k ≤ L.length ∧ i = .int .i64 k ∧ (∀ j (h : j < L.length), j < k → q L[j] = false) ∧ Keeps [] w wr) (fun _ i _ => L.length - (intOf i).toNat)
  case atStart => exact ⟨0, by omega, rfl, fun _ _ h => absurd h (by omega), Keeps.refl _ _⟩
  case round =>
    obtain ⟨k, hk, rfl, hst, kp⟩ := hrel
    by_cases hlt : k < L.length
    · obtain ⟨b, rfl⟩ := hA (by omega)
      have ow := own_keep ho kp (by simp)
      have c0 := own_cell ow (j := k * 4) (u := .int .i64 L[k].s) (by rw [show k * 4 = k * 4 + 0 by omega, es_at hlt (by omega)]; rfl)
      have c1 := own_cell ow (j := k * 4 + 1) (u := .int .i64 L[k].p) (by rw [es_at hlt (by omega)]; rfl)
      have c2 := own_cell ow (j := k * 4 + 2) (u := .int .i64 L[k].f) (by rw [es_at hlt (by omega)]; rfl)
      have c3 := own_cell ow (j := k * 4 + 3) (u := .bool L[k].w) (by rw [es_at hlt (by omega)]; rfl)
      have hc := hp wr L[k] kp
      have HST := Lib.hid hst
      clear hst hp ho
      cases hq : q L[k] with
      | true =>
        rw [hq] at hc
        have hf : L.findIdx? q = some k := by
          rw [List.findIdx?_eq_some_iff_getElem]
          exact ⟨hlt, hq, fun j hj => by simpa using HST.out j (by omega) hj⟩
        have HF := Lib.hid (fidx_some hf)
        clear hf hq
        go_wp2_with (go_at_fn g; refine hc.mono ?_; rintro e w' ⟨rfl, hb'⟩)
        go_ret
        rw [HF.out]
        exact ⟨rfl, kp.trans hb' (by simp)⟩
      | false =>
        rw [hq] at hc
        have HQ := Lib.hid hq
        clear hq
        go_wp2_with (go_at_fn g; refine hc.mono ?_; rintro e w' ⟨rfl, hb'⟩)
        go_roundw
        case rel =>
          refine ⟨k + 1, by omega, by go_num, fun j hj hjk => ?_, kp.trans hb' (by simp)⟩
          by_cases e : j = k
          · subst e; exact HQ.out
          · exact HST.out j hj (by omega)
        case measure => simp [intOf]; omega
    · obtain rfl : k = L.length := by omega
      have hf : L.findIdx? q = none := by
        rw [List.findIdx?_eq_none_iff]
        intro x hx
        obtain ⟨j, hj, rfl⟩ := List.getElem_of_mem hx
        exact hst j hj hj
      have HF := Lib.hid (fidx_none hf)
      clear hf hst
      go_wp2
      go_ret
      rw [HF.out]
      exact ⟨rfl, kp⟩

/-- The closure of at, of DropFrame, of Flush. -/
theorem enters64 : ∀ (args : Array Value) (w : World), (callFunc 64 args).run Try.prog w = .ok (.enter 64 args) w := enters_of Try.func64 (by kernel_rfl) rfl
theorem enters51 : ∀ (args : Array Value) (w : World), (callFunc 51 args).run Try.prog w = .ok (.enter 51 args) w := enters_of Try.func51 (by kernel_rfl) rfl
theorem enters55 : ∀ (args : Array Value) (w : World), (callFunc 55 args).run Try.prog w = .ok (.enter 55 args) w := enters_of Try.func55 (by kernel_rfl) rfl
theorem at_pred (F : List Nat) (w : World) (b1 b2 : Nat) (s p : Int) (h1 : Blk w b1 3 #[.int .i64 s]) (h2 : Blk w b2 3 #[.int .i64 p]) (n1 : b1 ∉ F) (n2 : b2 ∉ F) :
    PB F 64 #[.pointer (some ⟨b1, 0, none⟩), .pointer (some ⟨b2, 0, none⟩)] (fun e => e.is s p) w := by
  intro W x hW
  have c1 : W.cell? ⟨b1, 0, none⟩ = some (.int .i64 s) := (h1.keep hW n1).cell 0
  have c2 : W.cell? ⟨b2, 0, none⟩ = some (.int .i64 p) := (h2.keep hW n2).cell 0
  have l1 : b1 < W.heap.size := (h1.keep hW n1).lt
  have l2 : b2 < W.heap.size := (h2.keep hW n2).lt
  have kk : Keeps [] W (W.alloc (.cells #[.int .i64 x.s, .int .i64 x.p, .int .i64 x.f, .bool x.w] 41)) := (Keeps.refl _ _).alloc _
  show Calls Try.prog 64 #[.agg #[.int .i64 x.s, .int .i64 x.p, .int .i64 x.f, .bool x.w], .pointer (some ⟨b1, 0, none⟩), .pointer (some ⟨b2, 0, none⟩)] W _
  cases e1 : x.s == s with
  | true =>
    have H := Lib.hid (show x.is s p = (x.p == p) by unfold En.is; rw [e1]; rfl)
    go_enter Try.func64, Try.ntmps64
    go_wp2
    go_ret
    rw [H.out]
    exact ⟨rfl, kk⟩
  | false =>
    have H := Lib.hid (show x.is s p = false by unfold En.is; rw [e1]; rfl)
    go_enter Try.func64, Try.ntmps64
    go_wp2
    go_ret
    rw [H.out]
    exact ⟨rfl, kk⟩
theorem frame_pred (F : List Nat) (w : World) (b1 : Nat) (s : Int) (h1 : Blk w b1 3 #[.int .i64 s]) (n1 : b1 ∉ F) :
    PB F 51 #[.pointer (some ⟨b1, 0, none⟩)] (fun e => e.f == s) w := by
  intro W x hW
  have c1 : W.cell? ⟨b1, 0, none⟩ = some (.int .i64 s) := (h1.keep hW n1).cell 0
  have l1 : b1 < W.heap.size := (h1.keep hW n1).lt
  have kk : Keeps [] W (W.alloc (.cells #[.int .i64 x.s, .int .i64 x.p, .int .i64 x.f, .bool x.w] 41)) := (Keeps.refl _ _).alloc _
  show Calls Try.prog 51 #[.agg #[.int .i64 x.s, .int .i64 x.p, .int .i64 x.f, .bool x.w], .pointer (some ⟨b1, 0, none⟩)] W _
  go_enter Try.func51, Try.ntmps51
  go_wp2
  go_ret
  exact ⟨rfl, kk⟩
theorem space_pred (F : List Nat) (w : World) (b1 : Nat) (s : Int) (h1 : Blk w b1 3 #[.int .i64 s]) (n1 : b1 ∉ F) :
    PB F 55 #[.pointer (some ⟨b1, 0, none⟩)] (fun e => e.s == s) w := by
  intro W x hW
  have c1 : W.cell? ⟨b1, 0, none⟩ = some (.int .i64 s) := (h1.keep hW n1).cell 0
  have l1 : b1 < W.heap.size := (h1.keep hW n1).lt
  have kk : Keeps [] W (W.alloc (.cells #[.int .i64 x.s, .int .i64 x.p, .int .i64 x.f, .bool x.w] 41)) := (Keeps.refl _ _).alloc _
  show Calls Try.prog 55 #[.agg #[.int .i64 x.s, .int .i64 x.p, .int .i64 x.f, .bool x.w], .pointer (some ⟨b1, 0, none⟩)] W _
  go_enter Try.func55, Try.ntmps55
  go_wp2
  go_ret
  exact ⟨rfl, kk⟩
theorem at_any (w : World) (s p : Int) : Calls Try.prog 56 #[.int .i64 s, .int .i64 p] w fun e w' => e = .returned (.func (.func 64) #[] #[.pointer (some ⟨w.heap.size, 0, none⟩), .pointer (some ⟨w.heap.size + 1, 0, none⟩)]) ∧ w' = (w.alloc (.cells #[.int .i64 s] 3)).alloc (.cells #[.int .i64 p] 3) := by
  go_enter Try.func56, Try.ntmps56
  go_wp2
  go_ret
  exact ⟨by simp, rfl⟩
theorem new_any (w : World) (n : Int) (h1 : -9223372036854775808 ≤ n) (h2 : n ≤ 9223372036854775807) : Calls Try.prog 21 #[.int .i64 n] w fun e w' => ∃ F p, e = .returned (.pointer (some ⟨p, 0, none⟩)) ∧ TlRep 83 w' F p ⟨n.toNat, []⟩ ∧ Keeps [] w w' ∧ ∀ g ∈ F, w.heap.size ≤ g := by
  have hmx : max 0 n = (n.toNat : Int) := by omega
  have hmx2 : max n 0 = (n.toNat : Int) := by omega
  generalize n.toNat = m at *
  go_enter Try.func21, Try.ntmps21
  go_wp2
  · go_ret
    have e : n = (m : Int) := by omega
    subst e
    exact ⟨[w.heap.size], w.heap.size, rfl, ⟨none, 0, rfl, Blk.new _ _ _, World.ownsRow_nil _ _ _ _, by simp, by decide⟩, (Keeps.refl _ _).alloc _, by simp⟩
  · go_ret
    obtain rfl : m = 0 := by omega
    exact ⟨[w.heap.size], w.heap.size, rfl, ⟨none, 0, rfl, Blk.new _ _ _, World.ownsRow_nil _ _ _ _, by simp, by decide⟩, (Keeps.refl _ _).alloc _, by simp⟩
end Go.Proofs.Yteognipfnbocpaa.T13
