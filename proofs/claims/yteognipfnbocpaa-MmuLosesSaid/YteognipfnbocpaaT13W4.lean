/- slices.DeleteFunc: the walk. -/
import Derived.Test.YteognipfnbocpaaT13W3
namespace Go.Proofs.Yteognipfnbocpaa.T13
open Go.RowKit

set_option maxRecDepth 100000 in
set_option maxHeartbeats 3200000 in
theorem deleteFunc_any (w : World) (A : Option Addr) (cap : Nat) (L : List En) (fn : Nat) (lb : Array Value) (q : En → Bool) (eg : ∀ args w, (callFunc fn args).run Try.prog w = .ok (.enter fn args) w)
    (hn : L.length ≤ 1000000) (ho : w.ownsRow 0 41 4 (.slice A L.length cap) L.length (es L)) (hp : PB (fp (.slice A L.length cap)) fn lb q w) :
    Calls Try.prog 60 #[.slice A L.length cap, .func (.func fn) #[] lb] w fun e w' => e = .returned (.slice A (L.filter (fun e => !q e)).length cap) ∧
      w'.ownsRow 0 41 4 (.slice A (L.filter (fun e => !q e)).length cap) (L.filter (fun e => !q e)).length (es (L.filter (fun e => !q e))) ∧ Keeps (fp (.slice A L.length cap)) w w' := by
  have hi := indexFunc_any w A cap L fn lb q eg hn ho (hp.less (by simp))
  cases hf : L.findIdx? q with
  | none =>
    rw [fidx_none hf] at hi
    have hL : L.filter (fun e => !q e) = L := by
      rw [List.filter_eq_self]
      intro x hx
      rw [List.findIdx?_eq_none_iff] at hf
      simpa using hf x hx
    rw [hL]
    have HI := Lib.hid hi
    have HO := Lib.hid ho
    clear hi hf hL hp ho
    go_enter Try.func60, Try.ntmps60
    go_wp2_with fail
    refine HI.out.mono ?_
    rintro e w1 ⟨rfl, k1⟩
    go_wp2
    go_ret
    exact ⟨rfl, own_keep HO.out k1 (by simp), k1.mono (by simp)⟩
  | some i =>
    rw [fidx_some hf] at hi
    have d0 := DF.start hf
    have hil : i < L.length := d0.jn
    obtain ⟨_, _, hv, hcap, hmax, hA⟩ := own_shape ho
    obtain ⟨rfl, -, rfl⟩ : A = _ ∧ L.length = _ ∧ cap = _ := by injection hv with h1 h2 h3; exact ⟨h1, rfl, h3⟩
    clear hv
    obtain ⟨g, rfl⟩ := hA (by omega)
    have hp : PB [g] fn lb q w := hp
    show Calls _ _ _ _ (fun e w' => _ ∧ _ ∧ Keeps [g] w w')
    have hgl : g < w.heap.size := own_lt ho (by simp)
    have HD := Lib.hid d0
    have t1 : ((i : Int) == -1) = false := by simp
    have HI := Lib.hid hi
    have hwr : IntKind.i64.wrap ((i : Int) + 1) = i + 1 := by rw [IntKind.wrap_i64]; omega
    clear hi hf d0 hA
    go_enter Try.func60, Try.ntmps60
    go_wp2_with fail
    refine HI.out.mono ?_
    rintro e w1 ⟨rfl, k1⟩
    have K1 : Keeps [g] w w1 := k1.mono (by simp)
    have o1 := own_keep ho k1 (by simp)
    clear HI k1 ho
    go_wp2
    go_loopw [5, 6, 7] (fun a b _ wr => ∃ (x j : Nat) (M : List En), a = .int .i64 x ∧ b = .int .i64 j ∧ Hid (DF q L M x j) ∧ x < j ∧ j ≤ L.length ∧ wr.ownsRow 0 41 4 (.slice (some ⟨g, 0, none⟩) L.length cap) L.length (es M) ∧ Keeps [g] w wr) (fun _ b _ _ => L.length - (intOf b).toNat)
    case atStart => exact ⟨i, i + 1, L, rfl, by go_num, HD, by omega, by omega, o1, K1⟩
    case round =>
      clear o1 K1 HD hwr t1 hil
      obtain ⟨x, j, M, rfl, rfl, D, hxj, hj, o, kp⟩ := hrel
      have hMl := D.out.l
      by_cases hlt : j < L.length
      · have ow := own_keep o ((Keeps.refl [] wr).alloc (.cells #[.int .i64 L[j].s, .int .i64 L[j].p, .int .i64 L[j].f, .bool L[j].w] 41)) (by simp)
        have hg := D.out.get hlt
        have c0 := own_cell o (j := j * 4) (u := .int .i64 L[j].s) (by rw [show j * 4 = j * 4 + 0 by omega, es_at (by omega) (by omega), hg]; rfl)
        have c1 := own_cell o (j := j * 4 + 1) (u := .int .i64 L[j].p) (by rw [es_at (by omega) (by omega), hg]; rfl)
        have c2 := own_cell o (j := j * 4 + 2) (u := .int .i64 L[j].f) (by rw [es_at (by omega) (by omega), hg]; rfl)
        have c3 := own_cell o (j := j * 4 + 3) (u := .bool L[j].w) (by rw [es_at (by omega) (by omega), hg]; rfl)
        have bA : Blk (wr.alloc (.cells #[.int .i64 L[j].s, .int .i64 L[j].p, .int .i64 L[j].f, .bool L[j].w] 41)) wr.heap.size 41 #[.int .i64 L[j].s, .int .i64 L[j].p, .int .i64 L[j].f, .bool L[j].w] := Blk.new _ _ _
        have kA : Keeps [g] w (wr.alloc (.cells #[.int .i64 L[j].s, .int .i64 L[j].p, .int .i64 L[j].f, .bool L[j].w] 41)) := kp.alloc _
        have hc := hp _ L[j] kA
        cases hq : q L[j] with
        | true =>
          rw [hq] at hc
          have D1 := Lib.hid (D.out.off hlt hq)
          have HC := Lib.hid hc
          clear hq hc D hg
          go_wp2_with (go_at_fn fn; refine HC.out.mono ?_; rintro e w4 ⟨rfl, k4⟩)
          have o4 := own_keep ow k4 (by simp)
          have K4 := kA.trans k4 (by simp)
          clear o kp ow kA bA k4
          go_roundw
          case rel => exact ⟨x, j + 1, M, by go_num, by go_num, D1, by omega, by omega, o4, K4⟩
          case measure => simp [intOf]; omega
        | false =>
          rw [hq] at hc
          have D1 := Lib.hid (D.out.on hlt hq)
          have HC := Lib.hid hc
          clear hq hc D hg
          have hxn : x < L.length := by omega
          have HM := Lib.hid (fun (W : World) (o4 : W.ownsRow 0 41 4 (.slice (some ⟨g, 0, none⟩) L.length cap) L.length (es M)) => And.intro (own_cell o4 (j := x * 4) (u := .int .i64 (M[x]'(by omega)).s) (by rw [show x * 4 = x * 4 + 0 by omega, es_at (by omega) (by omega)]; rfl)) (And.intro (own_cell o4 (j := x * 4 + 1) (u := .int .i64 (M[x]'(by omega)).p) (by rw [es_at (by omega) (by omega)]; rfl)) (And.intro (own_cell o4 (j := x * 4 + 2) (u := .int .i64 (M[x]'(by omega)).f) (by rw [es_at (by omega) (by omega)]; rfl)) (own_cell o4 (j := x * 4 + 3) (u := .bool (M[x]'(by omega)).w) (by rw [es_at (by omega) (by omega)]; rfl)))))
          have hwx : IntKind.i64.wrap ((x : Int) + 1) = x + 1 := by rw [IntKind.wrap_i64]; omega
          go_wp2_with (go_at_fn fn; refine HC.out.mono ?_; rintro e w4 ⟨rfl, k4⟩; have b4 := bA.keep k4 (by simp); have y0 : w4.cell? ⟨wr.heap.size, 0, none⟩ = some (.int .i64 L[j].s) := b4.cell 0; have y1 : w4.cell? ⟨wr.heap.size, 1, none⟩ = some (.int .i64 L[j].p) := b4.cell 1; have y2 : w4.cell? ⟨wr.heap.size, 2, none⟩ = some (.int .i64 L[j].f) := b4.cell 2; have y3 : w4.cell? ⟨wr.heap.size, 3, none⟩ = some (.bool L[j].w) := b4.cell 3; have o4 := own_keep ow k4 (by simp); have z0 := own_free o4 (x * 4); have z1 := own_free o4 (x * 4 + 1); have z2 := own_free o4 (x * 4 + 2); have z3 := own_free o4 (x * 4 + 3); obtain ⟨m0, m1, m2, m3⟩ := HM.out _ o4)
          have K4 := kA.trans k4 (by simp)
          have o5 := own_set (own_set (own_set (own_set o4 (x * 4) (.int .i64 L[j].s)) (x * 4 + 1) (.int .i64 L[j].p)) (x * 4 + 2) (.int .i64 L[j].f)) (x * 4 + 3) (.bool L[j].w)
          rw [es_set (by omega)] at o5
          have K5 := (((K4.setCell (p := ⟨g, x * 4, none⟩) (.inl (by simp)) (.int .i64 L[j].s)).setCell (p := ⟨g, x * 4 + 1, none⟩) (.inl (by simp)) (.int .i64 L[j].p)).setCell (p := ⟨g, x * 4 + 2, none⟩) (.inl (by simp)) (.int .i64 L[j].f)).setCell (p := ⟨g, x * 4 + 3, none⟩) (.inl (by simp)) (.bool L[j].w)
          clear o kp ow kA bA k4 b4 o4 K4
          go_roundw
          case rel => exact ⟨x + 1, j + 1, _, by go_num, by go_num, D1, by omega, by omega, o5, K5⟩
          case measure => simp [intOf]; omega
      · obtain rfl : j = L.length := by omega
        obtain ⟨dt, dl⟩ := D.out.done
        have hcl := fun ty => run_clear34 wr g x L.length cap _ o (by omega) ty
        have o6 := own_clear o (i := x) (by omega)
        rw [es_take, dt] at o6
        have k6 : Keeps [g] w (wr.setCells g (x * 4) (zs34 (L.length - x))) := kp.setCells _ _ (.inl (by simp))
        have HE := Lib.hid dl
        have hx0 : x ≤ cap := by omega
        have hx1 : cap ≠ x := by omega
        clear D dt dl o kp
        go_wp2_with fail
        go_ret
        have he := HE.out
        clear HE hcl
        subst he
        exact ⟨rfl, o6, k6⟩

/-- What a method leaves: the cache s', in old blocks of its own and in new ones. -/
def Next (T : TypeId) (w w' : World) (F : List Nat) (p : Nat) (s' : Tl) : Prop := ∃ F', TlRep T w' F' p s' ∧ Keeps F w w' ∧ ∀ g ∈ F', g ∈ F ∨ w.heap.size ≤ g
theorem Next.same {T : TypeId} {w w' : World} {F : List Nat} {p : Nat} {s' : Tl} (h : TlRep T w' F p s') (hk : Keeps F w w') : Next T w w' F p s' := ⟨F, h, hk, fun _ hg => .inl hg⟩
theorem fp_any (A : Option Addr) (n c m d : Nat) : fp (.slice A n c) = fp (.slice A m d) := by cases A <;> rfl
theorem filter_le (L : List En) (q : En → Bool) : (L.filter q).length ≤ L.length := List.length_filter_le q L
set_option maxRecDepth 100000 in
set_option maxHeartbeats 1600000 in
theorem remove_any (w : World) (F : List Nat) (p : Nat) (s : Tl) (fn : Nat) (lb : Array Value) (q : En → Bool) (eg : ∀ args w, (callFunc fn args).run Try.prog w = .ok (.enter fn args) w)
    (hn : s.n ≤ 1000) (h : TlRep 83 w F p s) (hp : PB F fn lb q w) :
    Calls Try.prog 50 #[.pointer (some ⟨p, 0, none⟩), .func (.func fn) #[] lb] w fun e w' => e = .returned (.int .i64 ((s.L.length : Int) - (s.drop q).L.length)) ∧ TlRep 83 w' F p (s.drop q) ∧ Keeps F w w' := by
  obtain ⟨A, cap, h⟩ := h
  have hm := h.m
  have hf := h.f
  have c1 : w.cell? ⟨p, 1, none⟩ = some (.slice A s.L.length cap) := h.b.cell 1
  have hd := deleteFunc_any w A cap s.L fn lb q eg (by omega) h.o (hp.less (by rw [hf]; intro x hx; simp [hx]))
  have hl := filter_le s.L (fun e => !q e)
  have hoff := h.off
  have HB := Lib.hid h.b
  have HD := Lib.hid hd
  have hwr : IntKind.i64.wrap ((s.L.length : Int) - ((s.L.filter (fun e => !q e)).length : Nat)) = (s.L.length : Int) - ((s.L.filter (fun e => !q e)).length : Nat) := by rw [IntKind.wrap_i64]; omega
  have ht := h.t
  clear hd h hp
  show Calls _ _ _ _ (fun e w' => e = .returned (.int .i64 ((s.L.length : Int) - ((s.L.filter (fun e => !q e)).length : Nat))) ∧ TlRep 83 w' F p ⟨s.n, s.L.filter (fun e => !q e)⟩ ∧ _)
  generalize s.L.filter (fun e => !q e) = M at *
  go_enter Try.func50, Try.ntmps50
  go_wp2_with fail
  refine HD.out.mono ?_
  rintro e w1 ⟨rfl, o1, k1⟩
  have b1 := HB.out.keep k1 hoff
  have d1 : w1.cell? ⟨p, 1, none⟩ = some (.slice A s.L.length cap) := b1.cell 1
  have f1 := b1.frozen 1
  clear c1
  go_wp2
  go_ret
  have hF : F = p :: fp (.slice A M.length cap) := by rw [hf, fp_any]
  refine ⟨rfl, ⟨A, cap, hF, b1.set_ 1 _, own_far o1 (by rw [fp_any A M.length cap s.L.length cap]; exact hoff) _, by show M.length ≤ s.n; omega, ht⟩, ?_⟩
  exact ((k1.mono (G := F) (by rw [hf]; intro x hx; simp [hx])).setCell (.inl (by rw [hf]; simp)) _)

theorem keepB {F : List Nat} {p : Nat} {s : Tl} {w : World} (h : TlRep 83 w F p s) : w.heap.size ∉ F ∧ w.heap.size + 1 ∉ F := ⟨fun x => by have := h.lt _ x; omega, fun x => by have := h.lt _ x; omega⟩
theorem drop_any (w : World) (F : List Nat) (p : Nat) (s : Tl) (x y : Int) (hn : s.n ≤ 1000) (h : TlRep 83 w F p s) :
    Calls Try.prog 41 #[.pointer (some ⟨p, 0, none⟩), .int .i64 x, .int .i64 y] w fun e w' => e = .returned (.int .i64 ((s.L.length : Int) - (s.drop (fun e => e.is x y)).L.length)) ∧ TlRep 83 w' F p (s.drop (fun e => e.is x y)) ∧ Keeps F w w' := by
  obtain ⟨n1, n2⟩ := keepB h
  have kk : Keeps [] w ((w.alloc (.cells #[.int .i64 x] 3)).alloc (.cells #[.int .i64 y] 3)) := ((Keeps.refl _ _).alloc _).alloc _
  have pr := at_pred F ((w.alloc (.cells #[.int .i64 x] 3)).alloc (.cells #[.int .i64 y] 3)) w.heap.size (w.heap.size + 1) x y ((Blk.new _ _ _).alloc _) (by simpa using Blk.new (w.alloc (.cells #[.int .i64 x] 3)) 3 #[.int .i64 y]) n1 n2
  have hr := remove_any _ F p s 64 _ _ enters64 hn (h.keep kk (by simp)) pr
  have HR := Lib.hid hr
  clear hr pr
  go_enter Try.func41, Try.ntmps41
  go_wp2_with fail
  refine (at_any _ x y).mono ?_
  rintro e w1 ⟨rfl, rfl⟩
  go_wp2_with fail
  refine HR.out.mono ?_
  rintro e w2 ⟨rfl, r2, k2⟩
  go_wp2
  go_ret
  exact ⟨rfl, r2, (kk.mono (by simp)).trans k2 (fun _ hx => .inl hx)⟩
theorem dropFrame_any (w : World) (F : List Nat) (p : Nat) (s : Tl) (x : Int) (hn : s.n ≤ 1000) (h : TlRep 83 w F p s) :
    Calls Try.prog 34 #[.pointer (some ⟨p, 0, none⟩), .int .i64 x] w fun e w' => e = .returned (.int .i64 ((s.L.length : Int) - (s.drop (fun e => e.f == x)).L.length)) ∧ TlRep 83 w' F p (s.drop (fun e => e.f == x)) ∧ Keeps F w w' := by
  obtain ⟨n1, n2⟩ := keepB h
  have kk : Keeps [] w (w.alloc (.cells #[.int .i64 x] 3)) := (Keeps.refl _ _).alloc _
  have pr := frame_pred F (w.alloc (.cells #[.int .i64 x] 3)) w.heap.size x (Blk.new _ _ _) n1
  have hr := remove_any _ F p s 51 _ _ enters51 hn (h.keep kk (by simp)) pr
  have HR := Lib.hid hr
  clear hr pr
  go_enter Try.func34, Try.ntmps34
  go_wp2_with fail
  refine HR.out.mono ?_
  rintro e w2 ⟨rfl, r2, k2⟩
  go_wp2
  go_ret
  exact ⟨rfl, r2, (kk.mono (by simp)).trans k2 (fun _ hx => .inl hx)⟩
theorem flush_any (w : World) (F : List Nat) (p : Nat) (s : Tl) (x : Int) (hn : s.n ≤ 1000) (h : TlRep 83 w F p s) :
    Calls Try.prog 38 #[.pointer (some ⟨p, 0, none⟩), .int .i64 x] w fun e w' => e = .returned (.int .i64 ((s.L.length : Int) - (s.drop (fun e => e.s == x)).L.length)) ∧ TlRep 83 w' F p (s.drop (fun e => e.s == x)) ∧ Keeps F w w' := by
  obtain ⟨n1, n2⟩ := keepB h
  have kk : Keeps [] w (w.alloc (.cells #[.int .i64 x] 3)) := (Keeps.refl _ _).alloc _
  have pr := space_pred F (w.alloc (.cells #[.int .i64 x] 3)) w.heap.size x (Blk.new _ _ _) n1
  have hr := remove_any _ F p s 55 _ _ enters55 hn (h.keep kk (by simp)) pr
  have HR := Lib.hid hr
  clear hr pr
  go_enter Try.func38, Try.ntmps38
  go_wp2_with fail
  refine HR.out.mono ?_
  rintro e w2 ⟨rfl, r2, k2⟩
  go_wp2
  go_ret
  exact ⟨rfl, r2, (kk.mono (by simp)).trans k2 (fun _ hx => .inl hx)⟩
end Go.Proofs.Yteognipfnbocpaa.T13
