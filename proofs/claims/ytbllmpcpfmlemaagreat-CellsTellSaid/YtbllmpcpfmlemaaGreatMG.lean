/- Texts of the elder seat, turned to this one: W10 W11. -/
import Derived.Test.YtbllmpcpfmlemaaGreatMF
import Derived.Test.YtbllmpcpfmlemaaGreatME
namespace Go.Proofs.YtbllmpcpfmlemaaGreat
open Go.RowKit
/-- The cells c lie in the blocks F and G; those of G are never written. -/
def Cs (w : World) (c : Nat) (F G : List Nat) (C : St) : Prop := ∃ m Mo L, RepM w c m Mo L F G C
def Turned (w w' : World) (c : Nat) (F G : List Nat) (D : St) : Prop := ∃ F' G', Cs w' c F' G' D ∧ More w F F' ∧ More w G G' ∧ Keeps F w w'
theorem sees_none {C : St} {i : Int} (h : has C i = false) (k : Str) : sees C i k = [] := by
  induction C with
  | nil => rfl
  | cons x t ih =>
    rw [has_cons, Bool.or_eq_false_iff] at h
    rw [sees, if_neg (by simpa using h.1), ih h.2]
theorem seesKeys_none {C : St} {i : Int} (h : has C i = false) (k : Str) : seesKeys C i k = [] := by
  induction C with
  | nil => rfl
  | cons x t ih =>
    rw [has_cons, Bool.or_eq_false_iff] at h
    rw [seesKeys, if_neg (by simpa using h.1), ih h.2]
theorem ask_none {C : St} {i : Int} (h : has C i = false) (k : Str) : askP C i k = C := by unfold askP; rw [find_none.2 h]
theorem askK_none {C : St} {i : Int} (h : has C i = false) (k : Str) : askKP C i k = C := by unfold askKP; rw [find_none.2 h]
/-- A number of Go. -/
def I64 (i : Int) : Prop := -9223372036854775808 ≤ i ∧ i ≤ 9223372036854775807
section
variable {w : World} {c : Nat} {F G : List Nat} {C : St} {P : List Str}
theorem Turned.same {w' : World} (h : Cs w' c F G C) (hk : Keeps F w w') : Turned w w' c F G C := ⟨F, G, h, More.refl _ _, More.refl _ _, hk⟩
theorem Cs.keep {K : List Nat} {w' : World} (h : Cs w c F G C) (hk : Keeps K w w') (hF : ∀ g ∈ K, g ∉ F) (hG : ∀ g ∈ K, g ∉ G) : Cs w' c F G C := by
  obtain ⟨m, Mo, L, h⟩ := h
  exact ⟨m, Mo, L, h.keep hk hF hG⟩
theorem Cs.keep0 {w' : World} (h : Cs w c F G C) (hk : Keeps [] w w') : Cs w' c F G C := h.keep hk (by simp) (by simp)
theorem Turned.after {w1 w2 : World} {D : St} (h : Turned w w1 c F G D) (hk : Keeps [] w1 w2) : Turned w w2 c F G D := by
  obtain ⟨F', G', h1, h2, h3, h4⟩ := h
  exact ⟨F', G', h1.keep0 hk, h2, h3, h4.trans hk (by simp)⟩
theorem RepM.turned {w' : World} {m : Nat} {Mo : Int → Mem} {L : Nat → Option (Int × Nat)} {D : St} {i : Int} {x : One} (h : RepM w c m Mo L F G C) (hx : find C i = some x) (hs : StepOn i w w' c m Mo F G D) : Turned w w' c F G D := by
  obtain ⟨row, sl, L', F', G', h1, h2, h3, _, h5⟩ := hs
  exact ⟨F', G', ⟨m, _, L', h1⟩, h2, h3, h5.mono (fun b hb => h.blkFi hx hb)⟩
theorem pv_none : pv none = .pointer none := rfl
set_option maxRecDepth 100000 in
set_option maxHeartbeats 1600000 in
theorem get_any (h : Cs w c F G C) (hW : WF P C) (hP : PoolOk P) {i : Int} (hi : I64 i) (k : Str) (hk : k ∈ P) :
    Calls Tryz.prog 38 #[.pointer (some ⟨c, 0, none⟩), .int .i64 i, sv k] w fun e w' => e = .returned (sv (sees (askP C i k) i k)) ∧ Turned w w' c F G (askP C i k) := by
  obtain ⟨m, Mo, L, h⟩ := h
  have hok := hP.k k hk
  have f0 : w.cell? ⟨c, 0, none⟩ = some (.map (some m)) := h.cb.cell 0
  have l0 := h.look hi.1 hi.2
  cases hh : has C i with
  | false =>
    rw [ask_none hh, sees_none hh]
    simp only [hh] at l0
    have l0' : (Instr.lookup 63 (.map (some m)) (.int .i64 i) false).run Tryz.prog w = .ok (.pointer none) w := l0
    have HR := Lib.hid h
    clear h l0 hh hi
    go_enter Tryz.func38, Tryz.ntmps38
    go_wp2_with fail
    go_ret
    exact ⟨rfl, Turned.same ⟨m, Mo, L, HR.out⟩ (Keeps.refl _ _)⟩
  | true =>
    obtain ⟨x, hx⟩ := has_find hh
    simp only [hh, if_true] at l0
    have l0' : (Instr.lookup 63 (.map (some m)) (.int .i64 i) false).run Tryz.prog w = .ok (.pointer (some ⟨(Mo i).b, 0, none⟩)) w := l0
    have hask := ask_any h hW hP hx k hok
    have HR := Lib.hid h
    have HX := Lib.hid hx
    have HW := Lib.hid hW
    obtain ⟨v, hv⟩ : ∃ v, sees (askP C i k) i k = v := ⟨_, rfl⟩
    rw [hv]
    have HV := Lib.hid hv
    clear hv
    clear h l0 hi hx hW
    go_enter Tryz.func38, Tryz.ntmps38
    go_wp2_with fail
    refine hask.mono ?_
    rintro e w1 ⟨rfl, hs⟩
    have HS := Lib.hid hs
    have hT := HW.out.ask i hk
    have hsee : Calls Tryz.prog 56 #[.pointer (some ⟨(Mo i).b, 0, none⟩), sv k] w1 fun e w' => e = .returned (sv (sees (askP C i k) i k)) ∧ w' = w1 := by
      obtain ⟨row, sl, L', F', G', h1, _⟩ := hs
      obtain ⟨y, hy⟩ := has_find (show has (askP C i k) i = true by rw [(grow_ask C i k).1]; exact hh)
      obtain ⟨hyC, hyi⟩ := find_mem hy
      have := sees_any h1 hT.tree hyC k hok
      rw [hyi, upMo_b] at this
      exact this
    rw [HV.out] at hsee
    clear hs hT hh
    go_wp2_with fail
    refine hsee.mono ?_
    rintro e w2 ⟨rfl, rfl⟩
    go_wp2_with fail
    go_ret
    exact ⟨rfl, HR.out.turned HX.out HS.out⟩
set_option maxRecDepth 100000 in
set_option maxHeartbeats 1600000 in
theorem keysOp_any (h : Cs w c F G C) (hW : WF P C) (hP : PoolOk P) {i : Int} (hi : I64 i) (k : Str) (hk : k ∈ P) :
    Calls Tryz.prog 39 #[.pointer (some ⟨c, 0, none⟩), .int .i64 i, sv k] w fun e w' => ∃ v, e = .returned v ∧ w'.ownsRow 0 9 1 v (seesKeys (askKP C i k) i k).length (vs (seesKeys (askKP C i k) i k)) ∧ (∀ g ∈ fp v, w.heap.size ≤ g) ∧ Turned w w' c F G (askKP C i k) := by
  obtain ⟨m, Mo, L, h⟩ := h
  have hok := hP.k k hk
  have f0 : w.cell? ⟨c, 0, none⟩ = some (.map (some m)) := h.cb.cell 0
  have l0 := h.look hi.1 hi.2
  cases hh : has C i with
  | false =>
    rw [askK_none hh, seesKeys_none hh]
    simp only [hh] at l0
    have l0' : (Instr.lookup 63 (.map (some m)) (.int .i64 i) false).run Tryz.prog w = .ok (.pointer none) w := l0
    have HR := Lib.hid h
    clear h l0 hh hi
    go_enter Tryz.func39, Tryz.ntmps39
    go_wp2_with fail
    go_ret
    exact ⟨_, rfl, World.ownsRow_nil _ _ _ _, by simp, Turned.same ⟨m, Mo, L, HR.out⟩ (Keeps.refl _ _)⟩
  | true =>
    obtain ⟨x, hx⟩ := has_find hh
    simp only [hh, if_true] at l0
    have l0' : (Instr.lookup 63 (.map (some m)) (.int .i64 i) false).run Tryz.prog w = .ok (.pointer (some ⟨(Mo i).b, 0, none⟩)) w := l0
    have hask := askKeys_any h hW hP hx k hok
    have HR := Lib.hid h
    have HX := Lib.hid hx
    have HW := Lib.hid hW
    have HP := Lib.hid hP
    obtain ⟨v, hv⟩ : ∃ v, seesKeys (askKP C i k) i k = v := ⟨_, rfl⟩
    rw [hv]
    have HV := Lib.hid hv
    clear hv
    clear h l0 hi hx hW hP
    go_enter Tryz.func39, Tryz.ntmps39
    go_wp2_with fail
    refine hask.mono ?_
    rintro e w1 ⟨rfl, hs⟩
    have HT := Lib.hid (HR.out.turned HX.out hs)
    have hT := HW.out.askK i hk
    have hsee : Calls Tryz.prog 58 #[.pointer (some ⟨(Mo i).b, 0, none⟩), sv k] w1 fun e w' => ∃ v, e = .returned v ∧ w'.ownsRow 0 9 1 v (seesKeys (askKP C i k) i k).length (vs (seesKeys (askKP C i k) i k)) ∧ Keeps [] w1 w' ∧ ∀ g ∈ fp v, w1.heap.size ≤ g := by
      obtain ⟨row, sl, L', F', G', h1, _⟩ := hs
      obtain ⟨y, hy⟩ := has_find (show has (askKP C i k) i = true by rw [(grow_askK C i k).1]; exact hh)
      obtain ⟨hyC, hyi⟩ := find_mem hy
      have := seesKeys_any h1 hT HP.out hyC k hok
      rw [hyi, upMo_b] at this
      exact this
    have hsz : w.heap.size ≤ w1.heap.size := by obtain ⟨F', G', _, _, _, h4⟩ := HT.out; exact h4.size
    rw [HV.out] at hsee
    clear hs hT hh
    go_wp2_with fail
    refine hsee.mono ?_
    rintro e w2 ⟨u, rfl, o2, k2, g2⟩
    have O2 := Lib.hid o2
    have K2 := Lib.hid k2
    have G2 := Lib.hid g2
    clear o2 k2 g2
    go_wp2_with fail
    go_ret
    exact ⟨u, rfl, O2.out, fun g hg => Nat.le_trans hsz (G2.out g hg), HT.out.after K2.out⟩
/-- A map of one's own has turned. -/
theorem RepM.wrote {w' : World} {m : Nat} {Mo : Int → Mem} {L : Nat → Option (Int × Nat)} (h : RepM w c m Mo L F G C) (hT : Tree C) {i : Int} {x : One} (hx : find C i = some x) {b : Nat} (hk : Keeps [b] w w') (hb : b ∈ (Mo i).blocks)
    {g : One → One} (hid : ∀ x, (g x).id = x.id) (hpar : ∀ x, (g x).par = x.par) (hrd : ∀ x, (g x).rd = x.rd) (ho : OneAt w' (Mo i) (parOf Mo x) (kids C i) (g x)) : StepOn i w w' c m Mo F G (upd C i g) := by
  obtain ⟨hxC, hxi⟩ := find_mem hx
  have hb' : ∀ d ∈ [b], d ∈ (Mo i).blocks := by simpa using hb
  obtain ⟨L', hr⟩ := h.turn (N := []) hT hx hid hpar hk (fun d hd => .inl (hb' d hd)) (Mo i).row (Mo i).sl (fun _ h => .inl h) (fun d hd => own_lt ho.o hd) (by simp)
    (fun p l hl d hd => .inl (h.inG x hxC p l (by rw [← hrd x]; exact hl) d (by rw [hxi]; exact hd))) ho
  exact ⟨(Mo i).row, (Mo i).sl, L', _, _, hr, more_row h hx (fun _ h => .inl h), More.refl _ _, fun _ h => .inl h, hk.mono hb'⟩
end
end Go.Proofs.YtbllmpcpfmlemaaGreat
namespace Go.Proofs.YtbllmpcpfmlemaaGreat
open Go.RowKit
section
variable {w : World} {c : Nat} {F G : List Nat} {C : St} {P : List Str}
theorem wr_len (hW : WF P C) (hP : PoolOk P) {x : One} (hx : x ∈ C) : x.wr.length ≤ 1000000 ∧ x.lg.length ≤ 1000000 := ⟨hP.leK (hW.ok x hx).wr (hW.ok x hx).wp, hP.leK (hW.ok x hx).lg (hW.ok x hx).lp⟩
set_option maxRecDepth 100000 in
set_option maxHeartbeats 1600000 in
theorem putOp_any (h : Cs w c F G C) (hW : WF P C) (hP : PoolOk P) {i : Int} (hi : I64 i) (k v : Str) (hk : k ∈ P) :
    Calls Tryz.prog 40 #[.pointer (some ⟨c, 0, none⟩), .int .i64 i, sv k, sv v] w fun e w' => e = .returned (.tuple #[]) ∧ Turned w w' c F G (putP C i k v) := by
  obtain ⟨m, Mo, L, h⟩ := h
  have hok := hP.k k hk
  have f0 : w.cell? ⟨c, 0, none⟩ = some (.map (some m)) := h.cb.cell 0
  have l0 := h.look hi.1 hi.2
  cases hh : has C i with
  | false =>
    unfold putP
    rw [upd_none _ hh]
    simp only [hh] at l0
    have l0' : (Instr.lookup 63 (.map (some m)) (.int .i64 i) false).run Tryz.prog w = .ok (.pointer none) w := l0
    have HR := Lib.hid h
    clear h l0 hh hi
    go_enter Tryz.func40, Tryz.ntmps40
    go_wp2_with fail
    go_end0
    exact ⟨rfl, Turned.same ⟨m, Mo, L, HR.out⟩ (Keeps.refl _ _)⟩
  | true =>
    obtain ⟨x, hx⟩ := has_find hh
    simp only [hh, if_true] at l0
    have l0' : (Instr.lookup 63 (.map (some m)) (.int .i64 i) false).run Tryz.prog w = .ok (.pointer (some ⟨(Mo i).b, 0, none⟩)) w := l0
    obtain ⟨o, hl⟩ := h.at_ hx
    obtain ⟨hxC, hxi⟩ := find_mem hx
    have hlen := (wr_len hW hP hxC).1
    have hput := put_any o hl parOf_iff (hW.ok x hxC).wr (by unfold maxLen; omega) k v hok
    rw [hxi] at hput
    have HR := Lib.hid h
    have HX := Lib.hid hx
    have HW := Lib.hid hW
    clear h l0 hi hx hW hlen o hl hxi hxC
    go_enter Tryz.func40, Tryz.ntmps40
    go_wp2_with fail
    refine hput.mono ?_
    rintro e w1 ⟨rfl, o1, k1⟩
    have hs : StepOn i w w1 c m Mo F G (putP C i k v) := HR.out.wrote HW.out.tree HX.out k1 (by simp [Mem.blocks]) (g := setWr (wrPut i k v)) (fun _ => rfl) (fun _ => rfl) (fun _ => rfl) o1
    have HT := Lib.hid (HR.out.turned HX.out hs)
    clear o1 k1 hs
    go_wp2_with fail
    go_end0
    exact ⟨rfl, HT.out⟩
set_option maxRecDepth 100000 in
set_option maxHeartbeats 1600000 in
theorem logOp_any (h : Cs w c F G C) (hW : WF P C) (hP : PoolOk P) {i : Int} (hi : I64 i) (k v : Str) (hk : k ∈ P) (hv : lgSize C + v.length ≤ 1000000000) :
    Calls Tryz.prog 42 #[.pointer (some ⟨c, 0, none⟩), .int .i64 i, sv k, sv v] w fun e w' => e = .returned (.tuple #[]) ∧ Turned w w' c F G (if v = [] then C else logP C i k v) := by
  obtain ⟨m, Mo, L, h⟩ := h
  have hok := hP.k k hk
  have f0 : w.cell? ⟨c, 0, none⟩ = some (.map (some m)) := h.cb.cell 0
  have l0 := h.look hi.1 hi.2
  cases hh : has C i with
  | false =>
    have e0 : (if v = [] then C else logP C i k v) = C := by
      unfold logP
      rw [upd_none _ hh]
      split <;> rfl
    rw [e0]
    simp only [hh] at l0
    have l0' : (Instr.lookup 63 (.map (some m)) (.int .i64 i) false).run Tryz.prog w = .ok (.pointer none) w := l0
    have HR := Lib.hid h
    clear h l0 hh hi e0
    go_enter Tryz.func42, Tryz.ntmps42
    go_wp2_with fail
    go_end0
    exact ⟨rfl, Turned.same ⟨m, Mo, L, HR.out⟩ (Keeps.refl _ _)⟩
  | true =>
    obtain ⟨x, hx⟩ := has_find hh
    simp only [hh, if_true] at l0
    have l0' : (Instr.lookup 63 (.map (some m)) (.int .i64 i) false).run Tryz.prog w = .ok (.pointer (some ⟨(Mo i).b, 0, none⟩)) w := l0
    by_cases hv0 : v = []
    · rw [if_pos hv0]
      subst hv0
      have HR := Lib.hid h
      clear h l0 hh hi hx
      go_enter Tryz.func42, Tryz.ntmps42
      go_wp2_with fail
      go_end0
      exact ⟨rfl, Turned.same ⟨m, Mo, L, HR.out⟩ (Keeps.refl _ _)⟩
    · rw [if_neg hv0]
      obtain ⟨o, hl⟩ := h.at_ hx
      obtain ⟨hxC, hxi⟩ := find_mem hx
      have hlen := (wr_len hW hP hxC).2
      have f3 : w.cell? ⟨(Mo i).b, 3, none⟩ = some (.map (some (Mo i).ml)) := o.b.cell 3
      have l3 := o.l.look1 hok Tryz.underlying74 (zero9 w)
      obtain ⟨u, hu⟩ : ∃ u, (mget x.lg k).getD [] = u := ⟨_, rfl⟩
      have l3' : (Instr.lookup 74 (.map (some (Mo i).ml)) (sv k) false).run Tryz.prog w = .ok (sv u) w := by
        rw [← hu]
        have e : ((mget x.lg k).map eS.val).getD (Value.string ⟨#[]⟩) = sv ((mget x.lg k).getD []) := by cases mget x.lg k <;> rfl
        rw [← e]
        exact l3
      have hul : u.length ≤ lgSize C := by
        rw [← hu]
        cases hm : mget x.lg k with
        | none => exact Nat.zero_le _
        | some s => exact Nat.le_trans (lgLen_get hm) (lgSize_mem hxC)
      have hsz : ¬ (9223372036854775807 < u.length + v.length) := by omega
      have hv2 : List.isEmpty v = false := by simpa using hv0
      have HR := Lib.hid h
      have HX := Lib.hid hx
      have HW := Lib.hid hW
      have HU := Lib.hid hu
      have HO := Lib.hid o
      have HL := Lib.hid hl
      clear h l0 hi hx hW o hl hu hul l3 hh
      go_enter Tryz.func42, Tryz.ntmps42
      go_wp2_with (refine wpList_updG rfl rfl _ _ _ 74 rfl Tryz.underlying74 (Mo i).ml _ _ rfl HO.out.l (by unfold maxLen; omega) k (u ++ v) rfl (by show Value.string (bs u ++ bs v) = sv (u ++ v); rw [bs_append]) hok ?_; intro w1 h1 k1)
      have e1 : updG (mget x.lg) k (some (u ++ v)) = mget (lgAdd k v x.lg) := by
        funext j
        unfold updG
        rw [mget_lgAdd (HW.out.ok x hxC).lg, HU.out]
        by_cases hj : j = k <;> simp [hj]
      rw [e1] at h1
      have o1 := HO.out.logged HL.out (lgAdd k v) (GMap.asList h1) k1
      have hs : StepOn i w w1 c m Mo F G (logP C i k v) := HR.out.wrote HW.out.tree HX.out k1 (by simp [Mem.blocks]) (g := setLg (lgAdd k v)) (fun _ => rfl) (fun _ => rfl) (fun _ => rfl) o1
      have HT := Lib.hid (HR.out.turned HX.out hs)
      clear o1 k1 hs h1 e1
      go_end0
      exact ⟨rfl, HT.out⟩
/-- What was logged. -/
def logsP (C : St) (i : Int) (k : Str) : Str := match find C i with
  | none => []
  | some x => (mget x.lg k).getD []
set_option maxRecDepth 100000 in
set_option maxHeartbeats 1600000 in
theorem logs_any (h : Cs w c F G C) {i : Int} (hi : I64 i) (k : Str) (hok : kS.ok k) :
    Calls Tryz.prog 31 #[.pointer (some ⟨c, 0, none⟩), .int .i64 i, sv k] w fun e w' => e = .returned (sv (logsP C i k)) ∧ w' = w := by
  obtain ⟨m, Mo, L, h⟩ := h
  have f0 : w.cell? ⟨c, 0, none⟩ = some (.map (some m)) := h.cb.cell 0
  have l0 := h.look hi.1 hi.2
  unfold logsP
  cases hh : has C i with
  | false =>
    rw [find_none.2 hh]
    simp only [hh] at l0
    have l0' : (Instr.lookup 63 (.map (some m)) (.int .i64 i) false).run Tryz.prog w = .ok (.pointer none) w := l0
    clear h l0 hh hi
    go_enter Tryz.func31, Tryz.ntmps31
    go_wp2_with fail
    go_ret
    exact ⟨rfl, rfl⟩
  | true =>
    obtain ⟨x, hx⟩ := has_find hh
    simp only [hh, if_true] at l0
    have l0' : (Instr.lookup 63 (.map (some m)) (.int .i64 i) false).run Tryz.prog w = .ok (.pointer (some ⟨(Mo i).b, 0, none⟩)) w := l0
    obtain ⟨o, hl⟩ := h.at_ hx
    have f3 : w.cell? ⟨(Mo i).b, 3, none⟩ = some (.map (some (Mo i).ml)) := o.b.cell 3
    have l3 := o.l.look1 hok Tryz.underlying74 (zero9 w)
    rw [hx]
    dsimp only
    obtain ⟨u, hu⟩ : ∃ u, (mget x.lg k).getD [] = u := ⟨_, rfl⟩
    have l3' : (Instr.lookup 74 (.map (some (Mo i).ml)) (sv k) false).run Tryz.prog w = .ok (sv u) w := by
      rw [← hu]
      have e : ((mget x.lg k).map eS.val).getD (Value.string ⟨#[]⟩) = sv ((mget x.lg k).getD []) := by cases mget x.lg k <;> rfl
      rw [← e]
      exact l3
    rw [hu]
    clear h l0 hi hx hh o hl hu l3
    go_enter Tryz.func31, Tryz.ntmps31
    go_wp2_with fail
    go_ret
    exact ⟨rfl, rfl⟩
end
end Go.Proofs.YtbllmpcpfmlemaaGreat
