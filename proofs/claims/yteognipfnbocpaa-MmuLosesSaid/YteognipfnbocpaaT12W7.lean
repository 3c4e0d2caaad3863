/- What a call does, as plain data. -/
import Derived.Test.YteognipfnbocpaaT12W6
namespace Go.Proofs.Yteognipfnbocpaa.T12
open Go.RowKit

/-- A whole row stored into a block. -/
theorem wpList_store_blk {P : Program} {ops : Array Oper} {rest : List Oper} {o : Oper} {a : Act} {w : World} {Q : Exit → Act → World → Prop} (hgd : o.guard = none) (ty : TypeId) (x y : Operand) (ho : o.op = .store ty x y) (hdst : o.dst = none)
    (g : Nat) (hx : a.eval x = .pointer (some ⟨g, 0, none⟩)) (t : TypeId) (old cs : Array Value) (hb : Blk w g t old) (hy : a.eval y = .agg cs) (hs : cs.size = old.size) (h1 : ∀ v ∈ cs.toList, v.oneCell' = true)
    (hi : (P.info? ty).map (·.size) = some cs.size)
    (h : ∀ w', Blk w' g t cs → Keeps [g] w w' → wpList P ops Q rest a w') : wpList P ops Q (o :: rest) a w := by
  refine wpList_plain hgd fun _ hK => ?_
  cases hq : P.info? ty with
  | none => simp [hq] at hi
  | some i =>
    have hsz : i.size = cs.size := by simpa [hq] using hi
    have hst := run_storeCells_at P g 0 t cs.toList 0 old w hb (by simp [hs]) h1
    have e : (old.toList.take (0 + 0) ++ cs.toList ++ old.toList.drop (0 + 0 + cs.toList.length)).toArray = cs := by
      rw [List.drop_of_length_le (by simp [hs])]; simp
    rw [e] at hst
    have hsv : (storeVar ty ⟨g, 0, none⟩ (.agg cs)).run P w = .ok () (w.setRow g cs) := by
      simp [storeVar, sizeOf, typeInfo, hq, hsz, Value.cells, hst]
    unfold Oper.wp execOp
    simp only [ho, hx, hy, Instr.storeAt, Instr.sureAddr, Sem.run_bind, Sem.run_pure, Result.andThen_ok, hsv]
    refine hK _ _ ?_
    rw [hdst]
    refine h _ (setRow_heap w g old cs t _ hb) ⟨rfl, rfl, rfl, by simp [World.setRow], fun k _ hk => setRow_other w g k cs (by simpa using hk)⟩

/-- Which call an Act is. -/
def opk (d : Int) : Int := bits .and .i64 d 7
/-- What Look tells of page pg. -/
def lookX (m : Nat → Option E) (pg : Int) : Int × E := match ent m pg with
  | none => (0, ⟨0, false, false, false⟩)
  | some e => (pg, e)
theorem ent_nonneg {m : Nat → Option E} {pg : Int} {e : E} (h : ent m pg = some e) : 0 ≤ pg := by unfold ent at h; split at h; assumption; cases h
theorem lookV_eq (m : Nat → Option E) (pg : Int) : lookV (ent m pg) pg.toNat = .agg #[.int .i64 (lookX m pg).1, .int .i64 (lookX m pg).2.fr, .bool (lookX m pg).2.wr, .bool (lookX m pg).2.ac, .bool (lookX m pg).2.di] := by
  unfold lookV lookX
  cases h : ent m pg with
  | none => rfl
  | some e =>
    have := ent_nonneg h
    simp only []
    rw [Int.toNat_of_nonneg this]
theorem look_any2 (w : World) (F : List Nat) (p : Nat) (m : Nat → Option E) (pg : Int) (h : TbRep w F p m) (h1 : -9223372036854775808 ≤ pg) (h2 : pg ≤ 9223372036854775807) :
    Calls Try.prog 26 #[.pointer (some ⟨p, 0, none⟩), .int .i64 pg] w fun e w' => e = .returned (.tuple #[.agg #[.int .i64 (lookX m pg).1, .int .i64 (lookX m pg).2.fr, .bool (lookX m pg).2.wr, .bool (lookX m pg).2.ac, .bool (lookX m pg).2.di], .bool (ent m pg).isSome]) ∧ TbRep w' F p m ∧ Keeps [] w w' := by
  rw [← lookV_eq]
  exact look_any w F p m pg h h1 h2
/-- The table after a call. -/
def doM (m : Nat → Option E) (d pg fr : Int) (wr : Bool) : Nat → Option E :=
  if opk d = 0 ∨ opk d = 1 then mapM m pg fr wr else if opk d = 2 then unmM m pg else if opk d = 3 ∨ opk d = 4 then wlkM m pg wr else if opk d = 6 then clrM m pg else m
def doN (m : Nat → Option E) (d pg fr : Int) (wr : Bool) : Int :=
  if opk d = 0 ∨ opk d = 1 then mapN pg fr else if opk d = 2 then 0 else if opk d = 3 ∨ opk d = 4 then wlkN m pg wr else if opk d = 5 then 0 else if opk d = 6 then 0 else levs m 16
def doB (m : Nat → Option E) (d pg : Int) (wr : Bool) : Bool :=
  if opk d = 2 then (ent m pg).isSome else if opk d = 3 ∨ opk d = 4 then wlkB m pg wr else if opk d = 5 then (ent m pg).isSome else if opk d = 6 then clrB m pg else false
def doX (m : Nat → Option E) (d pg : Int) : Int × E := if opk d = 5 then lookX m pg else (0, ⟨0, false, false, false⟩)
/-- What a call returns, as cells. -/
def gotC (n : Int) (b : Bool) (x : Int × E) : Array Value := #[.int .i64 n, .bool b, .int .i64 x.1, .int .i64 x.2.fr, .bool x.2.wr, .bool x.2.ac, .bool x.2.di]
def doV (m : Nat → Option E) (d pg fr : Int) (wr : Bool) : Value := .agg (gotC (doN m d pg fr wr) (doB m d pg wr) (doX m d pg))
theorem gotC_ones (n : Int) (b : Bool) (x : Int × E) : ∀ v ∈ (gotC n b x).toList, v.oneCell' = true := by
  intro v hv
  simp [gotC] at hv
  rcases hv with rfl | rfl | rfl | rfl | rfl | rfl | rfl <;> rfl
end Go.Proofs.Yteognipfnbocpaa.T12
