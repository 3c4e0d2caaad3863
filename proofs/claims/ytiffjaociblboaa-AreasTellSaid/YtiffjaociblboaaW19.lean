/- A world of sheets: Byte, place. -/
import Derived.Test.YtiffjaociblboaaW18
namespace Go.Proofs.Ytiffjaociblboaa
open Go.RowKit

def xA : Ar := ⟨10, 5, ⟨#[97]⟩, 2, false, true⟩
set_option maxRecDepth 100000 in
set_option maxHeartbeats 3200000 in
theorem byte_any (w : World) (fb m1 m2 m3 m4 : Nat) (hb : Blk w fb 68 (wcs m1 m2 m3)) (hm : MO w m2 #[⟨.string ⟨#[97]⟩, .map (some m4), 0⟩] 1) (hm4 : MO w m4 #[⟨.int .i64 2, .agg sc9, 0⟩] 1) :
    Calls Try.prog 61 #[.pointer (some ⟨fb, 0, none⟩), .string ⟨#[97]⟩, .int .i64 135] w fun e w' => e = .returned (.int .u8 9) ∧ w' = w := by
  have f1 : w.cell? ⟨fb, 1, none⟩ = some (.map (some m2)) := hb.cell 1
  have l1 := look66_one ⟨#[97]⟩ (by kernel_rfl) hm
  have l2 := look72_one 2 hm4
  have hidx : ∀ w, (Instr.index 71 (.agg sc9) (.int .i64 7)).run Try.prog w = .ok (.int .u8 9) w := fun w => by kernel_rfl
  clear hb hm hm4
  go_enter Try.func61, Try.ntmps61
  go_wp2_with fail
  refine (wvalid_any _ 135 (by omega) (by omega)).mono ?_
  rintro e w1 ⟨rfl, rfl⟩
  go_wp2_with fail
  go_ret
  exact ⟨rfl, rfl⟩
set_option maxRecDepth 100000 in
set_option maxHeartbeats 3200000 in
theorem place_any (w : World) :
    Calls Try.prog 59 #[.agg #[.int .i64 10, .int .i64 5, .string ⟨#[97]⟩, .int .i64 2, .bool false, .bool true], .int .i64 647] w fun e w' => e = .returned (.tuple #[.string ⟨#[97]⟩, .int .i64 135]) ∧ Keeps [] w w' := by
  go_enter Try.func59, Try.ntmps59
  go_wp2_with fail
  go_quiet (fail)
  go_wp2_with fail
  go_ret2
  exact ⟨rfl, ((Keeps.refl [] w).alloc _).drewN _⟩
theorem invoke_byte (w : World) (p : Addr) (s i : Value) : (invoke (.fn (.method "Byte") #[]) #[.iface 42 (.pointer (some p)), s, i]).run Try.prog w = .ok (.enter 61 #[.pointer (some p), s, i]) w := by kernel_rfl
theorem invoke_load (w : World) (v s i : Value) : (invoke (.fn (.method "Load") #[]) #[.iface 77 v, s, i]).run Try.prog w = .ok (.enter 57 #[v, s, i]) w := by kernel_rfl
theorem step_invokeW {P : Program} {ops : Array Oper} {o : Oper} {a : Act} {w : World} {K : Act → World → Prop} {Q : Exit → Act → World → Prop} {E : Prop}
    (hw : Region.wanted o (yielded ops a.tmps) = true) (r : Operand) (nm : String) (xs : Array Operand) (ts : Array TypeId) (hop : o.op = Op.call { callee := .invoke r nm, args := xs, argTypes := ts }) (recv : Value) (args : Array Value) (hr : a.eval r = recv) (hx : xs.map a.eval = args)
    (f : Nat) (args2 : Array Value) (hm : (invoke (.fn (.method nm) #[]) (#[recv] ++ args)).run P w = .ok (.enter f args2) w) {R : Ending → World → Prop} (hC : Calls P f args2 w R) (hK : ∀ e w', R e w' → ∃ v, e = .returned v ∧ K (a.put o.dst v) w') :
    if Region.wanted o (yielded ops a.tmps) = true then Oper.wp P o a w K Q else E := by
  rw [if_pos hw]
  unfold Oper.wp
  simp only [execOp, hop, resolve, Sem.run_bind, Sem.run_pure, Result.andThen_ok, hx, hr, hm]
  rw [Oper.upon_enter]
  refine hC.mono ?_
  intro e w' hR
  obtain ⟨v, rfl, h⟩ := hK e w' hR
  exact h
end Go.Proofs.Ytiffjaociblboaa
