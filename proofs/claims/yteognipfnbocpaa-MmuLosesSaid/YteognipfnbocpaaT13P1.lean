/- The cache as plain data. -/
import Derived.Test.YteognipfnbocpaaRw
import Derived.Test.YteognipfnbocpaaBits
import Derived.Test.YteognipfnbocpaaProg
namespace Go.Proofs.Yteognipfnbocpaa.T13
open Go.RowKit

/-- An entry: space, page, frame, with the right to write or not. -/
structure En where
  s : Int
  p : Int
  f : Int
  w : Bool
deriving DecidableEq
def en0 : En := ⟨0, 0, 0, false⟩
def ec (e : En) : List Value := [.int .i64 e.s, .int .i64 e.p, .int .i64 e.f, .bool e.w]
theorem ec_len (e : En) : (ec e).length = 4 := rfl
theorem ec_one (e : En) : ∀ u ∈ ec e, u.oneCell' = true := by
  intro u hu
  simp only [ec, List.mem_cons, List.not_mem_nil, or_false] at hu
  rcases hu with rfl | rfl | rfl | rfl <;> rfl
/-- The cells of a list of entries. -/
def es (L : List En) : List Value := rw ec L
theorem es_len (L : List En) : (es L).length = L.length * 4 := rw_len ec_len L
theorem es_one (L : List En) : ∀ u ∈ es L, u.oneCell' = true := rw_one ec_one L
theorem es_at {L : List En} {i j : Nat} (hi : i < L.length) (hj : j < 4) : (es L)[i * 4 + j]? = (ec L[i])[j]? := rw_at ec_len hi hj
theorem es_take (L : List En) (i : Nat) : (es L).take (i * 4) = es (L.take i) := rw_take ec_len L i
theorem es_drop (L : List En) (i : Nat) : (es L).drop (i * 4) = es (L.drop i) := rw_drop ec_len L i
theorem es_append (L M : List En) : es (L ++ M) = es L ++ es M := rw_append L M
def En.is (e : En) (s p : Int) : Bool := e.s == s && e.p == p
/-- The cache: its size, its entries. -/
structure Tl where
  n : Nat
  L : List En
def Tl.drop (t : Tl) (q : En → Bool) : Tl := { t with L := t.L.filter (fun e => !q e) }
def Tl.fill (t : Tl) (e : En) : Tl :=
  let L := t.L.filter (fun x => !x.is e.s e.p)
  if t.n = 0 then { t with L := L } else { t with L := e :: L.take (t.n - 1) }
/-- The place of the entry that Look returns. -/
def Tl.hit (t : Tl) (s p : Int) (w : Bool) : Option Nat :=
  match t.L.findIdx? (fun e => e.is s p) with
  | none => none
  | some i => if w && !(t.L.getD i en0).w then none else some i
def Tl.look (t : Tl) (s p : Int) (w : Bool) : Tl :=
  match t.hit s p w with
  | none => t
  | some i => { t with L := t.L.getD i en0 :: t.L.eraseIdx i }
def Tl.lookR (t : Tl) (s p : Int) (w : Bool) : Int × Bool :=
  match t.hit s p w with
  | none => (0, false)
  | some i => ((t.L.getD i en0).f, true)
end Go.Proofs.Yteognipfnbocpaa.T13
