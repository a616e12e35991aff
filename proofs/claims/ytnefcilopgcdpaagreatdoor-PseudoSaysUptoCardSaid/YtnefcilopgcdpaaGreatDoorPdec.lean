/-
  Numbers with a point, plain: what dec.Round, dec.Add, dec.Text, nout.Format tell.
-/
import Derived.Test.YtnefcilopgcdpaaGreatDoorBase
import Derived.Lib.Join
import Derived.Lib.IndexMore
namespace Go.Proofs.YtnefcilopgcdpaaGreatDoor
open Ms
open Go.Lib (itoa)

/-! ### numbers with a point -/
structure Dc where
  c : Int
  s : Int
deriving DecidableEq
def decBad (d : Dc) : Bool := decide (d.s < 0) || decide (9 < d.s) || decide (d.c < -1000000000000000) || decide (1000000000000000 < d.c)
/-- noughts at the end -/
def trimD : Nat → Int → Dc
  | 0, c => ⟨c, 0⟩
  | s + 1, c => if c.tmod 10 = 0 then trimD s (c.tdiv 10) else ⟨c, ((s + 1 : Nat) : Int)⟩
/-- of n, cut to k digits less: the nearest, halfway to even -/
def nearN (n k : Nat) : Nat := n / 10 ^ k + (if 10 ^ k < 2 * (n % 10 ^ k) ∨ (2 * (n % 10 ^ k) = 10 ^ k ∧ n / 10 ^ k % 2 = 1) then 1 else 0)
def roundD (d : Dc) : Dc := ⟨if d.c < 0 then -(nearN d.c.natAbs (d.s.toNat - 3) : Int) else (nearN d.c.natAbs (d.s.toNat - 3) : Int), 3⟩
def threeD (d : Dc) : Dc := if 3 < (trimD d.s.toNat d.c).s then trimD 3 (roundD (trimD d.s.toNat d.c)).c else trimD d.s.toNat d.c
def zeros (n : Nat) : List UInt8 := List.replicate n 48
def absT (c : Int) : List UInt8 := Lib.trimPrefix (itoa c) [45]
def padT (d : Dc) : List UInt8 := zeros (d.s + 1 - (absT d.c).length).toNat ++ absT d.c
def signT (c : Int) : List UInt8 := if c < 0 then [45] else []
def textD (d : Dc) : List UInt8 := if d.s ≤ 0 then signT d.c ++ absT d.c else
  signT d.c ++ (padT d).take ((padT d).length - d.s).toNat ++ [46] ++ (padT d).drop ((padT d).length - d.s).toNat
/-! ### digits by threes -/
def digits (s : List UInt8) : Bool := !s.isEmpty && s.all digit
def triples : Nat → List UInt8 → List (List UInt8)
  | 0, s => [s]
  | n + 1, s => if 3 < s.length then s.drop (s.length - 3) :: triples n (s.take (s.length - 3)) else [s]
def putD (s : List UInt8) : List UInt8 := Lib.join (triples s.length s).reverse [44]
/-- what a message tells of a number; what is wrong with it -/
def wholeT (s : List UInt8) : List UInt8 := if s.isEmpty then [48] else s
def fmtB (x : List UInt8) : List UInt8 × Int :=
  let w := Lib.trimPrefix (Lib.cut x [46]).1 [45]
  let b := (Lib.cut x [46]).2.1
  let m := Lib.hasPrefix (Lib.cut x [46]).1 [45]
  if digits (wholeT w) then ((if m then [45] else []) ++ (putD (wholeT w) ++ (if b.isEmpty then [] else [46] ++ b)), 0) else ([], 3)
def fmtD (d : Dc) : List UInt8 × Int := if decBad d then ([], 1) else fmtB (textD (threeD d))

/-- d less f, or what is wrong -/
def lessD (d : Dc) (f : Int) : Dc × Int :=
  if decBad d then (⟨0, 0⟩, 1) else if d.c - f * 10 ^ d.s.toNat < -1000000000000000 ∨ 1000000000000000 < d.c - f * 10 ^ d.s.toNat then (⟨0, 0⟩, 1) else (⟨d.c - f * 10 ^ d.s.toNat, d.s⟩, 0)
def sameD (d : Dc) (n : Int) : Bool := !decBad d && decide (0 ≤ d.c) && decide (d.c = n * 10 ^ d.s.toNat)
/-- what rules ask of a number -/
structure Op5 where
  i : Int
  v : Int
  w : Int
  f : Int
  t : Int
end Go.Proofs.YtnefcilopgcdpaaGreatDoor
