/-
  Rules, plain: what rule.Parse reads, what rule.Text tells, when a rule is so; the languages' rules.
-/
import Derived.Test.YtnefcilopgcdpaaGreatDoorSpl
import Derived.Test.YtnefcilopgcdpaaGreatDoorPdec
import Derived.Lib.AtoiAll
import Derived.Lib.Join
namespace Go.Proofs.YtnefcilopgcdpaaGreatDoor

structure Re where
  op : Nat
  md : Int
  no : Bool
  rs : List (Int × Int)
/-- strconv.Atoi, or -1 -/
def numR (s : List UInt8) : Int := match Lib.atoiAll s with
  | .ok v => v
  | _ => -1
def rngOf (w : List UInt8) : Int × Int := if (Lib.cut w [46, 46]).2.2 then (numR (Lib.cut w [46, 46]).1, numR (Lib.cut w [46, 46]).2.1) else (numR (Lib.cut w [46, 46]).1, numR (Lib.cut w [46, 46]).1)
/-- head, tail, not -/
def headOf (s : List UInt8) : List UInt8 × List UInt8 × Bool :=
  if (Lib.cut s [32, 61, 32]).2.2 then ((Lib.cut s [32, 61, 32]).1, (Lib.cut s [32, 61, 32]).2.1, false) else ((Lib.cut s [32, 33, 61, 32]).1, (Lib.cut s [32, 33, 61, 32]).2.1, true)
def opOf : List UInt8 → Nat
  | [c] => c.toNat
  | _ => 0
def relOf (s : List UInt8) : Re :=
  { op := opOf (Lib.cut (headOf s).1 [32, 37, 32]).1, md := if (Lib.cut (headOf s).1 [32, 37, 32]).2.2 then numR (Lib.cut (headOf s).1 [32, 37, 32]).2.1 else 0, no := (headOf s).2.2, rs := (split [44] (headOf s).2.1).map rngOf }
def relsOf (p : List UInt8) : List Re := (split [32, 97, 110, 100, 32] p).map relOf
def ruleOf (s : List UInt8) : List (List Re) := (split [32, 111, 114, 32] s).map relsOf
/-! ### is it right? -/
def opsL : List Nat := [110, 105, 118, 119, 102, 116]
def rngBad (p : Int × Int) : Bool := decide (p.1 < 0) || decide (p.2 < p.1) || decide (1000000 < p.2)
def relFine (r : Re) : Bool := opsL.contains r.op && decide (0 ≤ r.md) && decide (r.md ≤ 1000000) && !r.rs.isEmpty && !r.rs.any rngBad
def partFine (p : List Re) : Bool := !p.isEmpty && p.all relFine
def ruleFine (r : List (List Re)) : Bool := !r.isEmpty && r.all partFine && decide ((r.map List.length).sum ≤ 20)
/-! ### its text -/
def rngText (p : Int × Int) : List UInt8 := if p.1 = p.2 then Lib.itoa p.1 else Lib.itoa p.1 ++ [46, 46] ++ Lib.itoa p.2
def relText (r : Re) : List UInt8 := ([UInt8.ofNat r.op] ++ (if r.md = 0 then [] else [32, 37, 32] ++ Lib.itoa r.md) ++ (if r.no then [32, 33, 61, 32] else [32, 61, 32])) ++ Lib.join (r.rs.map rngText) [44]
def partText (p : List Re) : List UInt8 := Lib.join (p.map relText) [32, 97, 110, 100, 32]
def ruleText (r : List (List Re)) : List UInt8 := Lib.join (r.map partText) [32, 111, 114, 32]
/-! ### when it is so -/
def opVal (c : Nat) (o : Op5) : Int := if c = 110 ∨ c = 105 then o.i else if c = 118 then o.v else if c = 119 then o.w else if c = 102 then o.f else if c = 116 then o.t else 0
def inRng (x : Int) (p : Int × Int) : Bool := decide (p.1 ≤ x) && decide (x ≤ p.2)
def relVal (r : Re) (o : Op5) : Int := if r.md = 0 then opVal r.op o else (opVal r.op o).tmod r.md
def relHolds (o : Op5) (r : Re) : Bool := (r.rs.any (inRng (relVal r o)) && (decide (r.op ≠ 110) || decide (o.t = 0))) != r.no
def partHolds (o : Op5) (p : List Re) : Bool := !p.any fun r => !relHolds o r
def ruleHolds (o : Op5) (r : List (List Re)) : Bool := r.any (partHolds o)
/-! ### the languages -/
/-- the languages, each with its five texts (zero, one, two, few, many) -/
def langs : List (List UInt8 × List (List UInt8)) := [
  ([101, 110], [[], [105, 32, 61, 32, 49, 32, 97, 110, 100, 32, 118, 32, 61, 32, 48], [], [], []]),
  ([100, 101], [[], [105, 32, 61, 32, 49, 32, 97, 110, 100, 32, 118, 32, 61, 32, 48], [], [], []]),
  ([102, 114], [[], [105, 32, 61, 32, 48, 44, 49], [], [], []]),
  ([106, 97], [[], [], [], [], []]),
  ([112, 108], [[], [105, 32, 61, 32, 49, 32, 97, 110, 100, 32, 118, 32, 61, 32, 48], [], [118, 32, 61, 32, 48, 32, 97, 110, 100, 32, 105, 32, 37, 32, 49, 48, 32, 61, 32, 50, 46, 46, 52, 32, 97, 110, 100, 32, 105, 32, 37, 32, 49, 48, 48, 32, 33, 61, 32, 49, 50, 46, 46, 49, 52], [118, 32, 61, 32, 48, 32, 97, 110, 100, 32, 105, 32, 33, 61, 32, 49, 32, 97, 110, 100, 32, 105, 32, 37, 32, 49, 48, 32, 61, 32, 48, 46, 46, 49, 32, 111, 114, 32, 118, 32, 61, 32, 48, 32, 97, 110, 100, 32, 105, 32, 37, 32, 49, 48, 32, 61, 32, 53, 46, 46, 57, 32, 111, 114, 32, 118, 32, 61, 32, 48, 32, 97, 110, 100, 32, 105, 32, 37, 32, 49, 48, 48, 32, 61, 32, 49, 50, 46, 46, 49, 52]]),
  ([114, 117], [[], [118, 32, 61, 32, 48, 32, 97, 110, 100, 32, 105, 32, 37, 32, 49, 48, 32, 61, 32, 49, 32, 97, 110, 100, 32, 105, 32, 37, 32, 49, 48, 48, 32, 33, 61, 32, 49, 49], [], [118, 32, 61, 32, 48, 32, 97, 110, 100, 32, 105, 32, 37, 32, 49, 48, 32, 61, 32, 50, 46, 46, 52, 32, 97, 110, 100, 32, 105, 32, 37, 32, 49, 48, 48, 32, 33, 61, 32, 49, 50, 46, 46, 49, 52], [118, 32, 61, 32, 48, 32, 97, 110, 100, 32, 105, 32, 37, 32, 49, 48, 32, 61, 32, 48, 32, 111, 114, 32, 118, 32, 61, 32, 48, 32, 97, 110, 100, 32, 105, 32, 37, 32, 49, 48, 32, 61, 32, 53, 46, 46, 57, 32, 111, 114, 32, 118, 32, 61, 32, 48, 32, 97, 110, 100, 32, 105, 32, 37, 32, 49, 48, 48, 32, 61, 32, 49, 49, 46, 46, 49, 52]]),
  ([97, 114], [[110, 32, 61, 32, 48], [110, 32, 61, 32, 49], [110, 32, 61, 32, 50], [110, 32, 37, 32, 49, 48, 48, 32, 61, 32, 51, 46, 46, 49, 48], [110, 32, 37, 32, 49, 48, 48, 32, 61, 32, 49, 49, 46, 46, 57, 57]]),
  ([108, 118], [[110, 32, 37, 32, 49, 48, 32, 61, 32, 48, 32, 111, 114, 32, 110, 32, 37, 32, 49, 48, 48, 32, 61, 32, 49, 49, 46, 46, 49, 57, 32, 111, 114, 32, 118, 32, 61, 32, 50, 32, 97, 110, 100, 32, 102, 32, 37, 32, 49, 48, 48, 32, 61, 32, 49, 49, 46, 46, 49, 57], [110, 32, 37, 32, 49, 48, 32, 61, 32, 49, 32, 97, 110, 100, 32, 110, 32, 37, 32, 49, 48, 48, 32, 33, 61, 32, 49, 49, 32, 111, 114, 32, 118, 32, 61, 32, 50, 32, 97, 110, 100, 32, 102, 32, 37, 32, 49, 48, 32, 61, 32, 49, 32, 97, 110, 100, 32, 102, 32, 37, 32, 49, 48, 48, 32, 33, 61, 32, 49, 49, 32, 111, 114, 32, 118, 32, 33, 61, 32, 50, 32, 97, 110, 100, 32, 102, 32, 37, 32, 49, 48, 32, 61, 32, 49], [], [], []])]
def noSet : List (List UInt8) := [[], [], [], [], []]
def setOf (l : List UInt8) : List (List UInt8) := match langs.find? (fun p => p.1 == l) with
  | some p => p.2
  | none => noSet
/-- a rule's text that is read and told again -/
def okText (s : List UInt8) : Bool := ruleFine (ruleOf s) && decide (ruleText (ruleOf s) = s) && decide (s.length ≤ 200) && (ruleOf s).all fun p => p.all fun r => r.rs.all fun q => decide (q.1 ≤ 1000000)
theorem langs_ok : ∀ p ∈ langs, p.2.length = 5 ∧ ∀ s ∈ p.2, s = [] ∨ okText s = true := by decide +kernel
theorem setOf_ok (l : List UInt8) : (setOf l).length = 5 ∧ ∀ s ∈ setOf l, s = [] ∨ okText s = true := by
  unfold setOf
  split
  · next p hp => exact langs_ok p (List.mem_of_find?_eq_some hp)
  · decide
end Go.Proofs.YtnefcilopgcdpaaGreatDoor
