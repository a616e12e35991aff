/-
  Numbers, names and what is said, plain: dec, nout at messages' own pattern, names.Fits, eval.Say; a louder message says no less.
-/
import Derived.Test.YtnefcilopgcdpaaGreatDoorPz
import Derived.Test.YtnefcilopgcdpaaGreatDoorPrule
import Derived.Test.YtnefcilopgcdpaaGreatDoorPdec
import Derived.Test.YtnefcilopgcdpaaGreatDoorDecB
namespace Go.Proofs.YtnefcilopgcdpaaGreatDoor
open Go.Lib (itoa)
open Ms

/-! ### one, few, many -/
def kindGo (o : Op5) : List (List UInt8) → List (List UInt8) → List UInt8
  | t :: ts, k :: ks => if !t.isEmpty && ruleHolds o (ruleOf t) then k else kindGo o ts ks
  | _, _ => otherK
def kindOf (set : List (List UInt8)) (d : Dc) : List UInt8 := kindGo (opsOf d) set kindsL
def rankD (kind : List UInt8) (d : Dc) (key : List UInt8) : Nat := if (decide (0 ≤ exactN key) && sameD d (exactN key)) = true then 3 else if key = kind then 2 else if key = otherK then 1 else 0
def caseGo (kind : List UInt8) (d : Dc) : List (List UInt8) → Nat → Nat → Nat → Nat
  | [], _, best, _ => best
  | key :: r, i, best, rank => if rank < rankD kind d key then caseGo kind d r (i + 1) i (rankD kind d key) else caseGo kind d r (i + 1) best rank
def choGo (s : List UInt8) : List (List UInt8) → Nat → Nat → Nat
  | [], _, best => best
  | key :: r, i, best => if key = s then i else choGo s r (i + 1) (if key = otherK then i else best)
def keysT : T → List (List UInt8)
  | .case key _ nx => key :: keysT nx
  | _ => []
/-! ### names -/
structure Need where
  nm : List UInt8
  num : Bool
  text : Bool
structure Ar where
  nm : List UInt8
  num : Bool
  d : Dc
  tx : List UInt8
def addNew (l : List Need) (x : List UInt8) : List Need := if l.any (fun n => n.nm == x) then l else l ++ [⟨x, false, false⟩]
def addAt (k : Int) (n : Need) : Need := { n with num := n.num || (k == 3 || k == 4), text := n.text || k == 5 }
def addNeed (l : List Need) (k : Int) (x : List UInt8) : List Need :=
  if k = 1 ∨ k = 6 then l else (addNew l x).modify ((addNew l x).findIdx (fun n => n.nm == x)) (addAt k)
def needsT : T → List Need → List Need
  | .nil, l => l
  | .node k x _ cs nx, l => needsT nx (if hasC k = true then needsT cs (addNeed l k x) else addNeed l k x)
  | .case _ body nx, l => needsT nx (needsT body l)
def argsGo : List Ar → List (List UInt8 × Bool) → Int × List (List UInt8 × Bool)
  | [], seen => (0, seen)
  | a :: r, seen => if nameB a.nm = false then (3, seen) else if (a.num && decBad a.d) = true then (1, seen) else if seen.any (fun p => p.1 == a.nm) then (5, seen) else argsGo r (seen ++ [(a.nm, a.num)])
def needsGo (seen : List (List UInt8 × Bool)) : List Need → Int
  | [] => 0
  | n :: r => match seen.find? (fun p => p.1 == n.nm) with
    | none => 2
    | some p => if ((n.num && !p.2) || (n.text && p.2)) = true then 7 else needsGo seen r
def ofFault (t : T) : Int := if fault t ≠ 0 then fault t else if (needsT t []).any (fun n => n.num && n.text) then 7 else 0
def fitsE (t : T) (al : List Ar) : Int := if ofFault t ≠ 0 then ofFault t else if (argsGo al []).1 ≠ 0 then (argsGo al []).1 else needsGo (argsGo al []).2 (needsT t [])
/-! ### what is said -/
structure Env where
  set : List (List UInt8)
  args : List Ar
def argOf (al : List Ar) (x : List UInt8) : Ar := match al.find? (fun a => a.nm == x) with
  | some a => a
  | none => ⟨[], false, ⟨0, 0⟩, []⟩
def showA (a : Ar) : List UInt8 := if a.num then textD a.d else a.tx
def spk (E : Env) : T → Nat → Dc → List UInt8 × Int
  | .nil, _, _ => ([], 0)
  | .case _ body nx, i, m => match i with
    | 0 => spk E body 0 m
    | i + 1 => spk E nx i m
  | .node k x f cs nx, _, m =>
    let o : List UInt8 × Int :=
      if k = 1 then (x, 0) else if k = 6 then fmtD m else if k = 3 then fmtD (argOf E.args x).d
      else if k = 4 then (if (lessD (argOf E.args x).d f).2 ≠ 0 then ([], (lessD (argOf E.args x).d f).2) else spk E cs (caseGo (kindOf E.set (lessD (argOf E.args x).d f).1) (argOf E.args x).d (keysT cs) 0 0 0) (lessD (argOf E.args x).d f).1)
      else if k = 5 then spk E cs (choGo (argOf E.args x).tx (keysT cs) 0 0) m
      else (showA (argOf E.args x), 0)
    if o.2 ≠ 0 then o else (o.1 ++ (spk E nx 0 m).1, (spk E nx 0 m).2)
def sayE (t : T) (lang : List UInt8) (al : List Ar) : List UInt8 × Int :=
  if fitsE t al ≠ 0 then ([], fitsE t al) else if (spk ⟨setOf lang, al⟩ t 0 ⟨0, 0⟩).2 ≠ 0 then ([], (spk ⟨setOf lang, al⟩ t 0 ⟨0, 0⟩).2) else ((spk ⟨setOf lang, al⟩ t 0 ⟨0, 0⟩).1, 0)

/-! ### louder -/
theorem pz_keys : ∀ t : T, keysT (pz t) = keysT t
  | .nil => rfl
  | .node _ _ _ _ _ => rfl
  | .case key body nx => by simp only [pz, keysT, pz_keys nx]
theorem pz_needs : ∀ (t : T) (l : List Need), needsT (pz t) l = needsT t l
  | .nil, _ => rfl
  | .node k x f cs nx, l => by
    have ha : addNeed l k (if k = 1 then dbl x else if k = 6 then [] else x) = addNeed l k x := by
      unfold addNeed
      by_cases h : k = 1 ∨ k = 6
      · rw [if_pos h, if_pos h]
      · rw [if_neg h, if_neg h, if_neg (fun e => h (.inl e)), if_neg (fun e => h (.inr e))]
    simp only [pz, needsT, ha, pz_needs nx]
    by_cases hc : hasC k = true
    · simp only [hc, if_true, pz_needs cs]
    · simp [hc]
  | .case key body nx, l => by simp only [pz, needsT, pz_needs body, pz_needs nx]
theorem pz_ofFault (t : T) : ofFault (pz t) = ofFault t := by unfold ofFault; rw [pz_fault, pz_needs]
theorem pz_fits (t : T) (al : List Ar) : fitsE (pz t) al = fitsE t al := by unfold fitsE; rw [pz_ofFault, pz_needs]
theorem pz_spk (E : Env) : ∀ (t : T) (i : Nat) (m : Dc), (spk E (pz t) i m).2 = (spk E t i m).2 ∧ (spk E t i m).1.length ≤ (spk E (pz t) i m).1.length
  | .nil, _, _ => ⟨rfl, Nat.le_refl _⟩
  | .case key body nx, i, m => by
    cases i with
    | zero => exact pz_spk E body 0 m
    | succ i => exact pz_spk E nx i m
  | .node k x f cs nx, i, m => by
    have hx := pz_spk E nx 0 m
    have key : ∀ o o' : List UInt8 × Int, o'.2 = o.2 → o.1.length ≤ o'.1.length →
        (if o'.2 ≠ 0 then o' else (o'.1 ++ (spk E (pz nx) 0 m).1, (spk E (pz nx) 0 m).2)).2 = (if o.2 ≠ 0 then o else (o.1 ++ (spk E nx 0 m).1, (spk E nx 0 m).2)).2 ∧
        (if o.2 ≠ 0 then o else (o.1 ++ (spk E nx 0 m).1, (spk E nx 0 m).2)).1.length ≤ (if o'.2 ≠ 0 then o' else (o'.1 ++ (spk E (pz nx) 0 m).1, (spk E (pz nx) 0 m).2)).1.length := by
      intro o o' h2 h1
      rw [h2]
      by_cases h : o.2 ≠ 0
      · rw [if_pos h, if_pos h]; exact ⟨h2, h1⟩
      · rw [if_neg h, if_neg h]; exact ⟨hx.1, by simp only [List.length_append]; omega⟩
    simp only [pz, spk]
    apply key
    all_goals
      by_cases h1 : k = 1
      · subst h1; simp [(dbl_len x).1]
      · by_cases h6 : k = 6
        · subst h6; simp
        · rw [if_neg h1, if_neg h6, if_neg h1, if_neg h1, if_neg h6]
          by_cases h3 : k = 3
          · subst h3; simp
          · by_cases h4 : k = 4
            · subst h4
              have hc := pz_spk E cs
              simp only [show hasC 4 = true from rfl, if_true, pz_keys]
              by_cases he : (lessD (argOf E.args x).d f).2 ≠ 0
              · simp [he]
              · simp [he, hc]
            · by_cases h5 : k = 5
              · subst h5
                have hc := pz_spk E cs
                simp [show hasC 5 = true from rfl, pz_keys, hc]
              · simp [h6, h3, h4, h5]
theorem pz_say (t : T) (lang : List UInt8) (al : List Ar) : (sayE (pz t) lang al).2 = (sayE t lang al).2 ∧ (sayE t lang al).1.length ≤ (sayE (pz t) lang al).1.length := by
  have h := pz_spk ⟨setOf lang, al⟩ t 0 ⟨0, 0⟩
  unfold sayE
  rw [pz_fits, h.1]
  split
  · simp
  · split
    · simp
    · exact ⟨rfl, h.2⟩
end Go.Proofs.YtnefcilopgcdpaaGreatDoor
