/- Plain laws of messages: trees of nodes, what is wrong with one, its text, the message of a text; there and back. -/
import Derived.Test.YtgkphpjnfigjiaaGreatDoorPlex
import Derived.Lib.ItoaNum
namespace Ms
open Go.Lib (decDigits)

/-- a chain of nodes, or of cases: first child and next sibling -/
inductive T where
  | nil
  | node (k : Int) (x : List UInt8) (f : Int) (cs nx : T)
  | case (key : List UInt8) (body nx : T)

def hasC (k : Int) : Bool := k == 4 || k == 5
/-- is it a chain of nodes (of cases)? -/
def isN : T → Bool
  | .nil => true
  | .node _ _ _ cs nx => isC cs && isN nx
  | .case _ _ _ => false
where isC : T → Bool
  | .nil => true
  | .node _ _ _ _ _ => false
  | .case _ body nx => isN body && isC nx

def low (c : UInt8) : Bool := 97 ≤ c && c ≤ 122
def digit (c : UInt8) : Bool := 48 ≤ c && c ≤ 57
def namec (c : UInt8) : Bool := low c || digit c || c == 95
def nameB : List UInt8 → Bool
  | [] => false
  | c :: r => decide ((c :: r).length ≤ 20) && (c :: r).all namec && low c
/-- which number below 1000 has these digits -/
def numOf (r : List UInt8) : Option Nat := (List.range 1000).find? (fun n => decDigits n == r)
/-- the number of an exact key; below 0: it is none -/
def exactN : List UInt8 → Int
  | [] => -1
  | c :: r => if c = 61 then (match numOf r with
    | some n => (n : Int)
    | none => -1) else -1
def kindsL : List (List UInt8) := [[122, 101, 114, 111], [111, 110, 101], [116, 119, 111], [102, 101, 119], [109, 97, 110, 121], [111, 116, 104, 101, 114]]
def otherK : List UInt8 := [111, 116, 104, 101, 114]
def keyB (k : Int) (key : List UInt8) : Bool := if k = 5 then nameB key else kindsL.contains key || decide (0 ≤ exactN key)

/-- is a node fine, but for its offset and its cases? -/
def fine (k : Int) (x : List UInt8) (mark pw : Bool) : Bool :=
  if k = 1 then !x.isEmpty && !pw else if k = 2 ∨ k = 3 ∨ k = 4 ∨ k = 5 then nameB x else k == 6 && mark
/-- what is wrong: of nodes (kind 0), or of a node's cases (its kind; the keys that were seen) -/
def flt : T → Bool → Bool → Int → List (List UInt8) → Int
  | .nil, _, _, kind, seen => if kind = 0 then 0 else if seen.contains otherK then 0 else 2
  | .node k x f cs nx, mark, pw, _, _ =>
    if fine k x mark pw = false then 3
    else if k = 4 ∧ (f < 0 ∨ f > 9) then 1
    else if hasC k = true ∧ flt cs (mark || k == 4) false k [] ≠ 0 then flt cs (mark || k == 4) false k []
    else flt nx mark (k == 1) 0 []
  | .case key body nx, mark, _, kind, seen =>
    if keyB kind key = false then 3
    else if seen.contains key then 5
    else if flt body mark false 0 [] ≠ 0 then flt body mark false 0 []
    else flt nx mark false kind (seen ++ [key])

/-- how many nodes -/
def cnt : T → Nat
  | .nil => 0
  | .node k _ _ cs nx => 1 + (if hasC k = true then cnt cs else 0) + cnt nx
  | .case _ body nx => cnt body + cnt nx
/-- is one too deep? -/
def deepB : T → Nat → Bool
  | .nil, _ => false
  | .node k _ _ cs nx, d => decide (6 ≤ d) || (hasC k && deepB cs d) || deepB nx d
  | .case _ body nx, d => deepB body (d + 1) || deepB nx d
def big (t : T) (d : Nat) : Bool := deepB t d || decide (60 < cnt t)
/-- what is wrong with a message -/
def fault (t : T) : Int := if big t 0 = true then 4 else flt t false false 0 []

def clean : T → T
  | .nil => .nil
  | .node k x f cs nx => .node k (if k = 6 then [] else x) (if k = 4 then f else 0) (if hasC k = true then clean cs else .nil) (clean nx)
  | .case key body nx => .case key (clean body) (clean nx)

def plural : List UInt8 := [44, 32, 112, 108, 117, 114, 97, 108, 44]
def select : List UInt8 := [44, 32, 115, 101, 108, 101, 99, 116, 44]
def number : List UInt8 := [44, 32, 110, 117, 109, 98, 101, 114, 125]
def offset : List UInt8 := [32, 111, 102, 102, 115, 101, 116, 58]
/-- the text of nodes, or of cases -/
def txt : T → Bool → List UInt8
  | .nil, _ => []
  | .node k x f cs nx, mark =>
    (if k = 1 then Lx.quote mark x
     else if k = 2 then 123 :: (x ++ [125])
     else if k = 3 then 123 :: (x ++ number)
     else if k = 6 then [35]
     else if k = 4 then 123 :: (x ++ plural ++ (if f ≠ 0 then offset ++ Go.Lib.itoa f else []) ++ txt cs true ++ [125])
     else 123 :: (x ++ select ++ txt cs mark ++ [125])) ++ txt nx mark
  | .case key body nx, mark => 32 :: (key ++ [32, 123] ++ txt body mark ++ [125]) ++ txt nx mark

/-! ### reading -/
def pre (h l : List UInt8) : Option (List UInt8) := if h.isPrefixOf l = true then some (l.drop h.length) else none
def upto (p : UInt8 → Bool) (l : List UInt8) : Option (List UInt8 × List UInt8) :=
  match l.dropWhile (fun c => !p c) with
  | [] => none
  | c :: r => some (l.takeWhile (fun c => !p c), c :: r)
def words (t : List UInt8) (r : T) : T := if t.isEmpty = true then r else .node 1 t 0 .nil r
def wordsO (t : List UInt8) (o : Option (T × List UInt8)) : Option (T × List UInt8) := o.map fun p => (words t p.1, p.2)
def consO (k : Int) (x : List UInt8) (f : Int) (cs : T) (o : Option (T × List UInt8)) : Option (T × List UInt8) := o.map fun p => (.node k x f cs p.1, p.2)
/-- an offset, behind which there is a blank or a } -/
def offs (l : List UInt8) : Option (Int × List UInt8) :=
  match pre offset l with
  | none => some (0, l)
  | some r => match upto (fun c => c == 32 || c == 125) r with
    | some ([d], r') => if 49 ≤ d ∧ d ≤ 57 then some ((d.toNat : Int) - 48, r') else none
    | _ => none

mutual
/-- nodes behind their words; fuel -/
def B : Nat → Nat → Bool → List UInt8 → Option (T × List UInt8)
  | 0, _, _, _ => none
  | n + 1, deep, mark, r =>
    match pre [123] r with
    | some r1 => match upto (fun c => c == 44 || c == 125) r1 with
      | none => none
      | some (x, r2) => match pre [125] r2 with
        | some r3 => consO 2 x 0 .nil (N n deep mark r3)
        | none => match pre number r2 with
          | some r3 => consO 3 x 0 .nil (N n deep mark r3)
          | none => match pre select r2 with
            | some r3 => match C n deep mark r3 with
              | none => none
              | some (cs, r4) => consO 5 x 0 cs (N n deep mark r4)
            | none => match pre plural r2 with
              | none => none
              | some r3 => match offs r3 with
                | none => none
                | some (f, r4) => match C n deep true r4 with
                  | none => none
                  | some (cs, r5) => consO 4 x f cs (N n deep mark r5)
    | none => match (if mark = true then pre [35] r else none) with
      | some r1 => consO 6 [] 0 .nil (N n deep mark r1)
      | none => some (.nil, r)
/-- nodes -/
def N : Nat → Nat → Bool → List UInt8 → Option (T × List UInt8)
  | 0, _, _, _ => none
  | n + 1, deep, mark, l => match Lx.bare mark l with
    | none => none
    | some (t, e) => wordsO t (B n deep mark (l.drop e))
/-- cases, and the } behind them -/
def C : Nat → Nat → Bool → List UInt8 → Option (T × List UInt8)
  | 0, _, _, _ => none
  | n + 1, deep, mark, l =>
    match pre [125] l with
    | some r => some (.nil, r)
    | none => match pre [32] l with
      | none => none
      | some r1 => match upto (fun c => c == 32) r1 with
        | none => none
        | some (key, r2) => match pre [32, 123] r2 with
          | none => none
          | some r3 => if 6 ≤ deep then none else match N n (deep + 1) mark r3 with
            | none => none
            | some (b, r4) => match pre [125] r4 with
              | none => none
              | some r5 => (C n deep mark r5).map fun p => (.case key b p.1, p.2)
end

/-! ### there and back: enough fuel -/
theorem pre_self (h t : List UInt8) : pre h (h ++ t) = some t := by
  unfold pre
  rw [if_pos (by rw [List.isPrefixOf_iff_prefix]; exact List.prefix_append h t), List.drop_append_of_le_length (Nat.le_refl _), List.drop_length, List.nil_append]
theorem pre_one (c : UInt8) (t : List UInt8) : pre [c] (c :: t) = some t := pre_self [c] t
theorem pre_ne {c d : UInt8} {h t : List UInt8} (hne : c ≠ d) : pre (c :: h) (d :: t) = none := by
  unfold pre
  rw [if_neg]
  simp [List.isPrefixOf, hne]
theorem pre_nil {c : UInt8} {h : List UInt8} : pre (c :: h) [] = none := by
  unfold pre; rw [if_neg]; simp [List.isPrefixOf]
theorem upto_at {p : UInt8 → Bool} {x : List UInt8} {c : UInt8} {t : List UInt8} (hx : ∀ d ∈ x, p d = false) (hc : p c = true) : upto p (x ++ c :: t) = some (x, c :: t) := by
  unfold upto
  have h1 : (x ++ c :: t).dropWhile (fun d => !p d) = c :: t := by
    induction x with
    | nil => rw [List.nil_append, List.dropWhile_cons_of_neg (by simp [hc])]
    | cons a r ih =>
      rw [List.cons_append, List.dropWhile_cons_of_pos (by simp [hx a (by simp)])]
      exact ih (fun d hd => hx d (by simp [hd]))
  have h2 : (x ++ c :: t).takeWhile (fun d => !p d) = x := by
    induction x with
    | nil => rw [List.nil_append, List.takeWhile_cons_of_neg (by simp [hc])]
    | cons a r ih =>
      rw [List.cons_append, List.takeWhile_cons_of_pos (by simp [hx a (by simp)]), ih (fun d hd => hx d (by simp [hd]))]
      rw [List.cons_append, List.dropWhile_cons_of_pos (by simp [hx a (by simp)])] at h1
      exact h1
  rw [h1]
  show some (_, c :: t) = _
  rw [h2]

theorem nameB_chars {x : List UInt8} (h : nameB x = true) : ∀ c ∈ x, namec c = true := by
  cases x with
  | nil => cases h
  | cons a r =>
    simp only [nameB, Bool.and_eq_true] at h
    exact fun c hc => List.all_eq_true.1 h.1.2 c hc
theorem namec_ne {c d : UInt8} (h : namec c = true) (hd : namec d = false) : c ≠ d := by
  rintro rfl; rw [h] at hd; cases hd

theorem dec_digit : ∀ (n : Nat), ∀ c ∈ decDigits n, digit c = true := by
  intro n
  induction n using Nat.strongRecOn with
  | _ n ih =>
    intro c hc
    have hb : ∀ k, k < 10 → digit (UInt8.ofNat (48 + k)) = true := by decide
    by_cases h : n < 10
    · rw [decDigits, dif_pos h] at hc
      rw [List.mem_singleton.1 hc]; exact hb n h
    · rw [decDigits, dif_neg h] at hc
      rcases List.mem_append.1 hc with h1 | h1
      · exact ih (n / 10) (by omega) c h1
      · rw [List.mem_singleton.1 h1]; exact hb _ (Nat.mod_lt _ (by omega))
theorem exactN_cons (c : UInt8) (r : List UInt8) : exactN (c :: r) = if c = 61 then (match numOf r with
    | some n => (n : Int)
    | none => -1) else -1 := by simp only [exactN]
theorem exact_cons {key : List UInt8} (h : 0 ≤ exactN key) : ∃ (r : List UInt8) (n : Nat), key = 61 :: r ∧ decDigits n = r ∧ n < 1000 ∧ exactN key = n := by
  cases key with
  | nil => exact absurd h (by decide)
  | cons c r =>
    rw [exactN_cons] at h ⊢
    by_cases hc : c = 61
    · rw [if_pos hc] at h ⊢
      cases hf : numOf r with
      | none => rw [hf] at h; exact absurd h (by decide)
      | some n =>
        unfold numOf at hf
        have h1 := List.find?_some hf
        have h3 := List.mem_of_find?_eq_some hf
        exact ⟨r, n, by rw [hc], by simpa using h1, List.mem_range.1 h3, rfl⟩
    · rw [if_neg hc] at h; exact absurd h (by decide)
theorem exact_chars {key : List UInt8} (h : 0 ≤ exactN key) : ∀ c ∈ key, c ≠ 32 := by
  obtain ⟨r, n, rfl, h2, _, _⟩ := exact_cons h
  intro c hc
  rcases List.mem_cons.1 hc with rfl | h3
  · decide
  · rw [← h2] at h3
    have := dec_digit n c h3
    rintro rfl
    revert this; decide
theorem keyB_chars {k : Int} {key : List UInt8} (h : keyB k key = true) : ∀ c ∈ key, c ≠ 32 := by
  unfold keyB at h
  split at h
  · intro c hc
    exact namec_ne (nameB_chars h c hc) (by decide)
  · rw [Bool.or_eq_true] at h
    rcases h with h | h
    · have hm : key ∈ kindsL := by simpa using h
      intro c hc
      have : ∀ l ∈ kindsL, ∀ c ∈ l, c ≠ 32 := by decide
      exact this key hm c hc
    · exact exact_chars (of_decide_eq_true h)

/-! ### lengths -/
theorem pre_len {h l r : List UInt8} (e : pre h l = some r) : r.length + h.length = l.length := by
  unfold pre at e
  split at e
  · rename_i hp
    rw [List.isPrefixOf_iff_prefix] at hp
    have := hp.length_le
    cases e
    rw [List.length_drop]; omega
  · cases e
theorem upto_len {p : UInt8 → Bool} {l x r : List UInt8} (e : upto p l = some (x, r)) : x.length + r.length = l.length ∧ 1 ≤ r.length := by
  unfold upto at e
  split at e
  · cases e
  · rename_i c r' hd
    cases e
    have := congrArg List.length (List.takeWhile_append_dropWhile (p := fun c => !p c) (l := l))
    rw [List.length_append, hd] at this
    exact ⟨this, by simp⟩
theorem offs_len {l r : List UInt8} {f : Int} (e : offs l = some (f, r)) : r.length ≤ l.length := by
  unfold offs at e
  split at e
  · cases e; exact Nat.le_refl _
  · rename_i r1 h1
    have := pre_len h1
    split at e
    · rename_i d r' h2
      have := (upto_len h2).1
      split at e
      · cases e; simp at this; omega
      · cases e
    · cases e
theorem wordsO_some {t : List UInt8} {o : Option (T × List UInt8)} {q : T × List UInt8} (e : wordsO t o = some q) : ∃ p, o = some p ∧ q = (words t p.1, p.2) := by
  cases o with
  | none => cases e
  | some p => exact ⟨p, rfl, (Option.some.inj e).symm⟩
theorem consO_some {k : Int} {x : List UInt8} {f : Int} {cs : T} {o : Option (T × List UInt8)} {q : T × List UInt8} (e : consO k x f cs o = some q) : ∃ p, o = some p ∧ q = (.node k x f cs p.1, p.2) := by
  cases o with
  | none => cases e
  | some p => exact ⟨p, rfl, (Option.some.inj e).symm⟩

theorem B_succ (n deep : Nat) (mark : Bool) (r : List UInt8) : B (n + 1) deep mark r =
    match pre [123] r with
    | some r1 => match upto (fun c => c == 44 || c == 125) r1 with
      | none => none
      | some (x, r2) => match pre [125] r2 with
        | some r3 => consO 2 x 0 .nil (N n deep mark r3)
        | none => match pre number r2 with
          | some r3 => consO 3 x 0 .nil (N n deep mark r3)
          | none => match pre select r2 with
            | some r3 => match C n deep mark r3 with
              | none => none
              | some (cs, r4) => consO 5 x 0 cs (N n deep mark r4)
            | none => match pre plural r2 with
              | none => none
              | some r3 => match offs r3 with
                | none => none
                | some (f, r4) => match C n deep true r4 with
                  | none => none
                  | some (cs, r5) => consO 4 x f cs (N n deep mark r5)
    | none => match (if mark = true then pre [35] r else none) with
      | some r1 => consO 6 [] 0 .nil (N n deep mark r1)
      | none => some (.nil, r) := by rw [B]
theorem N_succ (n deep : Nat) (mark : Bool) (l : List UInt8) : N (n + 1) deep mark l = match Lx.bare mark l with
    | none => none
    | some (t, e) => wordsO t (B n deep mark (l.drop e)) := by rw [N]
theorem C_succ (n deep : Nat) (mark : Bool) (l : List UInt8) : C (n + 1) deep mark l =
    match pre [125] l with
    | some r => some (.nil, r)
    | none => match pre [32] l with
      | none => none
      | some r1 => match upto (fun c => c == 32) r1 with
        | none => none
        | some (key, r2) => match pre [32, 123] r2 with
          | none => none
          | some r3 => if 6 ≤ deep then none else match N n (deep + 1) mark r3 with
            | none => none
            | some (b, r4) => match pre [125] r4 with
              | none => none
              | some r5 => (C n deep mark r5).map fun p => (.case key b p.1, p.2) := by rw [C]

theorem rest_len : ∀ (n : Nat), (∀ deep mark l t r, N n deep mark l = some (t, r) → r.length ≤ l.length) ∧ (∀ deep mark l t r, B n deep mark l = some (t, r) → r.length ≤ l.length) ∧ (∀ deep mark l t r, C n deep mark l = some (t, r) → r.length ≤ l.length) := by
  intro n
  induction n with
  | zero => exact ⟨(fun _ _ _ _ _ h => by rw [N] at h; cases h), (fun _ _ _ _ _ h => by rw [B] at h; cases h), (fun _ _ _ _ _ h => by rw [C] at h; cases h)⟩
  | succ n ih =>
    obtain ⟨iN, iB, iC⟩ := ih
    refine ⟨?_, ?_, ?_⟩
    · intro deep mark l t r h
      rw [N_succ] at h
      cases hb : Lx.bare mark l with
      | none => rw [hb] at h; cases h
      | some p =>
        obtain ⟨x, e⟩ := p
        rw [hb] at h
        obtain ⟨q, hq, he⟩ := wordsO_some h
        cases he
        have := iB deep mark (l.drop e) q.1 q.2 hq
        rw [List.length_drop] at this; omega
    · intro deep mark l t r h
      rw [B_succ] at h
      cases h1 : pre [123] l with
      | none =>
        simp only [h1] at h
        cases h2 : (if mark = true then pre [35] l else none) with
        | none => simp only [h2] at h; cases h; exact Nat.le_refl _
        | some r1 =>
          simp only [h2] at h
          obtain ⟨q, hq, he⟩ := consO_some h
          cases he
          have h3 : pre [35] l = some r1 := by
            cases mark with
            | true => exact h2
            | false => cases h2
          have := pre_len h3
          have := iN deep mark r1 q.1 q.2 hq
          omega
      | some r1 =>
        simp only [h1] at h
        have l1 := pre_len h1
        cases h2 : upto (fun c => c == 44 || c == 125) r1 with
        | none => simp only [h2] at h; cases h
        | some p2 =>
          obtain ⟨x, r2⟩ := p2
          simp only [h2] at h
          have l2 := (upto_len h2).1
          cases h3 : pre [125] r2 with
          | some r3 =>
            simp only [h3] at h
            obtain ⟨q, hq, he⟩ := consO_some h
            cases he
            have := pre_len h3
            have := iN deep mark r3 q.1 q.2 hq
            omega
          | none =>
            simp only [h3] at h
            cases h4 : pre number r2 with
            | some r3 =>
              simp only [h4] at h
              obtain ⟨q, hq, he⟩ := consO_some h
              cases he
              have := pre_len h4
              have := iN deep mark r3 q.1 q.2 hq
              omega
            | none =>
              simp only [h4] at h
              cases h5 : pre select r2 with
              | some r3 =>
                simp only [h5] at h
                have := pre_len h5
                cases h6 : C n deep mark r3 with
                | none => simp only [h6] at h; cases h
                | some p6 =>
                  obtain ⟨cs, r4⟩ := p6
                  simp only [h6] at h
                  obtain ⟨q, hq, he⟩ := consO_some h
                  cases he
                  have := iC deep mark r3 cs r4 h6
                  have := iN deep mark r4 q.1 q.2 hq
                  omega
              | none =>
                simp only [h5] at h
                cases h6 : pre plural r2 with
                | none => simp only [h6] at h; cases h
                | some r3 =>
                  simp only [h6] at h
                  have := pre_len h6
                  cases h7 : offs r3 with
                  | none => simp only [h7] at h; cases h
                  | some p7 =>
                    obtain ⟨f, r4⟩ := p7
                    simp only [h7] at h
                    have := offs_len h7
                    cases h8 : C n deep true r4 with
                    | none => simp only [h8] at h; cases h
                    | some p8 =>
                      obtain ⟨cs, r5⟩ := p8
                      simp only [h8] at h
                      obtain ⟨q, hq, he⟩ := consO_some h
                      cases he
                      have := iC deep true r4 cs r5 h8
                      have := iN deep mark r5 q.1 q.2 hq
                      omega
    · intro deep mark l t r h
      rw [C_succ] at h
      cases h1 : pre [125] l with
      | some r1 =>
        simp only [h1] at h; cases h
        have := pre_len h1; omega
      | none =>
        simp only [h1] at h
        cases h2 : pre [32] l with
        | none => simp only [h2] at h; cases h
        | some r1 =>
          simp only [h2] at h
          have := pre_len h2
          cases h3 : upto (fun c => c == 32) r1 with
          | none => simp only [h3] at h; cases h
          | some p3 =>
            obtain ⟨key, r2⟩ := p3
            simp only [h3] at h
            have := (upto_len h3).1
            cases h4 : pre [32, 123] r2 with
            | none => simp only [h4] at h; cases h
            | some r3 =>
              simp only [h4] at h
              have := pre_len h4
              split at h
              · cases h
              · cases h5 : N n (deep + 1) mark r3 with
                | none => simp only [h5] at h; cases h
                | some p5 =>
                  obtain ⟨b, r4⟩ := p5
                  simp only [h5] at h
                  have := iN (deep + 1) mark r3 b r4 h5
                  cases h6 : pre [125] r4 with
                  | none => simp only [h6] at h; cases h
                  | some r5 =>
                    simp only [h6] at h
                    have := pre_len h6
                    cases h7 : C n deep mark r5 with
                    | none => rw [h7] at h; cases h
                    | some p7 =>
                      rw [h7] at h
                      cases h
                      have := iC deep mark r5 p7.1 p7.2 h7
                      omega
end Ms
