/-
  Plain laws of quoting: what Quote and Bare compute, as functions on lists of bytes, and that they go there and back.
  Plain laws of messages: trees of nodes, what is wrong with one, its text, the message of a text; there and back.
  Plain laws of messages: fuel is no matter; a message is that of its text.
  Small lemmas for the walks of this seat: regions behind regions, worlds behind draws, results.
  A message in a world: slices of nodes and of cases that read as a tree.
  Plain laws of messages one behind the other, and of one case more.
  Plain laws of the reader of messages: what a head is; what was read so far; what is read is clean, and no greater than its text; there and back.
  Cells of blocks, and worlds that only grew.
-/
import Derived.Lib.ItoaNum
import Derived.WalkKit
import Derived.BigCall
import Derived.BigQuiet
import Derived.Deep.QuietTactic
import Derived.Deep.LoopGhost
import Derived.Deep.DeepFit
import Derived.Lib.Hide
import Derived.WalkMore
import Derived.WalkSmall
import Derived.WalkLawsBesides
import Derived.WalkSpells
import Derived.Outline
import Derived.WideLaws
import Derived.LaidEql
import Derived.Lib.OthersKept
import Derived.Lib.Bytealg
import Derived.Lib.IndexBytes
import Derived.Lib.Builder
import Derived.Test.YtnefcilopgcdpaaGreatDoorProg
namespace Lx

/-- a sign: { } and, with mark, # -/
def sg (m : Bool) (c : UInt8) : Bool := c == 123 || c == 125 || (m && c == 35)
/-- a sign or a quote -/
def sp (m : Bool) (c : UInt8) : Bool := sg m c || c == 39
/-- each quote twice -/
def dup (r : List UInt8) : List UInt8 := r.flatMap fun c => if c == 39 then [39, 39] else [c]
/-- a run of signs and quotes, quoted -/
def dupq (m : Bool) (r : List UInt8) : List UInt8 := if r.any (sg m) then 39 :: (dup r ++ [39]) else dup r
/-- quoting, with a run that is not closed yet -/
def qz (m : Bool) : List UInt8 → List UInt8 → List UInt8
  | r, [] => dupq m r
  | r, c :: s => if sp m c then qz m (r ++ [c]) s else dupq m r ++ c :: qz m [] s
def quote (m : Bool) (s : List UInt8) : List UInt8 := qz m [] s

def add (l : List UInt8) (k : Nat) : Option (List UInt8 × Nat) → Option (List UInt8 × Nat)
  | none => none
  | some (t, n) => some (l ++ t, k + n)

/-- reading: outside quotes (false), inside (true) -/
def az (m : Bool) : Bool → List UInt8 → Option (List UInt8 × Nat)
  | false, [] => some ([], 0)
  | true, [] => none
  | true, [c] => if c == 39 then some ([], 1) else none
  | true, c :: d :: s => if c == 39 then (if d == 39 then add [39] 2 (az m true s) else add [] 1 (az m false (d :: s))) else add [c] 1 (az m true (d :: s))
  | false, [c] => if sg m c then some ([], 0) else some ([c], 1)
  | false, c :: d :: s => if sg m c then some ([], 0) else if c == 39 then (if d == 39 then add [39] 2 (az m false s) else if sg m d then add [] 1 (az m true (d :: s)) else add [c] 1 (az m false (d :: s))) else add [c] 1 (az m false (d :: s))
def bare (m : Bool) (s : List UInt8) : Option (List UInt8 × Nat) := az m false s

/-- the end of what is read: nothing, or a sign -/
def Ends (m : Bool) (t : List UInt8) : Prop := t = [] ∨ ∃ c s, t = c :: s ∧ sg m c = true

theorem sg39 (m : Bool) : sg m 39 = false := by cases m <;> rfl

theorem add_some {l k t n} : add l k (some (t, n)) = some (l ++ t, k + n) := rfl
theorem add_add (l k l' k' x) : add l k (add l' k' x) = add (l ++ l') (k + k') x := by
  cases x with
  | none => rfl
  | some p => obtain ⟨t, n⟩ := p; simp [add, Nat.add_assoc]
theorem add_eq {l l' k k' x} (h : l = l') (g : k = k') : add l k x = add l' k' x := by rw [h, g]
theorem add_nil (x) : add [] 0 x = x := by
  cases x with
  | none => rfl
  | some p => obtain ⟨t, n⟩ := p; simp [add]

theorem az_end (m : Bool) (t : List UInt8) (h : Ends m t) : az m false t = some ([], 0) := by
  rcases h with rfl | ⟨c, s, rfl, hc⟩
  · rfl
  · cases s with
    | nil => simp [az, hc]
    | cons d s => simp [az, hc]

/-- a byte that is no sign and no quote -/
theorem az_plain (m : Bool) (c : UInt8) (s) (hc : sp m c = false) : az m false (c :: s) = add [c] 1 (az m false s) := by
  simp only [sp, Bool.or_eq_false_iff] at hc
  cases s with
  | nil => simp [az, hc.1, add]
  | cons d s => simp [az, hc.1, hc.2]

theorem az_pair (m : Bool) (s) : az m false (39 :: 39 :: s) = add [39] 2 (az m false s) := by
  simp [az, sg39]

/-- inside: what does not begin with a quote closes -/
theorem az_close (m : Bool) (s : List UInt8) (h : s.head? ≠ some 39) : az m true (39 :: s) = add [] 1 (az m false s) := by
  cases s with
  | nil => simp [az, add]
  | cons d s =>
    have : d ≠ 39 := by simpa using h
    simp [az, this]
theorem az_in_pair (m : Bool) (s) : az m true (39 :: 39 :: s) = add [39] 2 (az m true s) := by simp [az]
theorem az_in (m : Bool) (c) (s) (hc : c ≠ 39) (hs : s ≠ []) : az m true (c :: s) = add [c] 1 (az m true s) := by
  cases s with
  | nil => exact absurd rfl hs
  | cons d s => simp [az, hc]

theorem dup_nil : dup [] = [] := rfl
theorem dup_cons (c r) : dup (c :: r) = (if c == 39 then [39, 39] else [c]) ++ dup r := by simp [dup]
theorem dup_append (a b) : dup (a ++ b) = dup a ++ dup b := by simp [dup]

/-- inside: a run, then the closing quote -/
theorem az_in_dup (m : Bool) (r t) (h : t.head? ≠ some 39) : az m true (dup r ++ 39 :: t) = add r (dup r).length (add [] 1 (az m false t)) := by
  induction r with
  | nil => simp [dup_nil, az_close m t h, add_add]
  | cons c r ih =>
    rw [dup_cons]
    by_cases hc : c = 39
    · subst hc
      simp only [beq_self_eq_true, ↓reduceIte, List.cons_append, List.nil_append]
      rw [az_in_pair, ih, add_add]
      exact add_eq (by simp) (by simp; omega)
    · simp only [beq_iff_eq, hc, ↓reduceIte, List.cons_append, List.nil_append]
      rw [az_in m c _ hc (by simp), ih, add_add]
      exact add_eq (by simp) (by simp; omega)

/-- outside: a quoted run with a sign -/
theorem az_run (m : Bool) (r t) (hr : r.any (sg m) = true) (hs : ∀ c ∈ r, sp m c = true) (h : t.head? ≠ some 39) :
    az m false (39 :: (dup r ++ 39 :: t)) = add r (2 + (dup r).length) (az m false t) := by
  induction r with
  | nil => simp at hr
  | cons c r ih =>
    by_cases hc : c = 39
    · subst hc
      have hr' : r.any (sg m) = true := by simpa [sg39] using hr
      have hsr : ∀ c ∈ r, sp m c = true := fun c hc => hs c (by simp [hc])
      rw [dup_cons]
      simp only [beq_self_eq_true, ↓reduceIte, List.cons_append, List.nil_append]
      rw [az_pair, ih hr' hsr, add_add]
      exact add_eq (by simp) (by simp; omega)
    · have hsc : sg m c = true := by
        have := hs c (by simp)
        simpa [sp, hc] using this
      have e : az m false (39 :: (dup (c :: r) ++ 39 :: t)) = add [] 1 (az m true (dup (c :: r) ++ 39 :: t)) := by
        rw [dup_cons]
        simp only [beq_iff_eq, hc, ↓reduceIte, List.cons_append, List.nil_append]
        simp [az, sg39, hc, hsc]
      rw [e, az_in_dup m _ _ h, add_add, add_add]
      simp
      congr 1; omega
theorem az_quotes (m : Bool) (r t) (hr : r.any (sg m) = false) (hs : ∀ c ∈ r, sp m c = true) :
    az m false (dup r ++ t) = add r (dup r).length (az m false t) := by
  induction r with
  | nil => simp [dup_nil, add_nil]
  | cons c r ih =>
    simp only [List.any_cons, Bool.or_eq_false_iff] at hr
    have hc : c = 39 := by
      have := hs c (by simp)
      simpa [sp, hr.1] using this
    subst hc
    rw [dup_cons]
    simp only [beq_self_eq_true, ↓reduceIte, List.cons_append, List.nil_append]
    rw [az_pair, ih hr.2 (fun c hc => hs c (by simp [hc])), add_add]
    exact add_eq (by simp) (by simp; omega)
theorem az_dupq (m : Bool) (r t) (hs : ∀ c ∈ r, sp m c = true) (h : t.head? ≠ some 39) :
    az m false (dupq m r ++ t) = add r (dupq m r).length (az m false t) := by
  unfold dupq
  cases hr : r.any (sg m) with
  | true =>
    simp only [↓reduceIte, List.cons_append, List.append_assoc, List.nil_append]
    rw [az_run m r t hr hs h]
    simp; congr 1; omega
  | false =>
    simp only [Bool.false_eq_true, ↓reduceIte]
    exact az_quotes m r t hr hs

theorem ends_head {m t} (h : Ends m t) : t.head? ≠ some 39 := by
  rcases h with rfl | ⟨c, s, rfl, hc⟩
  · simp
  · intro e; simp at e; subst e; simp [sg39] at hc

theorem az_qz (m : Bool) (s t) (h : Ends m t) : ∀ r, (∀ c ∈ r, sp m c = true) →
    az m false (qz m r s ++ t) = some (r ++ s, (qz m r s).length) := by
  induction s with
  | nil =>
    intro r hs
    rw [qz, az_dupq m r t hs (ends_head h), az_end m t h]
    simp [add]
  | cons c s ih =>
    intro r hs
    rw [qz]
    cases hc : sp m c with
    | true =>
      simp only [↓reduceIte]
      rw [ih (r ++ [c]) (by intro x hx; rcases List.mem_append.1 hx with hx | hx; exact hs x hx; simp at hx; subst hx; exact hc)]
      simp
    | false =>
      simp only [Bool.false_eq_true, ↓reduceIte, List.append_assoc, List.cons_append]
      have hne : (c :: (qz m [] s ++ t)).head? ≠ some 39 := by
        intro e; simp at e; subst e; simp [sp] at hc
      rw [az_dupq m r _ hs hne, az_plain m c _ hc, ih [] (by simp)]
      simp [add]; omega

/-- THERE AND BACK: what is quoted is read as it was, up to its end. -/
theorem bare_quote (m : Bool) (s t) (h : Ends m t) : bare m (quote m s ++ t) = some (s, (quote m s).length) := by
  have := az_qz m s t h [] (by simp)
  simpa [bare, quote] using this
theorem bare_quote' (m : Bool) (s) : bare m (quote m s) = some (s, (quote m s).length) := by
  have := bare_quote m s [] (Or.inl rfl); simpa using this

/-! lengths -/
theorem dup_len (r : List UInt8) : r.length ≤ (dup r).length ∧ (dup r).length ≤ 2 * r.length := by
  induction r with
  | nil => simp [dup]
  | cons c r ih => rw [dup_cons]; split <;> simp <;> omega
theorem dupq_len (m r) : r.length ≤ (dupq m r).length ∧ (dupq m r).length ≤ 2 * r.length + 2 ∧ (dupq m r).length ≤ 4 * r.length := by
  have := dup_len r
  unfold dupq
  split
  · rename_i h
    have : r ≠ [] := by rintro rfl; simp at h
    have := List.length_pos_iff.2 this
    simp; omega
  · omega
theorem qz_len (m s) : ∀ r, r.length + s.length ≤ (qz m r s).length ∧ (qz m r s).length ≤ 4 * (r.length + s.length) := by
  induction s with
  | nil => intro r; have := dupq_len m r; simp [qz]; omega
  | cons c s ih =>
    intro r
    rw [qz]
    split
    · have := ih (r ++ [c]); simp at this ⊢; omega
    · have := ih []; have := dupq_len m r; simp at *; omega
theorem quote_len (m s) : s.length ≤ (quote m s).length ∧ (quote m s).length ≤ 4 * s.length := by
  have := qz_len m s []; simpa [quote] using this

theorem dupq_append_len (m a b) : (dupq m (a ++ b)).length ≤ (dupq m a).length + (dupq m b).length := by
  unfold dupq
  rw [dup_append, List.any_append]
  cases a.any (sg m) <;> cases b.any (sg m) <;> simp <;> omega
theorem qz_split (m s) : ∀ r r', (qz m (r ++ r') s).length ≤ (dupq m r).length + (qz m r' s).length := by
  induction s with
  | nil => intro r r'; exact dupq_append_len m r r'
  | cons c s ih =>
    intro r r'
    rw [qz, qz]
    split
    · rw [List.append_assoc]; exact ih r (r' ++ [c])
    · have := dupq_append_len m r r'; simp; omega
theorem qz_append_len (m s t) : ∀ r, (qz m r (s ++ t)).length ≤ (qz m r s).length + (qz m [] t).length := by
  induction s with
  | nil => intro r; have := qz_split m t r []; simpa [qz] using this
  | cons c s ih =>
    intro r
    rw [List.cons_append, qz, qz]
    split
    · exact ih _
    · have := ih []; simp at *; omega
theorem quote_append_len (m s t) : (quote m (s ++ t)).length ≤ (quote m s).length + (quote m t).length := qz_append_len m s t []

/-! runs -/
theorem qz_run (m : Bool) (p s) (hp : ∀ c ∈ p, sp m c = true) : ∀ r, qz m r (p ++ s) = qz m (r ++ p) s := by
  induction p with
  | nil => simp
  | cons c p ih =>
    intro r
    rw [List.cons_append, qz, if_pos (hp c (by simp)), ih (fun x hx => hp x (by simp [hx]))]
    simp
theorem qz_close (m : Bool) (r s) (h : ∀ c, s.head? = some c → sp m c = false) : qz m r s = dupq m r ++ qz m [] s := by
  cases s with
  | nil => simp [qz, dupq, dup]
  | cons c s =>
    have := h c rfl
    simp [qz, this, dupq, dup]
theorem quote_run (m : Bool) (p s) (hp : ∀ c ∈ p, sp m c = true) (h : ∀ c, s.head? = some c → sp m c = false) : quote m (p ++ s) = dupq m p ++ quote m s := by
  unfold quote; rw [qz_run m p s hp, List.nil_append, qz_close m p s h]
theorem quote_plain (m : Bool) (p s) (hp : ∀ c ∈ p, sp m c = false) : quote m (p ++ s) = p ++ quote m s := by
  induction p with
  | nil => rfl
  | cons c p ih =>
    have h1 := hp c (by simp)
    have : quote m (c :: (p ++ s)) = c :: quote m (p ++ s) := by simp [quote, qz, h1, dupq, dup]
    rw [List.cons_append, this, ih (fun x hx => hp x (by simp [hx]))]; rfl

/-! inside quotes alone: the text, and how much was read, the closing quote too -/
def iq : List UInt8 → Option (List UInt8 × Nat)
  | [] => none
  | [c] => if c == 39 then some ([], 1) else none
  | c :: d :: s => if c == 39 then (if d == 39 then add [39] 2 (iq s) else some ([], 1)) else add [c] 1 (iq (d :: s))
theorem iq_plain {c : UInt8} (s : List UInt8) (hc : c ≠ 39) : iq (c :: s) = add [c] 1 (iq s) := by
  cases s with
  | nil => simp [iq, hc, add]
  | cons d s => simp [iq, hc]
theorem iq_pair (s : List UInt8) : iq (39 :: 39 :: s) = add [39] 2 (iq s) := by simp [iq]
theorem iq_close (s : List UInt8) (h : s.head? ≠ some 39) : iq (39 :: s) = some ([], 1) := by
  cases s with
  | nil => simp [iq]
  | cons d s =>
    have : d ≠ 39 := by simpa using h
    simp [iq, this]
theorem az_iq (m : Bool) : ∀ (n : Nat) (l : List UInt8), l.length ≤ n → az m true l = match iq l with | none => none | some (t, k) => add t k (az m false (l.drop k)) := by
  intro n
  induction n with
  | zero =>
    intro l h
    have : l = [] := List.length_eq_zero_iff.1 (by omega)
    subst this; rfl
  | succ n ih =>
    intro l h
    cases l with
    | nil => rfl
    | cons c s =>
      by_cases hc : c = 39
      · subst hc
        by_cases hs : s.head? = some 39
        · cases s with
          | nil => simp at hs
          | cons d s =>
            simp at hs; subst hs
            rw [az_in_pair, iq_pair, ih s (by simp at h; omega)]
            cases hi : iq s with
            | none => rfl
            | some p =>
              obtain ⟨t, k⟩ := p
              simp only [add_some]
              rw [add_add]
              rw [show 2 + k = k + 1 + 1 from by omega]
              rfl
        · rw [az_close m s hs, iq_close s hs]
          simp
      · rw [iq_plain s hc]
        cases s with
        | nil => simp [az, iq, hc, add]
        | cons d s =>
          rw [az_in m c _ hc (by simp), ih (d :: s) (by simp at h ⊢; omega)]
          cases hi : iq (d :: s) with
          | none => rfl
          | some p =>
            obtain ⟨t, k⟩ := p
            simp only [add_some]
            rw [add_add, Nat.add_comm 1 k]
            rfl
theorem iq_len : ∀ (n : Nat) (l : List UInt8), l.length ≤ n → ∀ t k, iq l = some (t, k) → k ≤ l.length ∧ 1 ≤ k ∧ t.length ≤ k := by
  intro n
  induction n with
  | zero =>
    intro l h t k e
    have : l = [] := List.length_eq_zero_iff.1 (by omega)
    subst this; simp [iq] at e
  | succ n ih =>
    intro l h t k e
    cases l with
    | nil => simp [iq] at e
    | cons c s =>
      by_cases hc : c = 39
      · subst hc
        by_cases hs : s.head? = some 39
        · cases s with
          | nil => simp at hs
          | cons d s =>
            simp at hs; subst hs
            rw [iq_pair] at e
            cases hi : iq s with
            | none => rw [hi] at e; simp [add] at e
            | some p =>
              obtain ⟨t', k'⟩ := p
              rw [hi, add_some] at e
              simp at e h
              obtain ⟨rfl, rfl⟩ := e
              have := ih s (by omega) _ _ hi
              simp; omega
        · rw [iq_close s hs] at e
          simp at e
          obtain ⟨rfl, rfl⟩ := e
          simp
      · rw [iq_plain s hc] at e
        cases hi : iq s with
        | none => rw [hi] at e; simp [add] at e
        | some p =>
          obtain ⟨t', k'⟩ := p
          rw [hi, add_some] at e
          simp at e h
          obtain ⟨rfl, rfl⟩ := e
          have := ih s (by omega) _ _ hi
          simp; omega
/-- how much is read, and told, is no more than there is -/
theorem az_len (m : Bool) : ∀ (n : Nat) (b : Bool) (l : List UInt8), l.length ≤ n → ∀ t k, az m b l = some (t, k) → k ≤ l.length ∧ t.length ≤ k := by
  intro n
  induction n with
  | zero =>
    intro b l h t k e
    have : l = [] := List.length_eq_zero_iff.1 (by omega)
    subst this
    cases b <;> simp [az] at e
    obtain ⟨rfl, rfl⟩ := e
    simp
  | succ n ih =>
    have key : ∀ (b : Bool) (s : List UInt8) (l : List UInt8) (j : Nat) t k, s.length ≤ n → l.length ≤ j → add l j (az m b s) = some (t, k) → k ≤ j + s.length ∧ t.length ≤ k := by
      intro b s l j t k hs hl e
      cases hi : az m b s with
      | none => rw [hi] at e; simp [add] at e
      | some p =>
        obtain ⟨t', k'⟩ := p
        rw [hi, add_some] at e
        simp at e
        obtain ⟨rfl, rfl⟩ := e
        have := ih b s hs _ _ hi
        simp; omega
    intro b l h t k e
    match b, l, h, e with
    | false, [], _, e => simp [az] at e; obtain ⟨rfl, rfl⟩ := e; simp
    | true, [], _, e => simp [az] at e
    | true, [c], _, e =>
      simp only [az] at e
      split at e
      · simp at e; obtain ⟨rfl, rfl⟩ := e; simp
      · simp at e
    | false, [c], _, e =>
      simp only [az] at e
      split at e
      · simp at e; obtain ⟨rfl, rfl⟩ := e; simp
      · simp at e; obtain ⟨rfl, rfl⟩ := e; simp
    | true, c :: d :: s, h, e =>
      simp only [az] at e
      simp only [List.length_cons] at h ⊢
      split at e
      · split at e
        · have := key _ _ _ _ _ _ (by omega) (by simp) e; omega
        · have := key _ _ _ _ _ _ (by simp; omega) (by simp) e; simp at this; omega
      · have := key _ _ _ _ _ _ (by simp; omega) (by simp) e; simp at this; omega
    | false, c :: d :: s, h, e =>
      simp only [az] at e
      simp only [List.length_cons] at h ⊢
      split at e
      · simp at e; obtain ⟨rfl, rfl⟩ := e; simp
      · split at e
        · split at e
          · have := key _ _ _ _ _ _ (by omega) (by simp) e; omega
          · split at e
            · have := key _ _ _ _ _ _ (by simp; omega) (by simp) e; simp at this; omega
            · have := key _ _ _ _ _ _ (by simp; omega) (by simp) e; simp at this; omega
        · have := key _ _ _ _ _ _ (by simp; omega) (by simp) e; simp at this; omega
/-- by places: what stands at i decides the step -/
theorem drop_cons {l : List UInt8} {i : Nat} {c : UInt8} (h : l[i]? = some c) : l.drop i = c :: l.drop (i + 1) := by
  obtain ⟨hi, rfl⟩ := List.getElem?_eq_some_iff.1 h
  exact List.drop_eq_getElem_cons hi
theorem iq_at_plain {l : List UInt8} {i : Nat} {c : UInt8} (h : l[i]? = some c) (hc : c ≠ 39) : iq (l.drop i) = add [c] 1 (iq (l.drop (i + 1))) := by
  rw [drop_cons h, iq_plain _ hc]
theorem iq_at_pair {l : List UInt8} {i : Nat} (h : l[i]? = some 39) (h' : l[i + 1]? = some 39) : iq (l.drop i) = add [39] 2 (iq (l.drop (i + 2))) := by
  rw [drop_cons h, drop_cons h', iq_pair]
theorem iq_at_close {l : List UInt8} {i : Nat} (h : l[i]? = some 39) (h' : l[i + 1]? ≠ some 39) : iq (l.drop i) = some ([], 1) := by
  rw [drop_cons h, iq_close]
  rw [List.head?_drop]; exact h'

theorem az_at_end (m : Bool) {l : List UInt8} {i : Nat} (h : l.length ≤ i) : az m false (l.drop i) = some ([], 0) := by
  rw [List.drop_eq_nil_of_le h]; rfl
theorem az_at_sign {m : Bool} {l : List UInt8} {i : Nat} {c : UInt8} (h : l[i]? = some c) (hc : sg m c = true) : az m false (l.drop i) = some ([], 0) :=
  az_end m _ (.inr ⟨c, l.drop (i + 1), drop_cons h, hc⟩)
theorem az_at_pair (m : Bool) {l : List UInt8} {i : Nat} (h : l[i]? = some 39) (h' : l[i + 1]? = some 39) : az m false (l.drop i) = add [39] 2 (az m false (l.drop (i + 2))) := by
  rw [drop_cons h, drop_cons h', az_pair]
theorem az_at_quote {m : Bool} {l : List UInt8} {i : Nat} {d : UInt8} (h : l[i]? = some 39) (h' : l[i + 1]? = some d) (hd : sg m d = true) :
    az m false (l.drop i) = match iq (l.drop (i + 1)) with | none => none | some (t, k) => add t (1 + k) (az m false (l.drop (i + 1 + k))) := by
  have hd39 : d ≠ 39 := by rintro rfl; rw [sg39] at hd; cases hd
  have e : az m false (l.drop i) = add [] 1 (az m true (l.drop (i + 1))) := by
    rw [drop_cons h, drop_cons h']
    simp [az, sg39, hd39, hd]
  rw [e, az_iq m _ _ (Nat.le_refl _)]
  cases iq (l.drop (i + 1)) with
  | none => rfl
  | some p =>
    obtain ⟨t, k⟩ := p
    simp only [add_add, List.nil_append, List.drop_drop]
theorem az_at_plain {m : Bool} {l : List UInt8} {i : Nat} {c : UInt8} (h : l[i]? = some c) (hc : sg m c = false) (h1 : c = 39 → l[i + 1]? ≠ some 39) (h2 : c = 39 → ∀ d, l[i + 1]? = some d → sg m d = false) :
    az m false (l.drop i) = add [c] 1 (az m false (l.drop (i + 1))) := by
  rw [drop_cons h]
  by_cases hq : c = 39
  · subst hq
    have h1' := h1 rfl
    have h2' := h2 rfl
    have e : l[i + 1]? = (l.drop (i + 1)).head? := by rw [List.head?_drop]
    rw [e] at h1' h2'
    cases hd : l.drop (i + 1) with
    | nil => simp [az, sg39, add]
    | cons d t =>
      rw [hd] at h1' h2'
      have hd1 : d ≠ 39 := by simpa using h1'
      have hd2 := h2' d rfl
      simp [az, sg39, hd1, hd2]
  · exact az_plain m c _ (by simp [sp, hc, hq])
theorem az_places {m : Bool} {l : List UInt8} {t : List UInt8} {k : Nat} (h : az m false l = some (t, k)) : k ≤ l.length ∧ t.length ≤ k := az_len m _ false l (Nat.le_refl _) t k h
end Lx
namespace Ms
open Go.Lib (decDigits)

/-- a chain of nodes, or of cases: first child and next sibling -/
inductive T where
  | nil
  | node (k : Int) (x : List UInt8) (f : Int) (cs nx : T)
  | case (key : List UInt8) (body nx : T)

def hasC (k : Int) : Bool := k == 4 || k == 5
/-- is it a chain of nodes (of cases)? -/
def isN : T → Bool
  | .nil => true
  | .node _ _ _ cs nx => isC cs && isN nx
  | .case _ _ _ => false
where isC : T → Bool
  | .nil => true
  | .node _ _ _ _ _ => false
  | .case _ body nx => isN body && isC nx

def low (c : UInt8) : Bool := 97 ≤ c && c ≤ 122
def digit (c : UInt8) : Bool := 48 ≤ c && c ≤ 57
def namec (c : UInt8) : Bool := low c || digit c || c == 95
def nameB : List UInt8 → Bool
  | [] => false
  | c :: r => decide ((c :: r).length ≤ 20) && (c :: r).all namec && low c
/-- which number below 1000 has these digits -/
def numOf (r : List UInt8) : Option Nat := (List.range 1000).find? (fun n => decDigits n == r)
/-- the number of an exact key; below 0: it is none -/
def exactN : List UInt8 → Int
  | [] => -1
  | c :: r => if c = 61 then (match numOf r with
    | some n => (n : Int)
    | none => -1) else -1
def kindsL : List (List UInt8) := [[122, 101, 114, 111], [111, 110, 101], [116, 119, 111], [102, 101, 119], [109, 97, 110, 121], [111, 116, 104, 101, 114]]
def otherK : List UInt8 := [111, 116, 104, 101, 114]
def keyB (k : Int) (key : List UInt8) : Bool := if k = 5 then nameB key else kindsL.contains key || decide (0 ≤ exactN key)

/-- is a node fine, but for its offset and its cases? -/
def fine (k : Int) (x : List UInt8) (mark pw : Bool) : Bool :=
  if k = 1 then !x.isEmpty && !pw else if k = 2 ∨ k = 3 ∨ k = 4 ∨ k = 5 then nameB x else k == 6 && mark
/-- what is wrong: of nodes (kind 0), or of a node's cases (its kind; the keys that were seen) -/
def flt : T → Bool → Bool → Int → List (List UInt8) → Int
  | .nil, _, _, kind, seen => if kind = 0 then 0 else if seen.contains otherK then 0 else 2
  | .node k x f cs nx, mark, pw, _, _ =>
    if fine k x mark pw = false then 3
    else if k = 4 ∧ (f < 0 ∨ f > 9) then 1
    else if hasC k = true ∧ flt cs (mark || k == 4) false k [] ≠ 0 then flt cs (mark || k == 4) false k []
    else flt nx mark (k == 1) 0 []
  | .case key body nx, mark, _, kind, seen =>
    if keyB kind key = false then 3
    else if seen.contains key then 5
    else if flt body mark false 0 [] ≠ 0 then flt body mark false 0 []
    else flt nx mark false kind (seen ++ [key])

/-- how many nodes -/
def cnt : T → Nat
  | .nil => 0
  | .node k _ _ cs nx => 1 + (if hasC k = true then cnt cs else 0) + cnt nx
  | .case _ body nx => cnt body + cnt nx
/-- is one too deep? -/
def deepB : T → Nat → Bool
  | .nil, _ => false
  | .node k _ _ cs nx, d => decide (6 ≤ d) || (hasC k && deepB cs d) || deepB nx d
  | .case _ body nx, d => deepB body (d + 1) || deepB nx d
def big (t : T) (d : Nat) : Bool := deepB t d || decide (60 < cnt t)
/-- what is wrong with a message -/
def fault (t : T) : Int := if big t 0 = true then 4 else flt t false false 0 []

def clean : T → T
  | .nil => .nil
  | .node k x f cs nx => .node k (if k = 6 then [] else x) (if k = 4 then f else 0) (if hasC k = true then clean cs else .nil) (clean nx)
  | .case key body nx => .case key (clean body) (clean nx)

def plural : List UInt8 := [44, 32, 112, 108, 117, 114, 97, 108, 44]
def select : List UInt8 := [44, 32, 115, 101, 108, 101, 99, 116, 44]
def number : List UInt8 := [44, 32, 110, 117, 109, 98, 101, 114, 125]
def offset : List UInt8 := [32, 111, 102, 102, 115, 101, 116, 58]
/-- the text of nodes, or of cases -/
def txt : T → Bool → List UInt8
  | .nil, _ => []
  | .node k x f cs nx, mark =>
    (if k = 1 then Lx.quote mark x
     else if k = 2 then 123 :: (x ++ [125])
     else if k = 3 then 123 :: (x ++ number)
     else if k = 6 then [35]
     else if k = 4 then 123 :: (x ++ plural ++ (if f ≠ 0 then offset ++ Go.Lib.itoa f else []) ++ txt cs true ++ [125])
     else 123 :: (x ++ select ++ txt cs mark ++ [125])) ++ txt nx mark
  | .case key body nx, mark => 32 :: (key ++ [32, 123] ++ txt body mark ++ [125]) ++ txt nx mark

/-! ### reading -/
def pre (h l : List UInt8) : Option (List UInt8) := if h.isPrefixOf l = true then some (l.drop h.length) else none
def upto (p : UInt8 → Bool) (l : List UInt8) : Option (List UInt8 × List UInt8) :=
  match l.dropWhile (fun c => !p c) with
  | [] => none
  | c :: r => some (l.takeWhile (fun c => !p c), c :: r)
def words (t : List UInt8) (r : T) : T := if t.isEmpty = true then r else .node 1 t 0 .nil r
def wordsO (t : List UInt8) (o : Option (T × List UInt8)) : Option (T × List UInt8) := o.map fun p => (words t p.1, p.2)
def consO (k : Int) (x : List UInt8) (f : Int) (cs : T) (o : Option (T × List UInt8)) : Option (T × List UInt8) := o.map fun p => (.node k x f cs p.1, p.2)
/-- an offset, behind which there is a blank or a } -/
def offs (l : List UInt8) : Option (Int × List UInt8) :=
  match pre offset l with
  | none => some (0, l)
  | some r => match upto (fun c => c == 32 || c == 125) r with
    | some ([d], r') => if 49 ≤ d ∧ d ≤ 57 then some ((d.toNat : Int) - 48, r') else none
    | _ => none

mutual
/-- nodes behind their words; fuel -/
def B : Nat → Nat → Bool → List UInt8 → Option (T × List UInt8)
  | 0, _, _, _ => none
  | n + 1, deep, mark, r =>
    match pre [123] r with
    | some r1 => match upto (fun c => c == 44 || c == 125) r1 with
      | none => none
      | some (x, r2) => match pre [125] r2 with
        | some r3 => consO 2 x 0 .nil (N n deep mark r3)
        | none => match pre number r2 with
          | some r3 => consO 3 x 0 .nil (N n deep mark r3)
          | none => match pre select r2 with
            | some r3 => match C n deep mark r3 with
              | none => none
              | some (cs, r4) => consO 5 x 0 cs (N n deep mark r4)
            | none => match pre plural r2 with
              | none => none
              | some r3 => match offs r3 with
                | none => none
                | some (f, r4) => match C n deep true r4 with
                  | none => none
                  | some (cs, r5) => consO 4 x f cs (N n deep mark r5)
    | none => match (if mark = true then pre [35] r else none) with
      | some r1 => consO 6 [] 0 .nil (N n deep mark r1)
      | none => some (.nil, r)
/-- nodes -/
def N : Nat → Nat → Bool → List UInt8 → Option (T × List UInt8)
  | 0, _, _, _ => none
  | n + 1, deep, mark, l => match Lx.bare mark l with
    | none => none
    | some (t, e) => wordsO t (B n deep mark (l.drop e))
/-- cases, and the } behind them -/
def C : Nat → Nat → Bool → List UInt8 → Option (T × List UInt8)
  | 0, _, _, _ => none
  | n + 1, deep, mark, l =>
    match pre [125] l with
    | some r => some (.nil, r)
    | none => match pre [32] l with
      | none => none
      | some r1 => match upto (fun c => c == 32) r1 with
        | none => none
        | some (key, r2) => match pre [32, 123] r2 with
          | none => none
          | some r3 => if 6 ≤ deep then none else match N n (deep + 1) mark r3 with
            | none => none
            | some (b, r4) => match pre [125] r4 with
              | none => none
              | some r5 => (C n deep mark r5).map fun p => (.case key b p.1, p.2)
end

/-! ### there and back: enough fuel -/
theorem pre_self (h t : List UInt8) : pre h (h ++ t) = some t := by
  unfold pre
  rw [if_pos (by rw [List.isPrefixOf_iff_prefix]; exact List.prefix_append h t), List.drop_append_of_le_length (Nat.le_refl _), List.drop_length, List.nil_append]
theorem pre_one (c : UInt8) (t : List UInt8) : pre [c] (c :: t) = some t := pre_self [c] t
theorem pre_ne {c d : UInt8} {h t : List UInt8} (hne : c ≠ d) : pre (c :: h) (d :: t) = none := by
  unfold pre
  rw [if_neg]
  simp [List.isPrefixOf, hne]
theorem pre_nil {c : UInt8} {h : List UInt8} : pre (c :: h) [] = none := by
  unfold pre; rw [if_neg]; simp [List.isPrefixOf]
theorem upto_at {p : UInt8 → Bool} {x : List UInt8} {c : UInt8} {t : List UInt8} (hx : ∀ d ∈ x, p d = false) (hc : p c = true) : upto p (x ++ c :: t) = some (x, c :: t) := by
  unfold upto
  have h1 : (x ++ c :: t).dropWhile (fun d => !p d) = c :: t := by
    induction x with
    | nil => rw [List.nil_append, List.dropWhile_cons_of_neg (by simp [hc])]
    | cons a r ih =>
      rw [List.cons_append, List.dropWhile_cons_of_pos (by simp [hx a (by simp)])]
      exact ih (fun d hd => hx d (by simp [hd]))
  have h2 : (x ++ c :: t).takeWhile (fun d => !p d) = x := by
    induction x with
    | nil => rw [List.nil_append, List.takeWhile_cons_of_neg (by simp [hc])]
    | cons a r ih =>
      rw [List.cons_append, List.takeWhile_cons_of_pos (by simp [hx a (by simp)]), ih (fun d hd => hx d (by simp [hd]))]
      rw [List.cons_append, List.dropWhile_cons_of_pos (by simp [hx a (by simp)])] at h1
      exact h1
  rw [h1]
  show some (_, c :: t) = _
  rw [h2]

theorem nameB_chars {x : List UInt8} (h : nameB x = true) : ∀ c ∈ x, namec c = true := by
  cases x with
  | nil => cases h
  | cons a r =>
    simp only [nameB, Bool.and_eq_true] at h
    exact fun c hc => List.all_eq_true.1 h.1.2 c hc
theorem namec_ne {c d : UInt8} (h : namec c = true) (hd : namec d = false) : c ≠ d := by
  rintro rfl; rw [h] at hd; cases hd

theorem dec_digit : ∀ (n : Nat), ∀ c ∈ decDigits n, digit c = true := by
  intro n
  induction n using Nat.strongRecOn with
  | _ n ih =>
    intro c hc
    have hb : ∀ k, k < 10 → digit (UInt8.ofNat (48 + k)) = true := by decide
    by_cases h : n < 10
    · rw [decDigits, dif_pos h] at hc
      rw [List.mem_singleton.1 hc]; exact hb n h
    · rw [decDigits, dif_neg h] at hc
      rcases List.mem_append.1 hc with h1 | h1
      · exact ih (n / 10) (by omega) c h1
      · rw [List.mem_singleton.1 h1]; exact hb _ (Nat.mod_lt _ (by omega))
theorem exactN_cons (c : UInt8) (r : List UInt8) : exactN (c :: r) = if c = 61 then (match numOf r with
    | some n => (n : Int)
    | none => -1) else -1 := by simp only [exactN]
theorem exact_cons {key : List UInt8} (h : 0 ≤ exactN key) : ∃ (r : List UInt8) (n : Nat), key = 61 :: r ∧ decDigits n = r ∧ n < 1000 ∧ exactN key = n := by
  cases key with
  | nil => exact absurd h (by decide)
  | cons c r =>
    rw [exactN_cons] at h ⊢
    by_cases hc : c = 61
    · rw [if_pos hc] at h ⊢
      cases hf : numOf r with
      | none => rw [hf] at h; exact absurd h (by decide)
      | some n =>
        unfold numOf at hf
        have h1 := List.find?_some hf
        have h3 := List.mem_of_find?_eq_some hf
        exact ⟨r, n, by rw [hc], by simpa using h1, List.mem_range.1 h3, rfl⟩
    · rw [if_neg hc] at h; exact absurd h (by decide)
theorem exact_chars {key : List UInt8} (h : 0 ≤ exactN key) : ∀ c ∈ key, c ≠ 32 := by
  obtain ⟨r, n, rfl, h2, _, _⟩ := exact_cons h
  intro c hc
  rcases List.mem_cons.1 hc with rfl | h3
  · decide
  · rw [← h2] at h3
    have := dec_digit n c h3
    rintro rfl
    revert this; decide
theorem keyB_chars {k : Int} {key : List UInt8} (h : keyB k key = true) : ∀ c ∈ key, c ≠ 32 := by
  unfold keyB at h
  split at h
  · intro c hc
    exact namec_ne (nameB_chars h c hc) (by decide)
  · rw [Bool.or_eq_true] at h
    rcases h with h | h
    · have hm : key ∈ kindsL := by simpa using h
      intro c hc
      have : ∀ l ∈ kindsL, ∀ c ∈ l, c ≠ 32 := by decide
      exact this key hm c hc
    · exact exact_chars (of_decide_eq_true h)

/-! ### lengths -/
theorem pre_len {h l r : List UInt8} (e : pre h l = some r) : r.length + h.length = l.length := by
  unfold pre at e
  split at e
  · rename_i hp
    rw [List.isPrefixOf_iff_prefix] at hp
    have := hp.length_le
    cases e
    rw [List.length_drop]; omega
  · cases e
theorem upto_len {p : UInt8 → Bool} {l x r : List UInt8} (e : upto p l = some (x, r)) : x.length + r.length = l.length ∧ 1 ≤ r.length := by
  unfold upto at e
  split at e
  · cases e
  · rename_i c r' hd
    cases e
    have := congrArg List.length (List.takeWhile_append_dropWhile (p := fun c => !p c) (l := l))
    rw [List.length_append, hd] at this
    exact ⟨this, by simp⟩
theorem offs_len {l r : List UInt8} {f : Int} (e : offs l = some (f, r)) : r.length ≤ l.length := by
  unfold offs at e
  split at e
  · cases e; exact Nat.le_refl _
  · rename_i r1 h1
    have := pre_len h1
    split at e
    · rename_i d r' h2
      have := (upto_len h2).1
      split at e
      · cases e; simp at this; omega
      · cases e
    · cases e
theorem wordsO_some {t : List UInt8} {o : Option (T × List UInt8)} {q : T × List UInt8} (e : wordsO t o = some q) : ∃ p, o = some p ∧ q = (words t p.1, p.2) := by
  cases o with
  | none => cases e
  | some p => exact ⟨p, rfl, (Option.some.inj e).symm⟩
theorem consO_some {k : Int} {x : List UInt8} {f : Int} {cs : T} {o : Option (T × List UInt8)} {q : T × List UInt8} (e : consO k x f cs o = some q) : ∃ p, o = some p ∧ q = (.node k x f cs p.1, p.2) := by
  cases o with
  | none => cases e
  | some p => exact ⟨p, rfl, (Option.some.inj e).symm⟩

theorem B_succ (n deep : Nat) (mark : Bool) (r : List UInt8) : B (n + 1) deep mark r =
    match pre [123] r with
    | some r1 => match upto (fun c => c == 44 || c == 125) r1 with
      | none => none
      | some (x, r2) => match pre [125] r2 with
        | some r3 => consO 2 x 0 .nil (N n deep mark r3)
        | none => match pre number r2 with
          | some r3 => consO 3 x 0 .nil (N n deep mark r3)
          | none => match pre select r2 with
            | some r3 => match C n deep mark r3 with
              | none => none
              | some (cs, r4) => consO 5 x 0 cs (N n deep mark r4)
            | none => match pre plural r2 with
              | none => none
              | some r3 => match offs r3 with
                | none => none
                | some (f, r4) => match C n deep true r4 with
                  | none => none
                  | some (cs, r5) => consO 4 x f cs (N n deep mark r5)
    | none => match (if mark = true then pre [35] r else none) with
      | some r1 => consO 6 [] 0 .nil (N n deep mark r1)
      | none => some (.nil, r) := by rw [B]
theorem N_succ (n deep : Nat) (mark : Bool) (l : List UInt8) : N (n + 1) deep mark l = match Lx.bare mark l with
    | none => none
    | some (t, e) => wordsO t (B n deep mark (l.drop e)) := by rw [N]
theorem C_succ (n deep : Nat) (mark : Bool) (l : List UInt8) : C (n + 1) deep mark l =
    match pre [125] l with
    | some r => some (.nil, r)
    | none => match pre [32] l with
      | none => none
      | some r1 => match upto (fun c => c == 32) r1 with
        | none => none
        | some (key, r2) => match pre [32, 123] r2 with
          | none => none
          | some r3 => if 6 ≤ deep then none else match N n (deep + 1) mark r3 with
            | none => none
            | some (b, r4) => match pre [125] r4 with
              | none => none
              | some r5 => (C n deep mark r5).map fun p => (.case key b p.1, p.2) := by rw [C]

theorem rest_len : ∀ (n : Nat), (∀ deep mark l t r, N n deep mark l = some (t, r) → r.length ≤ l.length) ∧ (∀ deep mark l t r, B n deep mark l = some (t, r) → r.length ≤ l.length) ∧ (∀ deep mark l t r, C n deep mark l = some (t, r) → r.length ≤ l.length) := by
  intro n
  induction n with
  | zero => exact ⟨(fun _ _ _ _ _ h => by rw [N] at h; cases h), (fun _ _ _ _ _ h => by rw [B] at h; cases h), (fun _ _ _ _ _ h => by rw [C] at h; cases h)⟩
  | succ n ih =>
    obtain ⟨iN, iB, iC⟩ := ih
    refine ⟨?_, ?_, ?_⟩
    · intro deep mark l t r h
      rw [N_succ] at h
      cases hb : Lx.bare mark l with
      | none => rw [hb] at h; cases h
      | some p =>
        obtain ⟨x, e⟩ := p
        rw [hb] at h
        obtain ⟨q, hq, he⟩ := wordsO_some h
        cases he
        have := iB deep mark (l.drop e) q.1 q.2 hq
        rw [List.length_drop] at this; omega
    · intro deep mark l t r h
      rw [B_succ] at h
      cases h1 : pre [123] l with
      | none =>
        simp only [h1] at h
        cases h2 : (if mark = true then pre [35] l else none) with
        | none => simp only [h2] at h; cases h; exact Nat.le_refl _
        | some r1 =>
          simp only [h2] at h
          obtain ⟨q, hq, he⟩ := consO_some h
          cases he
          have h3 : pre [35] l = some r1 := by
            cases mark with
            | true => exact h2
            | false => cases h2
          have := pre_len h3
          have := iN deep mark r1 q.1 q.2 hq
          omega
      | some r1 =>
        simp only [h1] at h
        have l1 := pre_len h1
        cases h2 : upto (fun c => c == 44 || c == 125) r1 with
        | none => simp only [h2] at h; cases h
        | some p2 =>
          obtain ⟨x, r2⟩ := p2
          simp only [h2] at h
          have l2 := (upto_len h2).1
          cases h3 : pre [125] r2 with
          | some r3 =>
            simp only [h3] at h
            obtain ⟨q, hq, he⟩ := consO_some h
            cases he
            have := pre_len h3
            have := iN deep mark r3 q.1 q.2 hq
            omega
          | none =>
            simp only [h3] at h
            cases h4 : pre number r2 with
            | some r3 =>
              simp only [h4] at h
              obtain ⟨q, hq, he⟩ := consO_some h
              cases he
              have := pre_len h4
              have := iN deep mark r3 q.1 q.2 hq
              omega
            | none =>
              simp only [h4] at h
              cases h5 : pre select r2 with
              | some r3 =>
                simp only [h5] at h
                have := pre_len h5
                cases h6 : C n deep mark r3 with
                | none => simp only [h6] at h; cases h
                | some p6 =>
                  obtain ⟨cs, r4⟩ := p6
                  simp only [h6] at h
                  obtain ⟨q, hq, he⟩ := consO_some h
                  cases he
                  have := iC deep mark r3 cs r4 h6
                  have := iN deep mark r4 q.1 q.2 hq
                  omega
              | none =>
                simp only [h5] at h
                cases h6 : pre plural r2 with
                | none => simp only [h6] at h; cases h
                | some r3 =>
                  simp only [h6] at h
                  have := pre_len h6
                  cases h7 : offs r3 with
                  | none => simp only [h7] at h; cases h
                  | some p7 =>
                    obtain ⟨f, r4⟩ := p7
                    simp only [h7] at h
                    have := offs_len h7
                    cases h8 : C n deep true r4 with
                    | none => simp only [h8] at h; cases h
                    | some p8 =>
                      obtain ⟨cs, r5⟩ := p8
                      simp only [h8] at h
                      obtain ⟨q, hq, he⟩ := consO_some h
                      cases he
                      have := iC deep true r4 cs r5 h8
                      have := iN deep mark r5 q.1 q.2 hq
                      omega
    · intro deep mark l t r h
      rw [C_succ] at h
      cases h1 : pre [125] l with
      | some r1 =>
        simp only [h1] at h; cases h
        have := pre_len h1; omega
      | none =>
        simp only [h1] at h
        cases h2 : pre [32] l with
        | none => simp only [h2] at h; cases h
        | some r1 =>
          simp only [h2] at h
          have := pre_len h2
          cases h3 : upto (fun c => c == 32) r1 with
          | none => simp only [h3] at h; cases h
          | some p3 =>
            obtain ⟨key, r2⟩ := p3
            simp only [h3] at h
            have := (upto_len h3).1
            cases h4 : pre [32, 123] r2 with
            | none => simp only [h4] at h; cases h
            | some r3 =>
              simp only [h4] at h
              have := pre_len h4
              split at h
              · cases h
              · cases h5 : N n (deep + 1) mark r3 with
                | none => simp only [h5] at h; cases h
                | some p5 =>
                  obtain ⟨b, r4⟩ := p5
                  simp only [h5] at h
                  have := iN (deep + 1) mark r3 b r4 h5
                  cases h6 : pre [125] r4 with
                  | none => simp only [h6] at h; cases h
                  | some r5 =>
                    simp only [h6] at h
                    have := pre_len h6
                    cases h7 : C n deep mark r5 with
                    | none => rw [h7] at h; cases h
                    | some p7 =>
                      rw [h7] at h
                      cases h
                      have := iC deep mark r5 p7.1 p7.2 h7
                      omega
end Ms
namespace Ms
open Go.Lib (decDigits)

theorem enough : ∀ (n : Nat), (∀ m deep mark l, 2 * l.length + 2 ≤ n → 2 * l.length + 2 ≤ m → N n deep mark l = N m deep mark l) ∧ (∀ m deep mark l, 2 * l.length + 1 ≤ n → 2 * l.length + 1 ≤ m → B n deep mark l = B m deep mark l) ∧ (∀ m deep mark l, 2 * l.length + 1 ≤ n → 2 * l.length + 1 ≤ m → C n deep mark l = C m deep mark l) := by
  intro n
  induction n with
  | zero => exact ⟨(fun _ _ _ _ h => by omega), (fun _ _ _ _ h => by omega), (fun _ _ _ _ h => by omega)⟩
  | succ n ih =>
    obtain ⟨iN, iB, iC⟩ := ih
    refine ⟨?_, ?_, ?_⟩
    · intro m deep mark l hn hm
      obtain ⟨m, rfl⟩ : ∃ k, m = k + 1 := ⟨m - 1, by omega⟩
      rw [N_succ, N_succ]
      cases hb : Lx.bare mark l with
      | none => rfl
      | some p =>
        obtain ⟨x, e⟩ := p
        show wordsO x (B n deep mark (l.drop e)) = wordsO x (B m deep mark (l.drop e))
        have hl : (l.drop e).length ≤ l.length := by rw [List.length_drop]; omega
        rw [iB m deep mark (l.drop e) (by omega) (by omega)]
    · intro m deep mark l hn hm
      obtain ⟨m, rfl⟩ : ∃ k, m = k + 1 := ⟨m - 1, by omega⟩
      rw [B_succ, B_succ]
      cases h1 : pre [123] l with
      | none =>
        simp only []
        cases h2 : (if mark = true then pre [35] l else none) with
        | none => rfl
        | some r1 =>
          simp only []
          have h3 : pre [35] l = some r1 := by
            cases mark with
            | true => exact h2
            | false => cases h2
          have := pre_len h3
          simp at this
          rw [iN m deep mark r1 (by omega) (by omega)]
      | some r1 =>
        simp only []
        have l1 := pre_len h1
        simp at l1
        cases h2 : upto (fun c => c == 44 || c == 125) r1 with
        | none => rfl
        | some p2 =>
          obtain ⟨x, r2⟩ := p2
          simp only []
          have l2 := (upto_len h2).1
          cases h3 : pre [125] r2 with
          | some r3 =>
            simp only []
            have := pre_len h3
            rw [iN m deep mark r3 (by omega) (by omega)]
          | none =>
            simp only []
            cases h4 : pre number r2 with
            | some r3 =>
              simp only []
              have := pre_len h4
              rw [iN m deep mark r3 (by omega) (by omega)]
            | none =>
              simp only []
              cases h5 : pre select r2 with
              | some r3 =>
                simp only []
                have := pre_len h5
                rw [iC m deep mark r3 (by omega) (by omega)]
                cases h6 : C m deep mark r3 with
                | none => rfl
                | some p6 =>
                  obtain ⟨cs, r4⟩ := p6
                  simp only []
                  have := (rest_len m).2.2 deep mark r3 cs r4 h6
                  rw [iN m deep mark r4 (by omega) (by omega)]
              | none =>
                simp only []
                cases h6 : pre plural r2 with
                | none => rfl
                | some r3 =>
                  simp only []
                  have := pre_len h6
                  cases h7 : offs r3 with
                  | none => rfl
                  | some p7 =>
                    obtain ⟨f, r4⟩ := p7
                    simp only []
                    have := offs_len h7
                    rw [iC m deep true r4 (by omega) (by omega)]
                    cases h8 : C m deep true r4 with
                    | none => rfl
                    | some p8 =>
                      obtain ⟨cs, r5⟩ := p8
                      simp only []
                      have := (rest_len m).2.2 deep true r4 cs r5 h8
                      rw [iN m deep mark r5 (by omega) (by omega)]
    · intro m deep mark l hn hm
      obtain ⟨m, rfl⟩ : ∃ k, m = k + 1 := ⟨m - 1, by omega⟩
      rw [C_succ, C_succ]
      cases h1 : pre [125] l with
      | some r1 => rfl
      | none =>
        simp only []
        cases h2 : pre [32] l with
        | none => rfl
        | some r1 =>
          simp only []
          have := pre_len h2
          simp at this
          cases h3 : upto (fun c => c == 32) r1 with
          | none => rfl
          | some p3 =>
            obtain ⟨key, r2⟩ := p3
            simp only []
            have := (upto_len h3).1
            cases h4 : pre [32, 123] r2 with
            | none => rfl
            | some r3 =>
              simp only []
              have := pre_len h4
              simp at this
              by_cases hd : 6 ≤ deep
              · rw [if_pos hd, if_pos hd]
              · rw [if_neg hd, if_neg hd, iN m (deep + 1) mark r3 (by omega) (by omega)]
                cases h5 : N m (deep + 1) mark r3 with
                | none => rfl
                | some p5 =>
                  obtain ⟨b, r4⟩ := p5
                  simp only []
                  have := (rest_len m).1 (deep + 1) mark r3 b r4 h5
                  cases h6 : pre [125] r4 with
                  | none => rfl
                  | some r5 =>
                    simp only []
                    have := pre_len h6
                    simp at this
                    rw [iC m deep mark r5 (by omega) (by omega)]

/-- the message at a place, the nodes behind words, the cases: fuel enough -/
def NN (deep : Nat) (mark : Bool) (l : List UInt8) : Option (T × List UInt8) := N (2 * l.length + 2) deep mark l
def BB (deep : Nat) (mark : Bool) (l : List UInt8) : Option (T × List UInt8) := B (2 * l.length + 1) deep mark l
def CC (deep : Nat) (mark : Bool) (l : List UInt8) : Option (T × List UInt8) := C (2 * l.length + 1) deep mark l
theorem NN_of {n deep : Nat} {mark : Bool} {l : List UInt8} (h : 2 * l.length + 2 ≤ n) : N n deep mark l = NN deep mark l := (enough n).1 _ deep mark l h (Nat.le_refl _)
theorem BB_of {n deep : Nat} {mark : Bool} {l : List UInt8} (h : 2 * l.length + 1 ≤ n) : B n deep mark l = BB deep mark l := (enough n).2.1 _ deep mark l h (Nat.le_refl _)
theorem CC_of {n deep : Nat} {mark : Bool} {l : List UInt8} (h : 2 * l.length + 1 ≤ n) : C n deep mark l = CC deep mark l := (enough n).2.2 _ deep mark l h (Nat.le_refl _)
theorem NN_none {deep : Nat} {mark : Bool} {l : List UInt8} (h : Lx.bare mark l = none) : NN deep mark l = none := by
  show N (2 * l.length + 1 + 1) deep mark l = _
  rw [N_succ, h]
theorem NN_some {deep : Nat} {mark : Bool} {l t : List UInt8} {e : Nat} (h : Lx.bare mark l = some (t, e)) : NN deep mark l = wordsO t (BB deep mark (l.drop e)) := by
  show N (2 * l.length + 1 + 1) deep mark l = _
  rw [N_succ, h]
  show wordsO t _ = _
  rw [BB_of (by rw [List.length_drop]; omega)]
/-- nodes behind a { -/
def argB (deep : Nat) (mark : Bool) (r1 : List UInt8) : Option (T × List UInt8) := match upto (fun c => c == 44 || c == 125) r1 with
      | none => none
      | some (x, r2) => match pre [125] r2 with
        | some r3 => consO 2 x 0 .nil (NN deep mark r3)
        | none => match pre number r2 with
          | some r3 => consO 3 x 0 .nil (NN deep mark r3)
          | none => match pre select r2 with
            | some r3 => match CC deep mark r3 with
              | none => none
              | some (cs, r4) => consO 5 x 0 cs (NN deep mark r4)
            | none => match pre plural r2 with
              | none => none
              | some r3 => match offs r3 with
                | none => none
                | some (f, r4) => match CC deep true r4 with
                  | none => none
                  | some (cs, r5) => consO 4 x f cs (NN deep mark r5)
theorem BB_open {deep : Nat} {mark : Bool} {r r1 : List UInt8} (h : pre [123] r = some r1) : BB deep mark r = argB deep mark r1 := by
  show B (2 * r.length + 1) deep mark r = _
  rw [B_succ, h]
  simp only []
  unfold argB
  have l1 := pre_len h
  simp at l1
  cases h2 : upto (fun c => c == 44 || c == 125) r1 with
  | none => rfl
  | some p2 =>
    obtain ⟨x, r2⟩ := p2
    simp only []
    have l2 := (upto_len h2).1
    cases h3 : pre [125] r2 with
    | some r3 =>
      simp only []
      have := pre_len h3
      rw [NN_of (by omega)]
    | none =>
      simp only []
      cases h4 : pre number r2 with
      | some r3 =>
        simp only []
        have := pre_len h4
        rw [NN_of (by omega)]
      | none =>
        simp only []
        cases h5 : pre select r2 with
        | some r3 =>
          simp only []
          have := pre_len h5
          rw [CC_of (by omega)]
          cases h6 : CC deep mark r3 with
          | none => rfl
          | some p6 =>
            obtain ⟨cs, r4⟩ := p6
            simp only []
            have := (rest_len _).2.2 deep mark r3 cs r4 h6
            rw [NN_of (by omega)]
        | none =>
          simp only []
          cases h6 : pre plural r2 with
          | none => rfl
          | some r3 =>
            simp only []
            have := pre_len h6
            cases h7 : offs r3 with
            | none => rfl
            | some p7 =>
              obtain ⟨f, r4⟩ := p7
              simp only []
              have := offs_len h7
              rw [CC_of (by omega)]
              cases h8 : CC deep true r4 with
              | none => rfl
              | some p8 =>
                obtain ⟨cs, r5⟩ := p8
                simp only []
                have := (rest_len _).2.2 deep true r4 cs r5 h8
                rw [NN_of (by omega)]
theorem BB_mark {deep : Nat} {r r1 : List UInt8} (h0 : pre [123] r = none) (h : pre [35] r = some r1) : BB deep true r = consO 6 [] 0 .nil (NN deep true r1) := by
  show B (2 * r.length + 1) deep true r = _
  rw [B_succ, h0]
  simp only [h, if_true]
  have := pre_len h
  simp at this
  rw [NN_of (by omega)]
theorem BB_end {deep : Nat} {mark : Bool} {r : List UInt8} (h0 : pre [123] r = none) (h : mark = true → pre [35] r = none) : BB deep mark r = some (.nil, r) := by
  show B (2 * r.length + 1) deep mark r = _
  rw [B_succ, h0]
  have : (if mark = true then pre [35] r else none) = none := by
    cases mark with
    | true => exact h rfl
    | false => rfl
  simp only [this]
theorem CC_end {deep : Nat} {mark : Bool} {l r : List UInt8} (h : pre [125] l = some r) : CC deep mark l = some (.nil, r) := by
  show C (2 * l.length + 1) deep mark l = _
  rw [C_succ, h]
/-- a case, and those behind it -/
def caseC (deep : Nat) (mark : Bool) (r1 : List UInt8) : Option (T × List UInt8) := match upto (fun c => c == 32) r1 with
        | none => none
        | some (key, r2) => match pre [32, 123] r2 with
          | none => none
          | some r3 => if 6 ≤ deep then none else match NN (deep + 1) mark r3 with
            | none => none
            | some (b, r4) => match pre [125] r4 with
              | none => none
              | some r5 => (CC deep mark r5).map fun p => (.case key b p.1, p.2)
theorem CC_none {deep : Nat} {mark : Bool} {l : List UInt8} (h0 : pre [125] l = none) (h : pre [32] l = none) : CC deep mark l = none := by
  show C (2 * l.length + 1) deep mark l = _
  rw [C_succ, h0]
  simp only [h]
theorem CC_case {deep : Nat} {mark : Bool} {l r1 : List UInt8} (h0 : pre [125] l = none) (h : pre [32] l = some r1) : CC deep mark l = caseC deep mark r1 := by
  show C (2 * l.length + 1) deep mark l = _
  rw [C_succ, h0]
  simp only [h]
  unfold caseC
  have := pre_len h
  simp at this
  cases h3 : upto (fun c => c == 32) r1 with
  | none => rfl
  | some p3 =>
    obtain ⟨key, r2⟩ := p3
    simp only []
    have := (upto_len h3).1
    cases h4 : pre [32, 123] r2 with
    | none => rfl
    | some r3 =>
      simp only []
      have := pre_len h4
      simp at this
      by_cases hd : 6 ≤ deep
      · rw [if_pos hd, if_pos hd]
      · rw [if_neg hd, if_neg hd, NN_of (by omega)]
        cases h5 : NN (deep + 1) mark r3 with
        | none => rfl
        | some p5 =>
          obtain ⟨b, r4⟩ := p5
          simp only []
          have := (rest_len _).1 (deep + 1) mark r3 b r4 h5
          cases h6 : pre [125] r4 with
          | none => rfl
          | some r5 =>
            simp only []
            have := pre_len h6
            simp at this
            rw [CC_of (by omega)]

/-! ### there and back -/
def Tail (t : List UInt8) : Prop := t = [] ∨ ∃ r, t = 125 :: r
/-- words do not come first -/
def noWords : T → Prop
  | .node k _ _ _ _ => k ≠ 1
  | _ => True
theorem words_nil (r : T) : words [] r = r := rfl
theorem wordsO_nil (o : Option (T × List UInt8)) : wordsO [] o = o := by
  cases o with
  | none => rfl
  | some p => rfl
theorem flt_node {k f : Int} {x : List UInt8} {cs nx : T} {mark pw : Bool} {kind : Int} {seen : List (List UInt8)} (h : flt (.node k x f cs nx) mark pw kind seen = 0) :
    fine k x mark pw = true ∧ ¬ (k = 4 ∧ (f < 0 ∨ f > 9)) ∧ (hasC k = true → flt cs (mark || k == 4) false k [] = 0) ∧ flt nx mark (k == 1) 0 [] = 0 := by
  unfold flt at h
  split at h
  · cases h
  · rename_i h1
    split at h
    · cases h
    · rename_i h2
      split at h
      · rename_i h3; exact absurd h h3.2
      · rename_i h3
        refine ⟨by simpa using h1, h2, fun hc => ?_, h⟩
        exact Decidable.byContradiction fun hne => h3 ⟨hc, hne⟩
theorem flt_case {key : List UInt8} {body nx : T} {mark pw : Bool} {kind : Int} {seen : List (List UInt8)} (h : flt (.case key body nx) mark pw kind seen = 0) :
    keyB kind key = true ∧ seen.contains key = false ∧ flt body mark false 0 [] = 0 ∧ flt nx mark false kind (seen ++ [key]) = 0 := by
  unfold flt at h
  split at h
  · cases h
  · rename_i h1
    split at h
    · cases h
    · rename_i h2
      split at h
      · rename_i h3; exact absurd h h3
      · rename_i h3
        exact ⟨by simpa using h1, by simpa using h2, Decidable.byContradiction h3, h⟩
theorem fine_words {x : List UInt8} {mark pw : Bool} (h : fine 1 x mark pw = true) : x ≠ [] ∧ pw = false := by
  unfold fine at h
  rw [if_pos rfl] at h
  simp at h
  exact ⟨by intro e; subst e; simp at h, h.2⟩
theorem fine_name {k : Int} {x : List UInt8} {mark pw : Bool} (h : fine k x mark pw = true) (hk : k = 2 ∨ k = 3 ∨ k = 4 ∨ k = 5) : nameB x = true := by
  unfold fine at h
  rw [if_neg (by omega), if_pos hk] at h; exact h
theorem fine_kind {k : Int} {x : List UInt8} {mark pw : Bool} (h : fine k x mark pw = true) : k = 1 ∨ k = 2 ∨ k = 3 ∨ k = 4 ∨ k = 5 ∨ (k = 6 ∧ mark = true) := by
  unfold fine at h
  split at h
  · exact .inl (by assumption)
  · split at h
    · omega
    · simp at h; exact .inr (.inr (.inr (.inr (.inr h))))
theorem deep_node {k f : Int} {x : List UInt8} {cs nx : T} {d : Nat} (h : deepB (.node k x f cs nx) d = false) : d < 6 ∧ (hasC k = true → deepB cs d = false) ∧ deepB nx d = false := by
  unfold deepB at h
  simp only [Bool.or_eq_false_iff, Bool.and_eq_false_iff, decide_eq_false_iff_not] at h
  refine ⟨by omega, fun hc => ?_, h.2⟩
  rcases h.1.2 with h1 | h1
  · rw [hc] at h1; cases h1
  · exact h1
theorem deep_case {key : List UInt8} {body nx : T} {d : Nat} (h : deepB (.case key body nx) d = false) : deepB body (d + 1) = false ∧ deepB nx d = false := by
  unfold deepB at h
  simpa only [Bool.or_eq_false_iff] using h

theorem ends_txt {t : T} {mark pw : Bool} {tail : List UInt8} (hn : isN t = true) (hf : flt t mark pw 0 [] = 0) (hw : noWords t) (ht : Tail tail) : Lx.Ends mark (txt t mark ++ tail) := by
  cases t with
  | nil =>
    rcases ht with rfl | ⟨r, rfl⟩
    · exact .inl rfl
    · exact .inr ⟨125, r, rfl, by cases mark <;> rfl⟩
  | node k x f cs nx =>
    have hk := fine_kind (flt_node hf).1
    have hw' : k ≠ 1 := hw
    right
    rcases hk with rfl | rfl | rfl | rfl | rfl | ⟨rfl, rfl⟩
    · exact absurd rfl hw'
    · exact ⟨123, _, rfl, by cases mark <;> rfl⟩
    · exact ⟨123, _, rfl, by cases mark <;> rfl⟩
    · exact ⟨123, _, rfl, by cases mark <;> rfl⟩
    · exact ⟨123, _, rfl, by cases mark <;> rfl⟩
    · exact ⟨35, _, rfl, rfl⟩
  | case key body nx => cases hn
theorem bare_ends {m : Bool} {t : List UInt8} (h : Lx.Ends m t) : Lx.bare m t = some ([], 0) := Lx.az_end m t h

theorem name_upto {x : List UInt8} (h : nameB x = true) {c : UInt8} {t : List UInt8} (hc : (c == 44 || c == 125) = true) : upto (fun c => c == 44 || c == 125) (x ++ c :: t) = some (x, c :: t) := by
  refine upto_at (fun d hd => ?_) hc
  have := nameB_chars h d hd
  have h1 : d ≠ 44 := namec_ne this (by decide)
  have h2 : d ≠ 125 := namec_ne this (by decide)
  simp [h1, h2]
theorem pre_number_select (t : List UInt8) : pre number (select ++ t) = none := by
  unfold pre; rw [if_neg]; simp [number, select, List.isPrefixOf]
theorem pre_number_plural (t : List UInt8) : pre number (plural ++ t) = none := by
  unfold pre; rw [if_neg]; simp [number, plural, List.isPrefixOf]
theorem pre_select_plural (t : List UInt8) : pre select (plural ++ t) = none := by
  unfold pre; rw [if_neg]; simp [select, plural, List.isPrefixOf]

/-- what stands behind the head of a Plural -/
theorem cases_head {cs : T} {mark : Bool} {tail : List UInt8} (hc : isN.isC cs = true) : ∃ c r, txt cs mark ++ 125 :: tail = c :: r ∧ (c = 32 ∨ c = 125) := by
  cases cs with
  | nil => exact ⟨125, tail, rfl, .inr rfl⟩
  | node k x f cs nx => cases hc
  | case key body nx => exact ⟨32, _, rfl, .inl rfl⟩
theorem key_no_offset {key t : List UInt8} (hk : keyB 4 key = true) : pre offset (32 :: (key ++ 32 :: t)) = none := by
  unfold keyB at hk
  rw [if_neg (by decide), Bool.or_eq_true] at hk
  unfold pre
  rw [if_neg]
  rcases hk with h | h
  · have hm : key ∈ kindsL := by simpa using h
    simp only [kindsL, List.mem_cons, List.mem_nil_iff, or_false] at hm
    rcases hm with rfl | rfl | rfl | rfl | rfl | rfl <;> simp [offset, List.isPrefixOf]
  · obtain ⟨r, n, rfl, _, _, _⟩ := exact_cons (of_decide_eq_true h)
    simp [offset, List.isPrefixOf]
theorem offs_none {cs : T} {mark : Bool} {seen : List (List UInt8)} {tail : List UInt8} (hc : isN.isC cs = true) (hf : flt cs mark false 4 seen = 0) : offs (txt cs true ++ 125 :: tail) = some (0, txt cs true ++ 125 :: tail) := by
  unfold offs
  have : pre offset (txt cs true ++ 125 :: tail) = none := by
    cases cs with
    | nil => show pre offset (125 :: tail) = none; unfold pre; rw [if_neg]; simp [offset, List.isPrefixOf]
    | node k x f cs nx => cases hc
    | case key body nx =>
      have hk := (flt_case hf).1
      show pre offset (32 :: (key ++ [32, 123] ++ txt body true ++ [125]) ++ txt nx true ++ 125 :: tail) = none
      have e : 32 :: (key ++ [32, 123] ++ txt body true ++ [125]) ++ txt nx true ++ 125 :: tail = 32 :: (key ++ 32 :: (123 :: (txt body true ++ [125] ++ txt nx true ++ 125 :: tail))) := by simp
      rw [e]; exact key_no_offset hk
  rw [this]
theorem offs_some {cs : T} {f : Int} {tail : List UInt8} (hc : isN.isC cs = true) (h0 : f ≠ 0) (h1 : 0 ≤ f) (h2 : f ≤ 9) : offs (offset ++ (Go.Lib.itoa f ++ (txt cs true ++ 125 :: tail))) = some (f, txt cs true ++ 125 :: tail) := by
  obtain ⟨n, rfl⟩ : ∃ n : Nat, f = n := ⟨f.toNat, by omega⟩
  have hn : n < 10 := by omega
  have hi : Go.Lib.itoa (n : Int) = [UInt8.ofNat (48 + n)] := by
    unfold Go.Lib.itoa
    rw [if_neg (by omega)]
    show decDigits n = _
    rw [decDigits, dif_pos hn]
  obtain ⟨c, r, hcr, hc2⟩ := cases_head (mark := true) (tail := tail) hc
  have hd : ∀ k : Fin 10, ((fun c : UInt8 => c == 32 || c == 125) (UInt8.ofNat (48 + k.1)) = false) ∧ (49 ≤ UInt8.ofNat (48 + k.1) ∧ UInt8.ofNat (48 + k.1) ≤ 57 ∨ k.1 = 0) ∧ ((UInt8.ofNat (48 + k.1)).toNat : Int) - 48 = k.1 := by decide
  obtain ⟨d1, d2, d3⟩ := hd ⟨n, hn⟩
  unfold offs
  rw [pre_self, hi, hcr]
  have hu : upto (fun c => c == 32 || c == 125) ([UInt8.ofNat (48 + n)] ++ c :: r) = some ([UInt8.ofNat (48 + n)], c :: r) := by
    refine upto_at (fun d hd => ?_) (by rcases hc2 with rfl | rfl <;> rfl)
    rw [List.mem_singleton.1 hd]; exact d1
  simp only [hu]
  rw [if_pos (d2.resolve_right (by simp at *; omega)), d3]

theorem back : ∀ t : T,
    (∀ mark pw deep tail, isN t = true → flt t mark pw 0 [] = 0 → deepB t deep = false → Tail tail → NN deep mark (txt t mark ++ tail) = some (clean t, tail) ∧ (noWords t → BB deep mark (txt t mark ++ tail) = some (clean t, tail))) ∧
    (∀ mark kind seen deep tail, isN.isC t = true → flt t mark false kind seen = 0 → deepB t deep = false → deep < 6 → CC deep mark (txt t mark ++ 125 :: tail) = some (clean t, tail)) := by
  intro t
  induction t with
  | nil =>
    refine ⟨fun mark pw deep tail _ hf _ ht => ?_, fun mark kind seen deep tail _ _ _ _ => ?_⟩
    · have he := ends_txt (t := .nil) (mark := mark) (pw := pw) rfl hf trivial ht
      have hb : BB deep mark (txt .nil mark ++ tail) = some (clean .nil, tail) := by
        show BB deep mark tail = some (.nil, tail)
        rcases ht with rfl | ⟨r, rfl⟩
        · exact BB_end pre_nil (fun _ => pre_nil)
        · exact BB_end (pre_ne (by decide)) (fun _ => pre_ne (by decide))
      refine ⟨?_, fun _ => hb⟩
      rw [NN_some (bare_ends he), List.drop_zero, hb, wordsO_nil]
    · exact CC_end (pre_self [125] tail)
  | node k x f cs nx ics inx =>
    refine ⟨fun mark pw deep tail hn hf hd ht => ?_, (fun _ _ _ _ _ h => by cases h)⟩
    obtain ⟨h1, h2, h3, h4⟩ := flt_node hf
    obtain ⟨d1, d2, d3⟩ := deep_node hd
    have hn' : isN.isC cs = true ∧ isN nx = true := by simpa [isN] using hn
    have iN := inx.1 mark (k == 1) deep tail hn'.2 h4 d3 ht
    rcases fine_kind h1 with rfl | rfl | rfl | rfl | rfl | ⟨rfl, rfl⟩
    · -- words
      obtain ⟨hx, rfl⟩ := fine_words h1
      refine ⟨?_, fun h => absurd rfl h⟩
      have hnw : noWords nx := by
        cases nx with
        | nil => trivial
        | node k' x' f' cs' nx' =>
          intro e; subst e
          have := (fine_words (flt_node h4).1).2
          cases this
        | case => trivial
      have he := ends_txt hn'.2 h4 hnw ht
      have e : txt (.node 1 x f cs nx) mark ++ tail = Lx.quote mark x ++ (txt nx mark ++ tail) := by
        show (Lx.quote mark x ++ txt nx mark) ++ tail = _
        rw [List.append_assoc]
      rw [e, NN_some (Lx.bare_quote mark x _ he), List.drop_append_of_le_length (Nat.le_refl _), List.drop_length, List.nil_append, iN.2 hnw]
      show some (words x (clean nx), tail) = some (T.node 1 x 0 .nil (clean nx), tail)
      unfold words
      rw [if_neg (by simpa using hx)]
    · -- show
      have hx := fine_name h1 (by omega)
      have e : txt (.node 2 x f cs nx) mark ++ tail = 123 :: (x ++ 125 :: (txt nx mark ++ tail)) := by
        show (123 :: (x ++ [125]) ++ txt nx mark) ++ tail = _
        simp
      have hb : BB deep mark (txt (.node 2 x f cs nx) mark ++ tail) = some (clean (.node 2 x f cs nx), tail) := by
        rw [e, BB_open (pre_one 123 _)]
        unfold argB
        rw [name_upto hx (by rfl)]
        simp only [pre_one]
        rw [iN.1]; rfl
      refine ⟨?_, fun _ => hb⟩
      rw [NN_some (bare_ends (ends_txt hn hf (by show (2 : Int) ≠ 1; decide) ht)), List.drop_zero, hb, wordsO_nil]
    · -- number
      have hx := fine_name h1 (by omega)
      have e : txt (.node 3 x f cs nx) mark ++ tail = 123 :: (x ++ (number ++ (txt nx mark ++ tail))) := by
        show (123 :: (x ++ number) ++ txt nx mark) ++ tail = _
        simp
      have hb : BB deep mark (txt (.node 3 x f cs nx) mark ++ tail) = some (clean (.node 3 x f cs nx), tail) := by
        rw [e, BB_open (pre_one 123 _)]
        unfold argB
        have hu : upto (fun c => c == 44 || c == 125) (x ++ (number ++ (txt nx mark ++ tail))) = some (x, number ++ (txt nx mark ++ tail)) := name_upto hx (by rfl)
        rw [hu]
        simp only [show pre [125] (number ++ (txt nx mark ++ tail)) = none from pre_ne (by decide), pre_self number]
        rw [iN.1]; rfl
      refine ⟨?_, fun _ => hb⟩
      rw [NN_some (bare_ends (ends_txt hn hf (by show (3 : Int) ≠ 1; decide) ht)), List.drop_zero, hb, wordsO_nil]
    · -- plural
      have hx := fine_name h1 (by omega)
      have hcs := ics.2 true 4 [] deep (txt nx mark ++ tail) hn'.1 (by simpa using h3 rfl) (d2 rfl) d1
      have hfb : 0 ≤ f ∧ f ≤ 9 := by omega
      have hf4 : flt cs true false 4 [] = 0 := by simpa using h3 rfl
      have e : txt (.node 4 x f cs nx) mark ++ tail = 123 :: (x ++ (plural ++ ((if f ≠ 0 then offset ++ Go.Lib.itoa f else []) ++ (txt cs true ++ 125 :: (txt nx mark ++ tail))))) := by
        show (123 :: (x ++ plural ++ (if f ≠ 0 then offset ++ Go.Lib.itoa f else []) ++ txt cs true ++ [125]) ++ txt nx mark) ++ tail = _
        simp
      have ho : offs ((if f ≠ 0 then offset ++ Go.Lib.itoa f else []) ++ (txt cs true ++ 125 :: (txt nx mark ++ tail))) = some (f, txt cs true ++ 125 :: (txt nx mark ++ tail)) := by
        by_cases h0 : f = 0
        · subst h0
          rw [if_neg (by simp), List.nil_append]
          exact offs_none hn'.1 hf4
        · rw [if_pos h0, List.append_assoc]
          exact offs_some hn'.1 h0 hfb.1 hfb.2
      have hb : BB deep mark (txt (.node 4 x f cs nx) mark ++ tail) = some (clean (.node 4 x f cs nx), tail) := by
        rw [e, BB_open (pre_one 123 _)]
        unfold argB
        generalize hq : (if f ≠ 0 then offset ++ Go.Lib.itoa f else []) ++ (txt cs true ++ 125 :: (txt nx mark ++ tail)) = q at ho
        have hu : upto (fun c => c == 44 || c == 125) (x ++ (plural ++ q)) = some (x, plural ++ q) := name_upto hx (by rfl)
        rw [hu]
        simp only [show pre [125] (plural ++ q) = none from pre_ne (by decide), pre_number_plural, pre_select_plural, pre_self plural, ho, hcs]
        rw [iN.1]; rfl
      refine ⟨?_, fun _ => hb⟩
      rw [NN_some (bare_ends (ends_txt hn hf (by show (4 : Int) ≠ 1; decide) ht)), List.drop_zero, hb, wordsO_nil]
    · -- select
      have hx := fine_name h1 (by omega)
      have hcs := ics.2 mark 5 [] deep (txt nx mark ++ tail) hn'.1 (by simpa using h3 rfl) (d2 rfl) d1
      have e : txt (.node 5 x f cs nx) mark ++ tail = 123 :: (x ++ (select ++ (txt cs mark ++ 125 :: (txt nx mark ++ tail)))) := by
        show (123 :: (x ++ select ++ txt cs mark ++ [125]) ++ txt nx mark) ++ tail = _
        simp
      have hb : BB deep mark (txt (.node 5 x f cs nx) mark ++ tail) = some (clean (.node 5 x f cs nx), tail) := by
        rw [e, BB_open (pre_one 123 _)]
        unfold argB
        generalize hq : txt cs mark ++ 125 :: (txt nx mark ++ tail) = q at hcs
        have hu : upto (fun c => c == 44 || c == 125) (x ++ (select ++ q)) = some (x, select ++ q) := name_upto hx (by rfl)
        rw [hu]
        simp only [show pre [125] (select ++ q) = none from pre_ne (by decide), pre_number_select, pre_self select, hcs]
        rw [iN.1]; rfl
      refine ⟨?_, fun _ => hb⟩
      rw [NN_some (bare_ends (ends_txt hn hf (by show (5 : Int) ≠ 1; decide) ht)), List.drop_zero, hb, wordsO_nil]
    · -- mark
      have hb : BB deep true (txt (.node 6 x f cs nx) true ++ tail) = some (clean (.node 6 x f cs nx), tail) := by
        show BB deep true (35 :: (txt nx true ++ tail)) = _
        rw [BB_mark (pre_ne (by decide)) (pre_one 35 _), iN.1]; rfl
      refine ⟨?_, fun _ => hb⟩
      rw [NN_some (bare_ends (ends_txt hn hf (by show (6 : Int) ≠ 1; decide) ht)), List.drop_zero, hb, wordsO_nil]
  | case key body nx ib inx =>
    refine ⟨(fun _ _ _ _ h => by cases h), fun mark kind seen deep tail hc hf hd hdeep => ?_⟩
    obtain ⟨h1, _, h3, h4⟩ := flt_case hf
    obtain ⟨d1, d2⟩ := deep_case hd
    have hc' : isN body = true ∧ isN.isC nx = true := by simpa [isN.isC] using hc
    have e : txt (.case key body nx) mark ++ 125 :: tail = 32 :: (key ++ 32 :: (123 :: (txt body mark ++ 125 :: (txt nx mark ++ 125 :: tail)))) := by
      show (32 :: (key ++ [32, 123] ++ txt body mark ++ [125]) ++ txt nx mark) ++ 125 :: tail = _
      simp
    have hb := (ib.1 mark false (deep + 1) (125 :: (txt nx mark ++ 125 :: tail)) hc'.1 h3 d1 (.inr ⟨_, rfl⟩)).1
    have hr := inx.2 mark kind (seen ++ [key]) deep tail hc'.2 h4 d2 hdeep
    rw [e, CC_case (pre_ne (by decide)) (pre_one 32 _)]
    unfold caseC
    have hu : upto (fun c => c == 32) (key ++ 32 :: (123 :: (txt body mark ++ 125 :: (txt nx mark ++ 125 :: tail)))) = some (key, 32 :: (123 :: (txt body mark ++ 125 :: (txt nx mark ++ 125 :: tail)))) :=
      upto_at (fun d hd => by simpa using keyB_chars h1 d hd) (by rfl)
    rw [hu]
    simp only [show pre [32, 123] (32 :: (123 :: (txt body mark ++ 125 :: (txt nx mark ++ 125 :: tail)))) = some (txt body mark ++ 125 :: (txt nx mark ++ 125 :: tail)) from pre_self [32, 123] _]
    rw [if_neg (by omega), hb]
    simp only [show pre [125] (125 :: (txt nx mark ++ 125 :: tail)) = some (txt nx mark ++ 125 :: tail) from pre_self [125] _]
    rw [hr]; rfl
end Ms
namespace Go.Proofs.YtnefcilopgcdpaaGreatDoor
open Go.RowKit

/-- a quiet call in a region behind draws: the contract leaves the world as it was -/
theorem quiet2 {P : Program} {f : FuncId} {args : Array Value} {w : World} {a n : Nat} {v : Value}
    (h : Calls P f args (w.drewN (a + n)) fun e w' => e = .returned v ∧ w' = w.drewN (a + n)) :
    Calls P f args (w.drewN (a + n)) fun e w'' => e = .returned v ∧ ∃ m, w'' = w.drewN (a + m) :=
  h.mono fun _ _ h => ⟨h.1, n, h.2⟩
/-- the same, the contract draws -/
theorem quiet2d {P : Program} {f : FuncId} {args : Array Value} {w : World} {a n : Nat} {v : Value}
    (h : Calls P f args (w.drewN (a + n)) fun e w' => e = .returned v ∧ ∃ m, w' = (w.drewN (a + n)).drewN m) :
    Calls P f args (w.drewN (a + n)) fun e w'' => e = .returned v ∧ ∃ m, w'' = w.drewN (a + m) :=
  h.mono fun _ _ h => by
    obtain ⟨h1, m, h2⟩ := h
    exact ⟨h1, n + m, by rw [h2, World.drewN_drewN, Nat.add_assoc]⟩
theorem belowN {B : Nat} {a w : World} (h : Below B a w) (n : Nat) : Below B a (w.drewN n) := ⟨h.os, h.tape, h.output, h.size, h.block⟩
theorem below0N (B : Nat) (w : World) (n : Nat) : Below B w (w.drewN n) := belowN (Below.refl _ _) n
theorem below_of_eq {B : Nat} {w w' : World} (h : w' = w) : Below B w w' := h ▸ Below.refl _ _
/-- old cells and old marks behind what only lays new blocks -/
theorem bcell {W w1 : World} (hb : Below W.heap.size W w1) :
    (∀ b o, b < W.heap.size → w1.cell? ⟨b, o, none⟩ = W.cell? ⟨b, o, none⟩) ∧ (∀ b o, b < W.heap.size → w1.frozen? ⟨b, o, none⟩ = W.frozen? ⟨b, o, none⟩) :=
  ⟨fun b o h => hb.cell (p := ⟨b, o, none⟩) h, fun b o h => hb.frozen (p := ⟨b, o, none⟩) h⟩
theorem ret_str {a b : List UInt8} (h : a = b) : Ending.returned (.string ⟨a.toArray⟩) = .returned (.string ⟨b.toArray⟩) := by rw [h]
theorem ret_int {k : IntKind} {a b : Int} (h : a = b) : Ending.returned (.int k a) = .returned (.int k b) := by rw [h]
theorem ret_bool {a b : Bool} (h : a = b) : Ending.returned (.bool a) = .returned (.bool b) := by rw [h]
/-- what only lays new blocks keeps a builder -/
theorem grown_of_below {w w' : World} (h : Below w.heap.size w w') (row : Option Nat) : w.grownBy w' row := ⟨h.os, h.tape, h.output, h.size, fun i hi _ => h.block i hi⟩
theorem builderAt_below {T e : TypeId} {B b : Nat} {p : Value} {bs : List Value} {w w' : World} (h : Lib.BuilderAtF T e B b p bs w) (hb : Below w.heap.size w w') : Lib.BuilderAtF T e B b p bs w' := by
  have hlt := h.lt
  obtain ⟨hB, v, hbk, hown, hne⟩ := h
  exact ⟨hB, v, by rw [hb.block b hlt]; exact hbk, hown.kept (grown_of_below hb none) (by cases hv : v.ownBlock with | none => exact .inl rfl | some k => exact .inr (by simp)), hne⟩
theorem builder_below {T e : TypeId} {B b : Nat} {bs : List Value} {w w' : World} (h : Lib.IsBuilderF T e B b bs w) (hb : Below w.heap.size w w') : Lib.IsBuilderF T e B b bs w' :=
  h.elim (fun x => .inl (builderAt_below x hb)) (fun x => .inr (builderAt_below x hb))
theorem strOf_ext (s : ByteArray) : (⟨s.data.toList.toArray⟩ : ByteArray) = s := by cases s; simp
/-- an empty text, and one that is not -/
theorem emp_true {r : ByteArray} (h : r.size = 0) : (!r.toList.isEmpty) = false := by
  rw [Lib.toList_data]
  have h1 : r.data.toList = [] := List.length_eq_zero_iff.1 (by rw [← Lib.size_eq]; exact h)
  rw [h1]; rfl
theorem emp_false {r : ByteArray} (h : ¬ r.size = 0) : (!r.toList.isEmpty) = true := by
  rw [Lib.toList_data]
  cases h' : r.data.toList with
  | nil => have := Lib.size_eq r; rw [h'] at this; exact absurd this h
  | cons a b => rfl
theorem nil_of_size {r : ByteArray} (h : r.size = 0) : r.data.toList = [] := by
  have := Lib.size_eq r; exact List.length_eq_zero_iff.1 (by omega)
end Go.Proofs.YtnefcilopgcdpaaGreatDoor
namespace Go.Proofs.YtnefcilopgcdpaaGreatDoor
open Go.RowKit Ms

/-- a chain of nodes (4 cells each) or of cases (2 cells each), n of them, from a place on -/
def Rd (W : World) : T → Nat → Nat → Nat → Prop
  | .nil, _, _, n => n = 0
  | .node k x f cs nx, b, o, n => ∃ v m, n = m + 1 ∧ W.cell? ⟨b, o, none⟩ = some (.int .i64 k) ∧ W.cell? ⟨b, o + 1, none⟩ = some (.string ⟨x.toArray⟩) ∧ W.cell? ⟨b, o + 2, none⟩ = some (.int .i64 f) ∧ W.cell? ⟨b, o + 3, none⟩ = some v ∧
      (((∃ a, v = .slice a 0 0) ∧ cs = .nil) ∨ ∃ b' o' n' c', v = .slice (some ⟨b', o', none⟩) n' c' ∧ n' ≤ c' ∧ Rd W cs b' o' n') ∧ Rd W nx b (o + 4) m
  | .case key body nx, b, o, n => ∃ v m, n = m + 1 ∧ W.cell? ⟨b, o, none⟩ = some (.string ⟨key.toArray⟩) ∧ W.cell? ⟨b, o + 1, none⟩ = some v ∧
      (((∃ a, v = .slice a 0 0) ∧ body = .nil) ∨ ∃ b' o' n' c', v = .slice (some ⟨b', o', none⟩) n' c' ∧ n' ≤ c' ∧ Rd W body b' o' n') ∧ Rd W nx b (o + 2) m
/-- a slice that reads as a chain -/
def SV (W : World) (v : Value) (t : T) : Prop := ((∃ a, v = .slice a 0 0) ∧ t = .nil) ∨ ∃ b o n c, v = .slice (some ⟨b, o, none⟩) n c ∧ n ≤ c ∧ Rd W t b o n

theorem cellLt {w : World} {b o : Nat} {v : Value} (h : w.cell? ⟨b, o, none⟩ = some v) : b < w.heap.size := by
  rcases Nat.lt_or_ge b w.heap.size with h' | h'
  · exact h'
  · simp [World.cell?, Array.getElem?_eq_none h'] at h

theorem Rd.keep {W W' : World} (hc : ∀ b o v, W.cell? ⟨b, o, none⟩ = some v → W'.cell? ⟨b, o, none⟩ = some v) : ∀ (t : T) (b o n : Nat), Rd W t b o n → Rd W' t b o n
  | .nil, _, _, _, h => h
  | .node k x f cs nx, b, o, n, h => by
    obtain ⟨v, m, h1, h2, h3, h4, h5, h6, h7⟩ := h
    refine ⟨v, m, h1, hc _ _ _ h2, hc _ _ _ h3, hc _ _ _ h4, hc _ _ _ h5, ?_, Rd.keep hc nx _ _ _ h7⟩
    rcases h6 with h6 | ⟨b', o', n', c', e1, e2, e3⟩
    · exact .inl h6
    · exact .inr ⟨b', o', n', c', e1, e2, Rd.keep hc cs _ _ _ e3⟩
  | .case key body nx, b, o, n, h => by
    obtain ⟨v, m, h1, h2, h3, h6, h7⟩ := h
    refine ⟨v, m, h1, hc _ _ _ h2, hc _ _ _ h3, ?_, Rd.keep hc nx _ _ _ h7⟩
    rcases h6 with h6 | ⟨b', o', n', c', e1, e2, e3⟩
    · exact .inl h6
    · exact .inr ⟨b', o', n', c', e1, e2, Rd.keep hc body _ _ _ e3⟩
theorem keepCells {W W' : World} (hb : Below W.heap.size W W') : ∀ b o v, W.cell? ⟨b, o, none⟩ = some v → W'.cell? ⟨b, o, none⟩ = some v := fun b o v h => by
  rw [hb.cell (p := ⟨_, _, none⟩) (cellLt h)]; exact h
theorem Rd.below {W W' : World} {t : T} {b o n : Nat} (h : Rd W t b o n) (hb : Below W.heap.size W W') : Rd W' t b o n := Rd.keep (keepCells hb) t b o n h
theorem SV.below {W W' : World} {v : Value} {t : T} (h : SV W v t) (hb : Below W.heap.size W W') : SV W' v t := by
  rcases h with h | ⟨b, o, n, c, e1, e2, e3⟩
  · exact .inl h
  · exact .inr ⟨b, o, n, c, e1, e2, e3.below hb⟩

/-- how many there are in a chain -/
def len : T → Nat
  | .nil => 0
  | .node _ _ _ _ nx => len nx + 1
  | .case _ _ nx => len nx + 1
theorem Rd.len {W : World} : ∀ (t : T) (b o n : Nat), Rd W t b o n → n = len t
  | .nil, _, _, _, h => h
  | .node k x f cs nx, b, o, n, h => by
    obtain ⟨v, m, h1, _, _, _, _, _, h7⟩ := h
    rw [h1, Rd.len nx _ _ _ h7]; rfl
  | .case key body nx, b, o, n, h => by
    obtain ⟨v, m, h1, _, _, _, h7⟩ := h
    rw [h1, Rd.len nx _ _ _ h7]; rfl
/-- what a tree weighs: its parts and its letters -/
def wt : T → Nat
  | .nil => 1
  | .node _ x _ cs nx => 4 + x.length + wt cs + wt nx
  | .case key body nx => 2 + key.length + wt body + wt nx
theorem len_wt : ∀ t, len t ≤ wt t
  | .nil => by simp [len, wt]
  | .node _ _ _ cs nx => by have := len_wt nx; simp [len, wt]; omega
  | .case _ body nx => by have := len_wt nx; simp [len, wt]; omega
theorem cnt_wt : ∀ t, cnt t ≤ wt t
  | .nil => by simp [cnt, wt]
  | .node k _ _ cs nx => by
    have h1 := cnt_wt nx; have h2 := cnt_wt cs
    simp only [cnt, wt]; split <;> omega
  | .case _ body nx => by have h1 := cnt_wt nx; have h2 := cnt_wt body; simp only [cnt, wt]; omega
theorem len_cnt : ∀ t, isN t = true → len t ≤ cnt t
  | .nil, _ => by simp [len]
  | .node k _ _ cs nx, h => by
    have := len_cnt nx (by have : isN.isC cs = true ∧ isN nx = true := by simpa [isN] using h
                           exact this.2)
    simp only [len, cnt]; split <;> omega
  | .case _ _ _, h => by cases h
/-- how many parts, for induction -/
def sz : T → Nat
  | .nil => 0
  | .node _ _ _ cs nx => sz cs + sz nx + 1
  | .case _ body nx => sz body + sz nx + 1
/-- a node's value -/
def nodeV (k : Int) (x : List UInt8) (f : Int) (v : Value) : Value := .agg #[.int .i64 k, .string ⟨x.toArray⟩, .int .i64 f, v]

set_option maxRecDepth 100000 in
/-- msg.Cases: a node's cases, if its kind has some -/
theorem cases_any (k f : Int) (x : ByteArray) (v : Value) (w : World) :
    Calls Tryz.prog 25 #[.agg #[.int .i64 k, .string x, .int .i64 f, v]] w fun e w' => e = .returned (if hasC k = true then v else .slice none 0 0) ∧ Below w.heap.size w w' := by
  have hb : ∃ p q : Bool, (k == 4) = p ∧ (k == 5) = q := ⟨_, _, rfl, rfl⟩
  obtain ⟨p, q, hp, hq⟩ := hb
  have hh : hasC k = (p || q) := by unfold hasC; rw [hp, hq]
  rw [hh]
  clear hh
  cases p <;> cases q
  all_goals
    go_enter Tryz.func25, Tryz.ntmps25
    go_wp2_with fail
    go_ret
    exact ⟨rfl, (Below.refl _ _).alloc (Nat.le_refl _) _⟩
theorem SV.form {w : World} {v : Value} {t : T} (h : SV w v t) : ∃ a n c, v = .slice a n c := by
  rcases h with ⟨⟨_, h⟩, _⟩ | ⟨b, o, n, c, h, _⟩
  · exact ⟨_, _, _, h⟩
  · exact ⟨_, _, _, h⟩
end Go.Proofs.YtnefcilopgcdpaaGreatDoor
namespace Go.Proofs.YtnefcilopgcdpaaGreatDoor
open Ms

/-- one chain behind another -/
def app : T → T → T
  | .nil, u => u
  | .node k x f cs nx, u => .node k x f cs (app nx u)
  | .case key body nx, u => .case key body (app nx u)
theorem app_isN : ∀ (t u : T), isN t = true → isN u = true → isN (app t u) = true
  | .nil, _, _, h => h
  | .node k x f cs nx, u, h1, h2 => by
    have h : isN.isC cs = true ∧ isN nx = true := by simpa [isN] using h1
    simp only [app, isN, h.1, app_isN nx u h.2 h2, Bool.and_true]
  | .case _ _ _, _, h, _ => by cases h
theorem app_wt : ∀ (t u : T), wt (app t u) + 1 = wt t + wt u
  | .nil, _ => by simp [app, wt]; omega
  | .node k x f cs nx, u => by have := app_wt nx u; simp only [app, wt]; omega
  | .case _ _ nx, u => by have := app_wt nx u; simp only [app, wt]; omega
theorem app_txt : ∀ (t u : T) (mark : Bool), txt (app t u) mark = txt t mark ++ txt u mark
  | .nil, _, _ => by simp [app, txt]
  | .node k x f cs nx, u, mark => by simp only [app, txt, app_txt nx u mark, List.append_assoc]
  | .case key body nx, u, mark => by simp only [app, txt, app_txt nx u mark, List.append_assoc, List.cons_append]
/-- a name between: what is wrong with a right chain, and that behind it -/
theorem flt_who (f : Int) (x : List UInt8) (t : T) (mark pw : Bool) (hx : nameB x = true) : flt (.node 2 x f .nil t) mark pw 0 [] = flt t mark false 0 [] := by
  simp [flt, fine, hx, hasC]
theorem app_flt : ∀ (t u : T) (mark pw : Bool), isN t = true → (∀ pw, flt u mark pw 0 [] = 0) → flt t mark pw 0 [] = 0 → flt (app t u) mark pw 0 [] = 0
  | .nil, _, _, _, _, h, _ => h _
  | .node k x f cs nx, u, mark, pw, hn, h, ht => by
    obtain ⟨h1, h2, h3, h4⟩ := Ms.flt_node ht
    have hnn : isN.isC cs = true ∧ isN nx = true := by simpa [isN] using hn
    have ih := app_flt nx u mark (k == 1) hnn.2 h h4
    simp only [app, flt]
    rw [if_neg (by rw [h1]; decide), if_neg h2, if_neg (fun hh => hh.2 (h3 hh.1))]
    exact ih
  | .case _ _ _, _, _, _, hn, _, _ => by cases hn
theorem app_len : ∀ (t u : T), len (app t u) = len t + len u
  | .nil, _ => by simp [app, len]
  | .node _ _ _ _ nx, u => by have := app_len nx u; simp only [app, len]; omega
  | .case _ _ nx, u => by have := app_len nx u; simp only [app, len]; omega
/-- what is right is right within a Select -/
theorem flt_in (t : T) (x : List UInt8) (f : Int) (hx : nameB x = true) (h : flt t false false 0 [] = 0) : flt (.node 5 x f (.case otherK t .nil) .nil) false false 0 [] = 0 := by
  have hk : keyB 5 otherK = true := by decide
  simp [flt, fine, hx, hasC, hk, h]
theorem fault_fine {t : T} (h : flt t false false 0 [] = 0) : fault t = 0 ∨ fault t = 4 := by
  unfold fault; split
  · exact .inr rfl
  · exact .inl h
theorem fault_0 {t : T} (h : fault t = 0) : flt t false false 0 [] = 0 ∧ big t 0 = false := by
  unfold fault at h
  split at h
  · cases h
  · rename_i hb
    exact ⟨h, by simpa using hb⟩
theorem Rd.app {W : World} : ∀ (t u : T) (b o n m : Nat), isN t = true → Rd W t b o n → Rd W u b (o + 4 * n) m → Rd W (app t u) b o (n + m)
  | .nil, u, b, o, n, m, _, h, hu => by
    have h0 : n = 0 := h
    subst h0; simpa [Go.Proofs.YtnefcilopgcdpaaGreatDoor.app] using hu
  | .node k x f cs nx, u, b, o, n, m, hn, h, hu => by
    have hnn : isN.isC cs = true ∧ isN nx = true := by simpa [isN] using hn
    obtain ⟨v, m', h1, h2, h3, h4, h5, h6, h7⟩ := h
    subst h1
    refine ⟨v, m' + m, by omega, h2, h3, h4, h5, h6, ?_⟩
    exact Rd.app nx u b (o + 4) m' m hnn.2 h7 (by rw [show o + 4 + 4 * m' = o + 4 * (m' + 1) by omega]; exact hu)
  | .case _ _ _, _, _, _, _, _, hn, _, _ => by cases hn
/-- cells that were copied read alike (in a world that kept what there was) -/
theorem Rd.copy {W W' : World} (hc : ∀ b o v, W.cell? ⟨b, o, none⟩ = some v → W'.cell? ⟨b, o, none⟩ = some v) : ∀ (t : T) (b o n b' o' : Nat), isN t = true → Rd W t b o n →
    (∀ j v, j < 4 * n → W.cell? ⟨b, o + j, none⟩ = some v → W'.cell? ⟨b', o' + j, none⟩ = some v) → Rd W' t b' o' n
  | .nil, _, _, _, _, _, _, h, _ => h
  | .node k x f cs nx, b, o, n, b', o', hn, h, hj => by
    have hnn : isN.isC cs = true ∧ isN nx = true := by simpa [isN] using hn
    obtain ⟨v, m', h1, h2, h3, h4, h5, h6, h7⟩ := h
    subst h1
    refine ⟨v, m', rfl, by simpa using hj 0 _ (by omega) (by simpa using h2), hj 1 _ (by omega) h3, hj 2 _ (by omega) h4, hj 3 _ (by omega) h5, ?_, ?_⟩
    · rcases h6 with h6 | ⟨b'', o'', n'', c'', e1, e2, e3⟩
      · exact .inl h6
      · exact .inr ⟨b'', o'', n'', c'', e1, e2, Rd.keep hc cs _ _ _ e3⟩
    · refine Rd.copy hc nx b (o + 4) m' b' (o' + 4) hnn.2 h7 (fun j v hjn hv => ?_)
      have := hj (4 + j) v (by omega) (by rw [show o + (4 + j) = o + 4 + j by omega]; exact hv)
      rw [show o' + 4 + j = o' + (4 + j) by omega]; exact this
  | .case _ _ _, _, _, _, _, _, hn, _, _ => by cases hn
end Go.Proofs.YtnefcilopgcdpaaGreatDoor
namespace Go.Proofs.YtnefcilopgcdpaaGreatDoor
open Ms

/-- what stands behind a { : a node, and the rest -/
def argO (deep : Nat) (mark : Bool) (r1 : List UInt8) : Option ((Int × List UInt8 × Int × T) × List UInt8) :=
  match upto (fun c => c == 44 || c == 125) r1 with
  | none => none
  | some (x, r2) => match pre [125] r2 with
    | some r3 => some ((2, x, 0, .nil), r3)
    | none => match pre number r2 with
      | some r3 => some ((3, x, 0, .nil), r3)
      | none => match pre select r2 with
        | some r3 => match CC deep mark r3 with
          | none => none
          | some (cs, r4) => some ((5, x, 0, cs), r4)
        | none => match pre plural r2 with
          | none => none
          | some r3 => match offs r3 with
            | none => none
            | some (f, r4) => match CC deep true r4 with
              | none => none
              | some (cs, r5) => some ((4, x, f, cs), r5)
theorem argB_eq (deep : Nat) (mark : Bool) (r1 : List UInt8) : argB deep mark r1 = match argO deep mark r1 with
    | none => none
    | some (p, r) => consO p.1 p.2.1 p.2.2.1 p.2.2.2 (NN deep mark r) := by
  unfold argB argO
  cases h1 : upto (fun c => c == 44 || c == 125) r1 with
  | none => rfl
  | some p2 =>
    obtain ⟨x, r2⟩ := p2
    simp only []
    cases h3 : pre [125] r2 with
    | some r3 => rfl
    | none =>
      simp only []
      cases h4 : pre number r2 with
      | some r3 => rfl
      | none =>
        simp only []
        cases h5 : pre select r2 with
        | some r3 =>
          simp only []
          cases h6 : CC deep mark r3 with
          | none => rfl
          | some p6 => rfl
        | none =>
          simp only []
          cases h6 : pre plural r2 with
          | none => rfl
          | some r3 =>
            simp only []
            cases h7 : offs r3 with
            | none => rfl
            | some p7 =>
              obtain ⟨f, r4⟩ := p7
              simp only []
              cases h8 : CC deep true r4 with
              | none => rfl
              | some p8 => rfl

/-- what was read so far, ahead of what is read -/
def mapA (acc : T) (o : Option (T × List UInt8)) : Option (T × List UInt8) := o.map fun p => (app acc p.1, p.2)
theorem app_nil : ∀ t : T, app t .nil = t
  | .nil => rfl
  | .node _ _ _ _ nx => by simp only [app, app_nil nx]
  | .case _ _ nx => by simp only [app, app_nil nx]
theorem app_assoc : ∀ a b c : T, app (app a b) c = app a (app b c)
  | .nil, _, _ => rfl
  | .node _ _ _ _ nx, b, c => by simp only [app, app_assoc nx b c]
  | .case _ _ nx, b, c => by simp only [app, app_assoc nx b c]
theorem mapA_nil (o : Option (T × List UInt8)) : mapA .nil o = o := by cases o <;> rfl
theorem mapA_mapA (a b : T) (o : Option (T × List UInt8)) : mapA a (mapA b o) = mapA (app a b) o := by
  cases o with
  | none => rfl
  | some p => simp only [mapA, Option.map_some, app_assoc]
theorem mapA_none (a : T) : mapA a none = none := rfl
theorem mapA_end (a : T) (r : List UInt8) : mapA a (some (.nil, r)) = some (a, r) := by simp only [mapA, Option.map_some, app_nil]
theorem wordsO_mapA (t : List UInt8) (o : Option (T × List UInt8)) : wordsO t o = mapA (words t .nil) o := by
  cases o with
  | none => rfl
  | some p =>
    simp only [wordsO, mapA, Option.map_some, words]
    split <;> rfl
theorem consO_mapA (k : Int) (x : List UInt8) (f : Int) (cs : T) (o : Option (T × List UInt8)) : consO k x f cs o = mapA (.node k x f cs .nil) o := by
  cases o <;> rfl
theorem caseO_mapA (key : List UInt8) (b : T) (o : Option (T × List UInt8)) : (o.map fun p => (T.case key b p.1, p.2)) = mapA (.case key b .nil) o := by
  cases o <;> rfl
theorem NN_arg {deep : Nat} {mark : Bool} {l t r1 : List UInt8} {e : Nat} (h : Lx.bare mark l = some (t, e)) (h1 : pre [123] (l.drop e) = some r1) :
    NN deep mark l = mapA (words t .nil) (match argO deep mark r1 with
      | none => none
      | some (p, r) => mapA (.node p.1 p.2.1 p.2.2.1 p.2.2.2 .nil) (NN deep mark r)) := by
  rw [NN_some h, wordsO_mapA, BB_open h1, argB_eq]
  cases argO deep mark r1 with
  | none => rfl
  | some q => obtain ⟨p, r⟩ := q; simp only [consO_mapA]
theorem NN_mark {deep : Nat} {l t r1 : List UInt8} {e : Nat} (h : Lx.bare true l = some (t, e)) (h0 : pre [123] (l.drop e) = none) (h1 : pre [35] (l.drop e) = some r1) :
    NN deep true l = mapA (words t .nil) (mapA (.node 6 [] 0 .nil .nil) (NN deep true r1)) := by
  rw [NN_some h, wordsO_mapA, BB_mark h0 h1, consO_mapA]
theorem NN_end {deep : Nat} {mark : Bool} {l t : List UInt8} {e : Nat} (h : Lx.bare mark l = some (t, e)) (h0 : pre [123] (l.drop e) = none) (h1 : mark = true → pre [35] (l.drop e) = none) :
    NN deep mark l = some (words t .nil, l.drop e) := by
  rw [NN_some h, wordsO_mapA, BB_end h0 h1, mapA_end]
theorem argO_len {deep : Nat} {mark : Bool} {r1 r : List UInt8} {p : Int × List UInt8 × Int × T} (h : argO deep mark r1 = some (p, r)) : r.length < r1.length := by
  unfold argO at h
  cases h2 : upto (fun c => c == 44 || c == 125) r1 with
  | none => simp only [h2] at h; cases h
  | some p2 =>
    obtain ⟨x, r2⟩ := p2
    simp only [h2] at h
    have l2 := (upto_len h2).1
    cases h3 : pre [125] r2 with
    | some r3 => simp only [h3] at h; cases h; have := pre_len h3; simp at this; omega
    | none =>
      simp only [h3] at h
      cases h4 : pre number r2 with
      | some r3 => simp only [h4] at h; cases h; have := pre_len h4; simp [number] at this; omega
      | none =>
        simp only [h4] at h
        cases h5 : pre select r2 with
        | some r3 =>
          simp only [h5] at h
          have := pre_len h5; simp [select] at this
          cases h6 : CC deep mark r3 with
          | none => simp only [h6] at h; cases h
          | some p6 =>
            obtain ⟨cs, r4⟩ := p6
            simp only [h6] at h; cases h
            have := (rest_len _).2.2 deep mark r3 cs _ h6
            omega
        | none =>
          simp only [h5] at h
          cases h6 : pre plural r2 with
          | none => simp only [h6] at h; cases h
          | some r3 =>
            simp only [h6] at h
            have := pre_len h6; simp [plural] at this
            cases h7 : offs r3 with
            | none => simp only [h7] at h; cases h
            | some p7 =>
              obtain ⟨f, r4⟩ := p7
              simp only [h7] at h
              have := offs_len h7
              cases h8 : CC deep true r4 with
              | none => simp only [h8] at h; cases h
              | some p8 =>
                obtain ⟨cs, r5⟩ := p8
                simp only [h8] at h; cases h
                have := (rest_len _).2.2 deep true r4 cs _ h8
                omega

/-! ### what is read is clean, and no greater than its text -/
theorem words_wt {t : List UInt8} {r : T} {e : Nat} (h : t.length ≤ e) : wt (words t r) ≤ 6 * e + wt r := by
  unfold words
  split
  · omega
  · rename_i hne
    have : 1 ≤ t.length := by
      cases t with
      | nil => simp at hne
      | cons a b => simp
    simp only [wt]; omega
theorem words_isN {t : List UInt8} {r : T} (h : isN r = true) : isN (words t r) = true := by
  unfold words; split
  · exact h
  · simp [isN, isN.isC, h]
theorem words_clean {t : List UInt8} {r : T} (h : clean r = r) : clean (words t r) = words t r := by
  unfold words; split
  · exact h
  · simp [clean, hasC, h]
def GoodN (l : List UInt8) (t : T) (r : List UInt8) : Prop := isN t = true ∧ clean t = t ∧ wt t + 6 * r.length ≤ 6 * l.length + 1
def GoodC (l : List UInt8) (t : T) (r : List UInt8) : Prop := isN.isC t = true ∧ clean t = t ∧ wt t + 6 * r.length ≤ 6 * l.length + 1
theorem good : ∀ (n : Nat), (∀ deep mark l t r, N n deep mark l = some (t, r) → GoodN l t r) ∧ (∀ deep mark l t r, B n deep mark l = some (t, r) → GoodN l t r) ∧ (∀ deep mark l t r, C n deep mark l = some (t, r) → GoodC l t r) := by
  intro n
  induction n with
  | zero => exact ⟨(fun _ _ _ _ _ h => by rw [N] at h; cases h), (fun _ _ _ _ _ h => by rw [B] at h; cases h), (fun _ _ _ _ _ h => by rw [C] at h; cases h)⟩
  | succ n ih =>
    obtain ⟨iN, iB, iC⟩ := ih
    refine ⟨?_, ?_, ?_⟩
    · intro deep mark l t r h
      rw [N_succ] at h
      cases hb : Lx.bare mark l with
      | none => rw [hb] at h; cases h
      | some p =>
        obtain ⟨x, e⟩ := p
        rw [hb] at h
        obtain ⟨q, hq, he⟩ := wordsO_some h
        cases he
        obtain ⟨g1, g2, g3⟩ := iB deep mark (l.drop e) q.1 q.2 hq
        have hp := Lx.az_places hb
        have hw := words_wt (r := q.1) hp.2
        rw [List.length_drop] at g3
        exact ⟨words_isN g1, words_clean g2, by omega⟩
    · intro deep mark l t r h
      rw [B_succ] at h
      cases h1 : pre [123] l with
      | none =>
        simp only [h1] at h
        cases h2 : (if mark = true then pre [35] l else none) with
        | none => simp only [h2] at h; cases h; exact ⟨rfl, rfl, by simp [wt]; omega⟩
        | some r1 =>
          simp only [h2] at h
          obtain ⟨q, hq, he⟩ := consO_some h
          cases he
          have h3 : pre [35] l = some r1 := by
            cases mark with
            | true => exact h2
            | false => cases h2
          have := pre_len h3
          obtain ⟨g1, g2, g3⟩ := iN deep mark r1 q.1 q.2 hq
          refine ⟨by simp [isN, isN.isC, g1], by simp [clean, hasC, g2], ?_⟩
          simp at this
          simp only [wt, List.length_nil]; omega
      | some r1 =>
        simp only [h1] at h
        have l1 := pre_len h1
        simp at l1
        cases h2 : upto (fun c => c == 44 || c == 125) r1 with
        | none => simp only [h2] at h; cases h
        | some p2 =>
          obtain ⟨x, r2⟩ := p2
          simp only [h2] at h
          have l2 := (upto_len h2).1
          cases h3 : pre [125] r2 with
          | some r3 =>
            simp only [h3] at h
            obtain ⟨q, hq, he⟩ := consO_some h
            cases he
            have := pre_len h3
            simp at this
            obtain ⟨g1, g2, g3⟩ := iN deep mark r3 q.1 q.2 hq
            exact ⟨by simp [isN, isN.isC, g1], by simp [clean, hasC, g2], by simp only [wt]; omega⟩
          | none =>
            simp only [h3] at h
            cases h4 : pre number r2 with
            | some r3 =>
              simp only [h4] at h
              obtain ⟨q, hq, he⟩ := consO_some h
              cases he
              have := pre_len h4
              simp [number] at this
              obtain ⟨g1, g2, g3⟩ := iN deep mark r3 q.1 q.2 hq
              exact ⟨by simp [isN, isN.isC, g1], by simp [clean, hasC, g2], by simp only [wt]; omega⟩
            | none =>
              simp only [h4] at h
              cases h5 : pre select r2 with
              | some r3 =>
                simp only [h5] at h
                have := pre_len h5
                simp [select] at this
                cases h6 : C n deep mark r3 with
                | none => simp only [h6] at h; cases h
                | some p6 =>
                  obtain ⟨cs, r4⟩ := p6
                  simp only [h6] at h
                  obtain ⟨q, hq, he⟩ := consO_some h
                  cases he
                  obtain ⟨c1, c2, c3⟩ := iC deep mark r3 cs r4 h6
                  obtain ⟨g1, g2, g3⟩ := iN deep mark r4 q.1 q.2 hq
                  exact ⟨by simp [isN, c1, g1], by simp [clean, hasC, g2, c2], by simp only [wt]; omega⟩
              | none =>
                simp only [h5] at h
                cases h6 : pre plural r2 with
                | none => simp only [h6] at h; cases h
                | some r3 =>
                  simp only [h6] at h
                  have := pre_len h6
                  simp [plural] at this
                  cases h7 : offs r3 with
                  | none => simp only [h7] at h; cases h
                  | some p7 =>
                    obtain ⟨f, r4⟩ := p7
                    simp only [h7] at h
                    have := offs_len h7
                    cases h8 : C n deep true r4 with
                    | none => simp only [h8] at h; cases h
                    | some p8 =>
                      obtain ⟨cs, r5⟩ := p8
                      simp only [h8] at h
                      obtain ⟨q, hq, he⟩ := consO_some h
                      cases he
                      obtain ⟨c1, c2, c3⟩ := iC deep true r4 cs r5 h8
                      obtain ⟨g1, g2, g3⟩ := iN deep mark r5 q.1 q.2 hq
                      exact ⟨by simp [isN, c1, g1], by simp [clean, hasC, g2, c2], by simp only [wt]; omega⟩
    · intro deep mark l t r h
      rw [C_succ] at h
      cases h1 : pre [125] l with
      | some r1 =>
        simp only [h1] at h; cases h
        have := pre_len h1
        simp at this
        exact ⟨rfl, rfl, by simp only [wt]; omega⟩
      | none =>
        simp only [h1] at h
        cases h2 : pre [32] l with
        | none => simp only [h2] at h; cases h
        | some r1 =>
          simp only [h2] at h
          have := pre_len h2
          simp at this
          cases h3 : upto (fun c => c == 32) r1 with
          | none => simp only [h3] at h; cases h
          | some p3 =>
            obtain ⟨key, r2⟩ := p3
            simp only [h3] at h
            have := (upto_len h3).1
            cases h4 : pre [32, 123] r2 with
            | none => simp only [h4] at h; cases h
            | some r3 =>
              simp only [h4] at h
              have := pre_len h4
              simp at this
              split at h
              · cases h
              · cases h5 : N n (deep + 1) mark r3 with
                | none => simp only [h5] at h; cases h
                | some p5 =>
                  obtain ⟨b, r4⟩ := p5
                  simp only [h5] at h
                  obtain ⟨b1, b2, b3⟩ := iN (deep + 1) mark r3 b r4 h5
                  cases h6 : pre [125] r4 with
                  | none => simp only [h6] at h; cases h
                  | some r5 =>
                    simp only [h6] at h
                    have := pre_len h6
                    simp at this
                    cases h7 : C n deep mark r5 with
                    | none => rw [h7] at h; cases h
                    | some p7 =>
                      rw [h7] at h
                      cases h
                      obtain ⟨c1, c2, c3⟩ := iC deep mark r5 p7.1 p7.2 h7
                      exact ⟨by simp [isN.isC, b1, c1], by simp [clean, b2, c2], by simp only [wt]; omega⟩
theorem NN_good {deep : Nat} {mark : Bool} {l r : List UInt8} {t : T} (h : NN deep mark l = some (t, r)) : GoodN l t r := (good _).1 deep mark l t r h
theorem CC_good {deep : Nat} {mark : Bool} {l r : List UInt8} {t : T} (h : CC deep mark l = some (t, r)) : GoodC l t r := (good _).2.2 deep mark l t r h

/-! ### clean: what is wrong stays so -/
theorem clean_isN : ∀ t : T, (isN t = true → isN (clean t) = true) ∧ (isN.isC t = true → isN.isC (clean t) = true)
  | .nil => ⟨fun _ => rfl, fun _ => rfl⟩
  | .node k x f cs nx => by
    refine ⟨fun h => ?_, fun h => by cases h⟩
    have h' : isN.isC cs = true ∧ isN nx = true := by simpa [isN] using h
    simp only [clean, isN, (clean_isN nx).1 h'.2, Bool.and_true]
    split
    · exact (clean_isN cs).2 h'.1
    · rfl
  | .case key body nx => by
    refine ⟨fun h => (by cases h), fun h => ?_⟩
    have h' : isN body = true ∧ isN.isC nx = true := by simpa [isN.isC] using h
    simp only [clean, isN.isC, (clean_isN nx).2 h'.2, (clean_isN body).1 h'.1, Bool.and_true]
theorem clean_fine (k : Int) (x : List UInt8) (mark pw : Bool) : fine k (if k = 6 then [] else x) mark pw = fine k x mark pw := by
  by_cases h : k = 6
  · subst h; rfl
  · rw [if_neg h]
theorem clean_flt : ∀ (t : T) (mark pw : Bool) (kind : Int) (seen : List (List UInt8)), flt (clean t) mark pw kind seen = flt t mark pw kind seen
  | .nil, _, _, _, _ => rfl
  | .node k x f cs nx, mark, pw, kind, seen => by
    have e4 : (k = 4 ∧ ((if k = 4 then f else 0) < 0 ∨ (if k = 4 then f else 0) > 9)) ↔ (k = 4 ∧ (f < 0 ∨ f > 9)) := by
      constructor
      · rintro ⟨h, h'⟩; rw [if_pos h] at h'; exact ⟨h, h'⟩
      · rintro ⟨h, h'⟩; rw [if_pos h]; exact ⟨h, h'⟩
    simp only [clean, flt, clean_fine, clean_flt nx]
    by_cases hc : hasC k = true
    · simp only [hc, if_true, clean_flt cs, e4]
    · simp [hc, e4]
  | .case key body nx, mark, pw, kind, seen => by simp only [clean, flt, clean_flt body, clean_flt nx]
theorem clean_cnt : ∀ t : T, cnt (clean t) = cnt t
  | .nil => rfl
  | .node k x f cs nx => by
    simp only [clean, cnt, clean_cnt nx]
    by_cases hc : hasC k = true
    · simp only [hc, if_true, clean_cnt cs]
    · simp only [hc, if_false, Bool.false_eq_true]
  | .case key body nx => by simp only [clean, cnt, clean_cnt nx, clean_cnt body]
theorem clean_deep : ∀ (t : T) (d : Nat), deepB (clean t) d = deepB t d
  | .nil, _ => rfl
  | .node k x f cs nx, d => by
    simp only [clean, deepB, clean_deep nx]
    by_cases hc : hasC k = true
    · simp only [hc, if_true, clean_deep cs]
    · simp only [hc, Bool.false_and]
  | .case key body nx, d => by simp only [clean, deepB, clean_deep nx, clean_deep body]
theorem clean_fault (t : T) : fault (clean t) = fault t := by
  unfold fault big
  rw [clean_cnt, clean_deep, clean_flt]
theorem clean_wt : ∀ t : T, wt (clean t) ≤ wt t
  | .nil => Nat.le_refl _
  | .node k x f cs nx => by
    have h1 := clean_wt nx; have h2 := clean_wt cs
    have h3 : 1 ≤ wt cs := by cases cs <;> simp [wt] <;> omega
    simp only [clean, wt]
    split <;> split <;> simp [wt] <;> omega
  | .case key body nx => by have h1 := clean_wt nx; have h2 := clean_wt body; simp only [clean, wt]; omega

/-- the message of a text, if it is one's -/
def parse (s : List UInt8) : Option T := match NN 0 false s with
  | some (t, []) => if fault t = 0 then some t else none
  | _ => none
theorem parse_good {s : List UInt8} {t : T} (h : parse s = some t) : isN t = true ∧ clean t = t ∧ wt t ≤ 6 * s.length + 1 ∧ fault t = 0 := by
  unfold parse at h
  split at h
  · rename_i t' hN
    split at h
    · rename_i hf
      cases h
      obtain ⟨g1, g2, g3⟩ := NN_good hN
      exact ⟨g1, g2, by simpa using g3, hf⟩
    · cases h
  · cases h
theorem parse_back {t : T} (hn : isN t = true) (h : fault t = 0) : parse (txt t false) = some (clean t) := by
  obtain ⟨h1, h2⟩ := fault_0 h
  have hd : deepB t 0 = false := by
    unfold big at h2; simp at h2; exact h2.1
  have := ((Ms.back t).1 false false 0 [] hn h1 hd (.inl rfl)).1
  rw [List.append_nil] at this
  unfold parse
  rw [this]
  simp only [clean_fault, h, if_true]

/-! ### words alone -/
theorem qz_more (m : Bool) : ∀ (s r : List UInt8), (∀ c ∈ r, Lx.sp m c = true) → (∃ c ∈ r ++ s, Lx.sp m c = true) → r.length + s.length < (Lx.qz m r s).length := by
  have hd : ∀ r : List UInt8, (∀ c ∈ r, Lx.sp m c = true) → r ≠ [] → r.length < (Lx.dupq m r).length := by
    intro r hr hne
    have hl := Lx.dup_len r
    unfold Lx.dupq
    split
    · simp; omega
    · rename_i hno
      have h39 : ∀ c ∈ r, c = 39 := by
        intro c hc
        have h1 := hr c hc
        have h2 : Lx.sg m c = false := by
          have := mt (fun h => List.any_eq_true.2 ⟨c, hc, h⟩) (by simpa using hno)
          simpa using this
        unfold Lx.sp at h1
        rw [h2] at h1; simpa using h1
      have : ∀ l : List UInt8, (∀ c ∈ l, c = 39) → (Lx.dup l).length = 2 * l.length := by
        intro l
        induction l with
        | nil => intro _; rfl
        | cons a b ih =>
          intro h
          have ha := h a (by simp)
          subst ha
          rw [Lx.dup_cons]
          simp only [beq_self_eq_true, if_true, List.length_append, List.length_cons, List.length_nil, ih (fun c hc => h c (by simp [hc]))]; omega
      rw [this r h39]
      have := List.length_pos_iff.2 hne
      omega
  intro s
  induction s with
  | nil =>
    intro r hr hex
    have hne : r ≠ [] := by rintro rfl; simp at hex
    simpa [Lx.qz] using hd r hr hne
  | cons c s ih =>
    intro r hr hex
    rw [Lx.qz]
    split
    · rename_i hc
      have := ih (r ++ [c]) (by simpa [or_imp, forall_and] using ⟨hr, hc⟩) ⟨c, by simp, hc⟩
      simp at this ⊢; omega
    · rename_i hc
      by_cases hne : r = []
      · subst hne
        have hx : ∃ d ∈ [] ++ s, Lx.sp m d = true := by
          obtain ⟨d, hd', hs⟩ := hex
          simp at hd'
          rcases hd' with rfl | hd'
          · exact absurd hs hc
          · exact ⟨d, by simpa using hd', hs⟩
        have := ih [] (by simp) hx
        simp [Lx.dupq, Lx.dup] at this ⊢; omega
      · have h1 := hd r hr hne
        have h2 := Lx.qz_len m s []
        simp at h2 ⊢; omega
theorem quote_same (m : Bool) (s : List UInt8) : Lx.quote m s = s ↔ ∀ c ∈ s, Lx.sp m c = false := by
  constructor
  · intro h c hc
    cases hs : Lx.sp m c with
    | false => rfl
    | true =>
      have := qz_more m s [] (by simp) ⟨c, by simpa using hc, hs⟩
      unfold Lx.quote at h
      rw [h] at this; simp at this
  · intro h
    have := Lx.quote_plain m s [] h
    simpa [Lx.quote, Lx.qz, Lx.dupq, Lx.dup] using this
end Go.Proofs.YtnefcilopgcdpaaGreatDoor
namespace Go.Proofs.YtnefcilopgcdpaaGreatDoor
open Go.RowKit Ms

theorem far_cell {w : World} {b o cb : Nat} {u : Value} (hne : b ≠ cb) (v : Value) (i : Nat) (h : w.cell? ⟨b, o, none⟩ = some u) : (w.setCell ⟨cb, i, none⟩ v).cell? ⟨b, o, none⟩ = some u := by
  unfold World.cell? at h ⊢
  rw [heap_setCell_other w ⟨cb, i, none⟩ b v hne]; exact h
theorem block_cell {w : World} {cb i : Nat} {cs : Array Value} {t : TypeId} {u : Value} (h : w.heap[cb]? = some (.cells cs t)) (hi : cs[i]? = some u) : w.cell? ⟨cb, i, none⟩ = some u := by
  simp [World.cell?, h, hi]
theorem size_setCell (w : World) (a : Addr) (v : Value) : (w.setCell a v).heap.size = w.heap.size := by simp
theorem below_grown {B : Nat} {w a b : World} {row : Option Nat} (h : Below B w a) (hg : a.grownBy b row) (hr : ∀ k, row = some k → B ≤ k) (hB : B ≤ a.heap.size) : Below B w b :=
  ⟨hg.os.trans h.os, hg.tape.trans h.tape, hg.output.trans h.output, Nat.le_trans h.size hg.size, fun k hk => by
    rw [hg.block k (by omega) (fun e => by have := hr k e.symm; omega)]; exact h.block k hk⟩
end Go.Proofs.YtnefcilopgcdpaaGreatDoor
