/- Plain laws of quoting: what Quote and Bare compute, as functions on lists of bytes, and that they go there and back. -/
namespace Lx

/-- a sign: { } and, with mark, # -/
def sg (m : Bool) (c : UInt8) : Bool := c == 123 || c == 125 || (m && c == 35)
/-- a sign or a quote -/
def sp (m : Bool) (c : UInt8) : Bool := sg m c || c == 39
/-- each quote twice -/
def dup (r : List UInt8) : List UInt8 := r.flatMap fun c => if c == 39 then [39, 39] else [c]
/-- a run of signs and quotes, quoted -/
def dupq (m : Bool) (r : List UInt8) : List UInt8 := if r.any (sg m) then 39 :: (dup r ++ [39]) else dup r
/-- quoting, with a run that is not closed yet -/
def qz (m : Bool) : List UInt8 → List UInt8 → List UInt8
  | r, [] => dupq m r
  | r, c :: s => if sp m c then qz m (r ++ [c]) s else dupq m r ++ c :: qz m [] s
def quote (m : Bool) (s : List UInt8) : List UInt8 := qz m [] s

def add (l : List UInt8) (k : Nat) : Option (List UInt8 × Nat) → Option (List UInt8 × Nat)
  | none => none
  | some (t, n) => some (l ++ t, k + n)

/-- reading: outside quotes (false), inside (true) -/
def az (m : Bool) : Bool → List UInt8 → Option (List UInt8 × Nat)
  | false, [] => some ([], 0)
  | true, [] => none
  | true, [c] => if c == 39 then some ([], 1) else none
  | true, c :: d :: s => if c == 39 then (if d == 39 then add [39] 2 (az m true s) else add [] 1 (az m false (d :: s))) else add [c] 1 (az m true (d :: s))
  | false, [c] => if sg m c then some ([], 0) else some ([c], 1)
  | false, c :: d :: s => if sg m c then some ([], 0) else if c == 39 then (if d == 39 then add [39] 2 (az m false s) else if sg m d then add [] 1 (az m true (d :: s)) else add [c] 1 (az m false (d :: s))) else add [c] 1 (az m false (d :: s))
def bare (m : Bool) (s : List UInt8) : Option (List UInt8 × Nat) := az m false s

/-- the end of what is read: nothing, or a sign -/
def Ends (m : Bool) (t : List UInt8) : Prop := t = [] ∨ ∃ c s, t = c :: s ∧ sg m c = true

theorem sg39 (m : Bool) : sg m 39 = false := by cases m <;> rfl

theorem add_some {l k t n} : add l k (some (t, n)) = some (l ++ t, k + n) := rfl
theorem add_add (l k l' k' x) : add l k (add l' k' x) = add (l ++ l') (k + k') x := by
  cases x with
  | none => rfl
  | some p => obtain ⟨t, n⟩ := p; simp [add, Nat.add_assoc]
theorem add_eq {l l' k k' x} (h : l = l') (g : k = k') : add l k x = add l' k' x := by rw [h, g]
theorem add_nil (x) : add [] 0 x = x := by
  cases x with
  | none => rfl
  | some p => obtain ⟨t, n⟩ := p; simp [add]

theorem az_end (m : Bool) (t : List UInt8) (h : Ends m t) : az m false t = some ([], 0) := by
  rcases h with rfl | ⟨c, s, rfl, hc⟩
  · rfl
  · cases s with
    | nil => simp [az, hc]
    | cons d s => simp [az, hc]

/-- a byte that is no sign and no quote -/
theorem az_plain (m : Bool) (c : UInt8) (s) (hc : sp m c = false) : az m false (c :: s) = add [c] 1 (az m false s) := by
  simp only [sp, Bool.or_eq_false_iff] at hc
  cases s with
  | nil => simp [az, hc.1, add]
  | cons d s => simp [az, hc.1, hc.2]

theorem az_pair (m : Bool) (s) : az m false (39 :: 39 :: s) = add [39] 2 (az m false s) := by
  simp [az, sg39]

/-- inside: what does not begin with a quote closes -/
theorem az_close (m : Bool) (s : List UInt8) (h : s.head? ≠ some 39) : az m true (39 :: s) = add [] 1 (az m false s) := by
  cases s with
  | nil => simp [az, add]
  | cons d s =>
    have : d ≠ 39 := by simpa using h
    simp [az, this]
theorem az_in_pair (m : Bool) (s) : az m true (39 :: 39 :: s) = add [39] 2 (az m true s) := by simp [az]
theorem az_in (m : Bool) (c) (s) (hc : c ≠ 39) (hs : s ≠ []) : az m true (c :: s) = add [c] 1 (az m true s) := by
  cases s with
  | nil => exact absurd rfl hs
  | cons d s => simp [az, hc]

theorem dup_nil : dup [] = [] := rfl
theorem dup_cons (c r) : dup (c :: r) = (if c == 39 then [39, 39] else [c]) ++ dup r := by simp [dup]
theorem dup_append (a b) : dup (a ++ b) = dup a ++ dup b := by simp [dup]

/-- inside: a run, then the closing quote -/
theorem az_in_dup (m : Bool) (r t) (h : t.head? ≠ some 39) : az m true (dup r ++ 39 :: t) = add r (dup r).length (add [] 1 (az m false t)) := by
  induction r with
  | nil => simp [dup_nil, az_close m t h, add_add]
  | cons c r ih =>
    rw [dup_cons]
    by_cases hc : c = 39
    · subst hc
      simp only [beq_self_eq_true, ↓reduceIte, List.cons_append, List.nil_append]
      rw [az_in_pair, ih, add_add]
      exact add_eq (by simp) (by simp; omega)
    · simp only [beq_iff_eq, hc, ↓reduceIte, List.cons_append, List.nil_append]
      rw [az_in m c _ hc (by simp), ih, add_add]
      exact add_eq (by simp) (by simp; omega)

/-- outside: a quoted run with a sign -/
theorem az_run (m : Bool) (r t) (hr : r.any (sg m) = true) (hs : ∀ c ∈ r, sp m c = true) (h : t.head? ≠ some 39) :
    az m false (39 :: (dup r ++ 39 :: t)) = add r (2 + (dup r).length) (az m false t) := by
  induction r with
  | nil => simp at hr
  | cons c r ih =>
    by_cases hc : c = 39
    · subst hc
      have hr' : r.any (sg m) = true := by simpa [sg39] using hr
      have hsr : ∀ c ∈ r, sp m c = true := fun c hc => hs c (by simp [hc])
      rw [dup_cons]
      simp only [beq_self_eq_true, ↓reduceIte, List.cons_append, List.nil_append]
      rw [az_pair, ih hr' hsr, add_add]
      exact add_eq (by simp) (by simp; omega)
    · have hsc : sg m c = true := by
        have := hs c (by simp)
        simpa [sp, hc] using this
      have e : az m false (39 :: (dup (c :: r) ++ 39 :: t)) = add [] 1 (az m true (dup (c :: r) ++ 39 :: t)) := by
        rw [dup_cons]
        simp only [beq_iff_eq, hc, ↓reduceIte, List.cons_append, List.nil_append]
        simp [az, sg39, hc, hsc]
      rw [e, az_in_dup m _ _ h, add_add, add_add]
      simp
      congr 1; omega
theorem az_quotes (m : Bool) (r t) (hr : r.any (sg m) = false) (hs : ∀ c ∈ r, sp m c = true) :
    az m false (dup r ++ t) = add r (dup r).length (az m false t) := by
  induction r with
  | nil => simp [dup_nil, add_nil]
  | cons c r ih =>
    simp only [List.any_cons, Bool.or_eq_false_iff] at hr
    have hc : c = 39 := by
      have := hs c (by simp)
      simpa [sp, hr.1] using this
    subst hc
    rw [dup_cons]
    simp only [beq_self_eq_true, ↓reduceIte, List.cons_append, List.nil_append]
    rw [az_pair, ih hr.2 (fun c hc => hs c (by simp [hc])), add_add]
    exact add_eq (by simp) (by simp; omega)
theorem az_dupq (m : Bool) (r t) (hs : ∀ c ∈ r, sp m c = true) (h : t.head? ≠ some 39) :
    az m false (dupq m r ++ t) = add r (dupq m r).length (az m false t) := by
  unfold dupq
  cases hr : r.any (sg m) with
  | true =>
    simp only [↓reduceIte, List.cons_append, List.append_assoc, List.nil_append]
    rw [az_run m r t hr hs h]
    simp; congr 1; omega
  | false =>
    simp only [Bool.false_eq_true, ↓reduceIte]
    exact az_quotes m r t hr hs

theorem ends_head {m t} (h : Ends m t) : t.head? ≠ some 39 := by
  rcases h with rfl | ⟨c, s, rfl, hc⟩
  · simp
  · intro e; simp at e; subst e; simp [sg39] at hc

theorem az_qz (m : Bool) (s t) (h : Ends m t) : ∀ r, (∀ c ∈ r, sp m c = true) →
    az m false (qz m r s ++ t) = some (r ++ s, (qz m r s).length) := by
  induction s with
  | nil =>
    intro r hs
    rw [qz, az_dupq m r t hs (ends_head h), az_end m t h]
    simp [add]
  | cons c s ih =>
    intro r hs
    rw [qz]
    cases hc : sp m c with
    | true =>
      simp only [↓reduceIte]
      rw [ih (r ++ [c]) (by intro x hx; rcases List.mem_append.1 hx with hx | hx; exact hs x hx; simp at hx; subst hx; exact hc)]
      simp
    | false =>
      simp only [Bool.false_eq_true, ↓reduceIte, List.append_assoc, List.cons_append]
      have hne : (c :: (qz m [] s ++ t)).head? ≠ some 39 := by
        intro e; simp at e; subst e; simp [sp] at hc
      rw [az_dupq m r _ hs hne, az_plain m c _ hc, ih [] (by simp)]
      simp [add]; omega

/-- THERE AND BACK: what is quoted is read as it was, up to its end. -/
theorem bare_quote (m : Bool) (s t) (h : Ends m t) : bare m (quote m s ++ t) = some (s, (quote m s).length) := by
  have := az_qz m s t h [] (by simp)
  simpa [bare, quote] using this
theorem bare_quote' (m : Bool) (s) : bare m (quote m s) = some (s, (quote m s).length) := by
  have := bare_quote m s [] (Or.inl rfl); simpa using this

/-! lengths -/
theorem dup_len (r : List UInt8) : r.length ≤ (dup r).length ∧ (dup r).length ≤ 2 * r.length := by
  induction r with
  | nil => simp [dup]
  | cons c r ih => rw [dup_cons]; split <;> simp <;> omega
theorem dupq_len (m r) : r.length ≤ (dupq m r).length ∧ (dupq m r).length ≤ 2 * r.length + 2 ∧ (dupq m r).length ≤ 4 * r.length := by
  have := dup_len r
  unfold dupq
  split
  · rename_i h
    have : r ≠ [] := by rintro rfl; simp at h
    have := List.length_pos_iff.2 this
    simp; omega
  · omega
theorem qz_len (m s) : ∀ r, r.length + s.length ≤ (qz m r s).length ∧ (qz m r s).length ≤ 4 * (r.length + s.length) := by
  induction s with
  | nil => intro r; have := dupq_len m r; simp [qz]; omega
  | cons c s ih =>
    intro r
    rw [qz]
    split
    · have := ih (r ++ [c]); simp at this ⊢; omega
    · have := ih []; have := dupq_len m r; simp at *; omega
theorem quote_len (m s) : s.length ≤ (quote m s).length ∧ (quote m s).length ≤ 4 * s.length := by
  have := qz_len m s []; simpa [quote] using this

theorem dupq_append_len (m a b) : (dupq m (a ++ b)).length ≤ (dupq m a).length + (dupq m b).length := by
  unfold dupq
  rw [dup_append, List.any_append]
  cases a.any (sg m) <;> cases b.any (sg m) <;> simp <;> omega
theorem qz_split (m s) : ∀ r r', (qz m (r ++ r') s).length ≤ (dupq m r).length + (qz m r' s).length := by
  induction s with
  | nil => intro r r'; exact dupq_append_len m r r'
  | cons c s ih =>
    intro r r'
    rw [qz, qz]
    split
    · rw [List.append_assoc]; exact ih r (r' ++ [c])
    · have := dupq_append_len m r r'; simp; omega
theorem qz_append_len (m s t) : ∀ r, (qz m r (s ++ t)).length ≤ (qz m r s).length + (qz m [] t).length := by
  induction s with
  | nil => intro r; have := qz_split m t r []; simpa [qz] using this
  | cons c s ih =>
    intro r
    rw [List.cons_append, qz, qz]
    split
    · exact ih _
    · have := ih []; simp at *; omega
theorem quote_append_len (m s t) : (quote m (s ++ t)).length ≤ (quote m s).length + (quote m t).length := qz_append_len m s t []

/-! runs -/
theorem qz_run (m : Bool) (p s) (hp : ∀ c ∈ p, sp m c = true) : ∀ r, qz m r (p ++ s) = qz m (r ++ p) s := by
  induction p with
  | nil => simp
  | cons c p ih =>
    intro r
    rw [List.cons_append, qz, if_pos (hp c (by simp)), ih (fun x hx => hp x (by simp [hx]))]
    simp
theorem qz_close (m : Bool) (r s) (h : ∀ c, s.head? = some c → sp m c = false) : qz m r s = dupq m r ++ qz m [] s := by
  cases s with
  | nil => simp [qz, dupq, dup]
  | cons c s =>
    have := h c rfl
    simp [qz, this, dupq, dup]
theorem quote_run (m : Bool) (p s) (hp : ∀ c ∈ p, sp m c = true) (h : ∀ c, s.head? = some c → sp m c = false) : quote m (p ++ s) = dupq m p ++ quote m s := by
  unfold quote; rw [qz_run m p s hp, List.nil_append, qz_close m p s h]
theorem quote_plain (m : Bool) (p s) (hp : ∀ c ∈ p, sp m c = false) : quote m (p ++ s) = p ++ quote m s := by
  induction p with
  | nil => rfl
  | cons c p ih =>
    have h1 := hp c (by simp)
    have : quote m (c :: (p ++ s)) = c :: quote m (p ++ s) := by simp [quote, qz, h1, dupq, dup]
    rw [List.cons_append, this, ih (fun x hx => hp x (by simp [hx]))]; rfl

/-! inside quotes alone: the text, and how much was read, the closing quote too -/
def iq : List UInt8 → Option (List UInt8 × Nat)
  | [] => none
  | [c] => if c == 39 then some ([], 1) else none
  | c :: d :: s => if c == 39 then (if d == 39 then add [39] 2 (iq s) else some ([], 1)) else add [c] 1 (iq (d :: s))
theorem iq_plain {c : UInt8} (s : List UInt8) (hc : c ≠ 39) : iq (c :: s) = add [c] 1 (iq s) := by
  cases s with
  | nil => simp [iq, hc, add]
  | cons d s => simp [iq, hc]
theorem iq_pair (s : List UInt8) : iq (39 :: 39 :: s) = add [39] 2 (iq s) := by simp [iq]
theorem iq_close (s : List UInt8) (h : s.head? ≠ some 39) : iq (39 :: s) = some ([], 1) := by
  cases s with
  | nil => simp [iq]
  | cons d s =>
    have : d ≠ 39 := by simpa using h
    simp [iq, this]
theorem az_iq (m : Bool) : ∀ (n : Nat) (l : List UInt8), l.length ≤ n → az m true l = match iq l with | none => none | some (t, k) => add t k (az m false (l.drop k)) := by
  intro n
  induction n with
  | zero =>
    intro l h
    have : l = [] := List.length_eq_zero_iff.1 (by omega)
    subst this; rfl
  | succ n ih =>
    intro l h
    cases l with
    | nil => rfl
    | cons c s =>
      by_cases hc : c = 39
      · subst hc
        by_cases hs : s.head? = some 39
        · cases s with
          | nil => simp at hs
          | cons d s =>
            simp at hs; subst hs
            rw [az_in_pair, iq_pair, ih s (by simp at h; omega)]
            cases hi : iq s with
            | none => rfl
            | some p =>
              obtain ⟨t, k⟩ := p
              simp only [add_some]
              rw [add_add]
              rw [show 2 + k = k + 1 + 1 from by omega]
              rfl
        · rw [az_close m s hs, iq_close s hs]
          simp
      · rw [iq_plain s hc]
        cases s with
        | nil => simp [az, iq, hc, add]
        | cons d s =>
          rw [az_in m c _ hc (by simp), ih (d :: s) (by simp at h ⊢; omega)]
          cases hi : iq (d :: s) with
          | none => rfl
          | some p =>
            obtain ⟨t, k⟩ := p
            simp only [add_some]
            rw [add_add, Nat.add_comm 1 k]
            rfl
theorem iq_len : ∀ (n : Nat) (l : List UInt8), l.length ≤ n → ∀ t k, iq l = some (t, k) → k ≤ l.length ∧ 1 ≤ k ∧ t.length ≤ k := by
  intro n
  induction n with
  | zero =>
    intro l h t k e
    have : l = [] := List.length_eq_zero_iff.1 (by omega)
    subst this; simp [iq] at e
  | succ n ih =>
    intro l h t k e
    cases l with
    | nil => simp [iq] at e
    | cons c s =>
      by_cases hc : c = 39
      · subst hc
        by_cases hs : s.head? = some 39
        · cases s with
          | nil => simp at hs
          | cons d s =>
            simp at hs; subst hs
            rw [iq_pair] at e
            cases hi : iq s with
            | none => rw [hi] at e; simp [add] at e
            | some p =>
              obtain ⟨t', k'⟩ := p
              rw [hi, add_some] at e
              simp at e h
              obtain ⟨rfl, rfl⟩ := e
              have := ih s (by omega) _ _ hi
              simp; omega
        · rw [iq_close s hs] at e
          simp at e
          obtain ⟨rfl, rfl⟩ := e
          simp
      · rw [iq_plain s hc] at e
        cases hi : iq s with
        | none => rw [hi] at e; simp [add] at e
        | some p =>
          obtain ⟨t', k'⟩ := p
          rw [hi, add_some] at e
          simp at e h
          obtain ⟨rfl, rfl⟩ := e
          have := ih s (by omega) _ _ hi
          simp; omega
/-- how much is read, and told, is no more than there is -/
theorem az_len (m : Bool) : ∀ (n : Nat) (b : Bool) (l : List UInt8), l.length ≤ n → ∀ t k, az m b l = some (t, k) → k ≤ l.length ∧ t.length ≤ k := by
  intro n
  induction n with
  | zero =>
    intro b l h t k e
    have : l = [] := List.length_eq_zero_iff.1 (by omega)
    subst this
    cases b <;> simp [az] at e
    obtain ⟨rfl, rfl⟩ := e
    simp
  | succ n ih =>
    have key : ∀ (b : Bool) (s : List UInt8) (l : List UInt8) (j : Nat) t k, s.length ≤ n → l.length ≤ j → add l j (az m b s) = some (t, k) → k ≤ j + s.length ∧ t.length ≤ k := by
      intro b s l j t k hs hl e
      cases hi : az m b s with
      | none => rw [hi] at e; simp [add] at e
      | some p =>
        obtain ⟨t', k'⟩ := p
        rw [hi, add_some] at e
        simp at e
        obtain ⟨rfl, rfl⟩ := e
        have := ih b s hs _ _ hi
        simp; omega
    intro b l h t k e
    match b, l, h, e with
    | false, [], _, e => simp [az] at e; obtain ⟨rfl, rfl⟩ := e; simp
    | true, [], _, e => simp [az] at e
    | true, [c], _, e =>
      simp only [az] at e
      split at e
      · simp at e; obtain ⟨rfl, rfl⟩ := e; simp
      · simp at e
    | false, [c], _, e =>
      simp only [az] at e
      split at e
      · simp at e; obtain ⟨rfl, rfl⟩ := e; simp
      · simp at e; obtain ⟨rfl, rfl⟩ := e; simp
    | true, c :: d :: s, h, e =>
      simp only [az] at e
      simp only [List.length_cons] at h ⊢
      split at e
      · split at e
        · have := key _ _ _ _ _ _ (by omega) (by simp) e; omega
        · have := key _ _ _ _ _ _ (by simp; omega) (by simp) e; simp at this; omega
      · have := key _ _ _ _ _ _ (by simp; omega) (by simp) e; simp at this; omega
    | false, c :: d :: s, h, e =>
      simp only [az] at e
      simp only [List.length_cons] at h ⊢
      split at e
      · simp at e; obtain ⟨rfl, rfl⟩ := e; simp
      · split at e
        · split at e
          · have := key _ _ _ _ _ _ (by omega) (by simp) e; omega
          · split at e
            · have := key _ _ _ _ _ _ (by simp; omega) (by simp) e; simp at this; omega
            · have := key _ _ _ _ _ _ (by simp; omega) (by simp) e; simp at this; omega
        · have := key _ _ _ _ _ _ (by simp; omega) (by simp) e; simp at this; omega
/-- by places: what stands at i decides the step -/
theorem drop_cons {l : List UInt8} {i : Nat} {c : UInt8} (h : l[i]? = some c) : l.drop i = c :: l.drop (i + 1) := by
  obtain ⟨hi, rfl⟩ := List.getElem?_eq_some_iff.1 h
  exact List.drop_eq_getElem_cons hi
theorem iq_at_plain {l : List UInt8} {i : Nat} {c : UInt8} (h : l[i]? = some c) (hc : c ≠ 39) : iq (l.drop i) = add [c] 1 (iq (l.drop (i + 1))) := by
  rw [drop_cons h, iq_plain _ hc]
theorem iq_at_pair {l : List UInt8} {i : Nat} (h : l[i]? = some 39) (h' : l[i + 1]? = some 39) : iq (l.drop i) = add [39] 2 (iq (l.drop (i + 2))) := by
  rw [drop_cons h, drop_cons h', iq_pair]
theorem iq_at_close {l : List UInt8} {i : Nat} (h : l[i]? = some 39) (h' : l[i + 1]? ≠ some 39) : iq (l.drop i) = some ([], 1) := by
  rw [drop_cons h, iq_close]
  rw [List.head?_drop]; exact h'

theorem az_at_end (m : Bool) {l : List UInt8} {i : Nat} (h : l.length ≤ i) : az m false (l.drop i) = some ([], 0) := by
  rw [List.drop_eq_nil_of_le h]; rfl
theorem az_at_sign {m : Bool} {l : List UInt8} {i : Nat} {c : UInt8} (h : l[i]? = some c) (hc : sg m c = true) : az m false (l.drop i) = some ([], 0) :=
  az_end m _ (.inr ⟨c, l.drop (i + 1), drop_cons h, hc⟩)
theorem az_at_pair (m : Bool) {l : List UInt8} {i : Nat} (h : l[i]? = some 39) (h' : l[i + 1]? = some 39) : az m false (l.drop i) = add [39] 2 (az m false (l.drop (i + 2))) := by
  rw [drop_cons h, drop_cons h', az_pair]
theorem az_at_quote {m : Bool} {l : List UInt8} {i : Nat} {d : UInt8} (h : l[i]? = some 39) (h' : l[i + 1]? = some d) (hd : sg m d = true) :
    az m false (l.drop i) = match iq (l.drop (i + 1)) with | none => none | some (t, k) => add t (1 + k) (az m false (l.drop (i + 1 + k))) := by
  have hd39 : d ≠ 39 := by rintro rfl; rw [sg39] at hd; cases hd
  have e : az m false (l.drop i) = add [] 1 (az m true (l.drop (i + 1))) := by
    rw [drop_cons h, drop_cons h']
    simp [az, sg39, hd39, hd]
  rw [e, az_iq m _ _ (Nat.le_refl _)]
  cases iq (l.drop (i + 1)) with
  | none => rfl
  | some p =>
    obtain ⟨t, k⟩ := p
    simp only [add_add, List.nil_append, List.drop_drop]
theorem az_at_plain {m : Bool} {l : List UInt8} {i : Nat} {c : UInt8} (h : l[i]? = some c) (hc : sg m c = false) (h1 : c = 39 → l[i + 1]? ≠ some 39) (h2 : c = 39 → ∀ d, l[i + 1]? = some d → sg m d = false) :
    az m false (l.drop i) = add [c] 1 (az m false (l.drop (i + 1))) := by
  rw [drop_cons h]
  by_cases hq : c = 39
  · subst hq
    have h1' := h1 rfl
    have h2' := h2 rfl
    have e : l[i + 1]? = (l.drop (i + 1)).head? := by rw [List.head?_drop]
    rw [e] at h1' h2'
    cases hd : l.drop (i + 1) with
    | nil => simp [az, sg39, add]
    | cons d t =>
      rw [hd] at h1' h2'
      have hd1 : d ≠ 39 := by simpa using h1'
      have hd2 := h2' d rfl
      simp [az, sg39, hd1, hd2]
  · exact az_plain m c _ (by simp [sp, hc, hq])
theorem az_places {m : Bool} {l : List UInt8} {t : List UInt8} {k : Nat} (h : az m false l = some (t, k)) : k ≤ l.length ∧ t.length ≤ k := az_len m _ false l (Nat.le_refl _) t k h
end Lx
