/- Plain laws of patterns of days: the pieces that dpat.pieces tells, as a function on lists of bytes. -/
namespace Dp

/-- a piece: a field (its row in the table), or a text -/
inductive Piece where
  | fld (k : Nat)
  | txt (t : List UInt8)

def keys : List (List UInt8) := [[121], [121, 121, 121, 121], [77], [77, 77], [100], [100, 100], [68, 68, 68], [89, 89, 89, 89], [119, 119], [101]]
/-- which row of the table a run of letters is -/
def rowOf (l : List UInt8) : Option Nat := keys.findIdx? (· == l)
theorem rowOf_lt {l : List UInt8} {k : Nat} (h : rowOf l = some k) : k < 10 := by
  have := List.findIdx?_eq_some_iff_findIdx_eq.1 h
  have h1 := this.1
  simpa [keys] using h1

def letter (c : UInt8) : Bool := (97 ≤ (c ||| 32) && (c ||| 32) ≤ 122)
def letter2 (c : UInt8) : Bool := (97 ≤ c && c ≤ 122) || (65 ≤ c && c ≤ 90)
set_option maxRecDepth 100000 in
theorem letter_eq (c : UInt8) : letter c = letter2 c := by
  have h : ∀ n : Fin 256, letter (UInt8.ofNat n.1) = letter2 (UInt8.ofNat n.1) := by decide
  have := h ⟨c.toNat, c.toNat_lt⟩
  simpa using this

/-- a quoted text behind its ', and what is behind its end -/
def qin : List UInt8 → Option (List UInt8 × List UInt8)
  | [] => none
  | 39 :: 39 :: r => (qin r).map fun p => (39 :: p.1, p.2)
  | 39 :: r => some ([], r)
  | c :: r => (qin r).map fun p => (c :: p.1, p.2)
def quoted : List UInt8 → Option (List UInt8 × List UInt8)
  | 39 :: r => some ([39], r)
  | l => qin l

theorem qin_nil : qin [] = none := by unfold qin; rfl
theorem qin_pair (r : List UInt8) : qin (39 :: 39 :: r) = (qin r).map fun p => (39 :: p.1, p.2) := by rw [qin]
theorem qin_end1 : qin [39] = some ([], []) := by rw [qin]; intro r h; cases h
theorem qin_end {b : UInt8} (r : List UInt8) (h : b ≠ 39) : qin (39 :: b :: r) = some ([], b :: r) := by
  rw [qin]; intro r' h'; cases h'; exact h rfl
theorem qin_cons {c : UInt8} (r : List UInt8) (h : c ≠ 39) : qin (c :: r) = (qin r).map fun p => (c :: p.1, p.2) := by
  rw [qin]
  · intro _ h1; exact absurd h1 h
  · intro h1; exact absurd h1 h
theorem quoted_twice (r : List UInt8) : quoted (39 :: r) = some ([39], r) := rfl
theorem quoted_qin {l : List UInt8} (h : ∀ r, l ≠ 39 :: r) : quoted l = qin l := by
  unfold quoted; split
  · exact absurd rfl (h _)
  · rfl

theorem opt_map_some {α β : Type} {f : α → β} {o : Option α} {y : β} (h : o.map f = some y) : ∃ x, o = some x ∧ f x = y := by
  cases o with
  | none => cases h
  | some x => exact ⟨x, rfl, Option.some.inj h⟩

theorem qin_len : ∀ (n : Nat) (l : List UInt8), l.length ≤ n → ∀ t x, qin l = some (t, x) → t.length + x.length < l.length := by
  intro n
  induction n with
  | zero =>
    intro l hl t x h
    have : l = [] := List.length_eq_zero_iff.1 (by omega)
    subst this; rw [qin_nil] at h; cases h
  | succ n ih =>
    intro l hl t x h
    match l with
    | [] => rw [qin_nil] at h; cases h
    | [c] =>
      by_cases hc : c = 39
      · subst hc; rw [qin_end1] at h; cases h; simp
      · rw [qin_cons _ hc, qin_nil] at h; cases h
    | c :: b :: r =>
      by_cases hc : c = 39
      · subst hc
        by_cases hb : b = 39
        · subst hb
          rw [qin_pair] at h
          obtain ⟨⟨t', x'⟩, h1, h2⟩ := opt_map_some h
          cases h2
          have := ih r (by simp at hl; omega) t' x' h1
          simp; omega
        · rw [qin_end r hb] at h; cases h; simp
      · rw [qin_cons _ hc] at h
        obtain ⟨⟨t', x'⟩, h1, h2⟩ := opt_map_some h
        cases h2
        have := ih (b :: r) (by simp at hl ⊢; omega) t' x' h1
        simp at this ⊢; omega
theorem quoted_len {l t x : List UInt8} (h : quoted l = some (t, x)) : t.length + x.length ≤ l.length := by
  by_cases h1 : ∃ r, l = 39 :: r
  · obtain ⟨r, rfl⟩ := h1
    rw [quoted_twice] at h; cases h; simp; omega
  · rw [quoted_qin (fun r hr => h1 ⟨r, hr⟩)] at h
    have := qin_len _ l (Nat.le_refl _) t x h
    omega

/-- how long the run of one byte is -/
def run (c : UInt8) : List UInt8 → Nat
  | [] => 0
  | b :: r => if b = c then run c r + 1 else 0
theorem run_le (c : UInt8) : ∀ l, run c l ≤ l.length
  | [] => Nat.le_refl _
  | b :: r => by
    unfold run; split
    · have := run_le c r; simp; omega
    · simp
theorem run_pos (c : UInt8) (r : List UInt8) : 1 ≤ run c (c :: r) := by
  unfold run; rw [if_pos rfl]; omega

/-- one piece, and what is behind it -/
def step : List UInt8 → Option (Piece × List UInt8)
  | [] => none
  | c :: r => if c = 39 then (quoted r).map fun p => (.txt p.1, p.2)
    else if letter c = true then (rowOf ((c :: r).take (run c (c :: r)))).map fun k => (.fld k, (c :: r).drop (run c (c :: r)))
    else some (.txt [c], r)

theorem step_cons (c : UInt8) (r : List UInt8) : step (c :: r) = if c = 39 then (quoted r).map fun p => (.txt p.1, p.2)
    else if letter c = true then (rowOf ((c :: r).take (run c (c :: r)))).map fun k => (.fld k, (c :: r).drop (run c (c :: r)))
    else some (.txt [c], r) := rfl

def weight : Piece → Nat
  | .fld _ => 10
  | .txt t => t.length
theorem step_len {l x : List UInt8} {p : Piece} (h : step l = some (p, x)) : x.length < l.length ∧ weight p + 10 * x.length ≤ 10 * l.length := by
  match l with
  | [] => cases h
  | c :: r =>
    rw [step_cons] at h
    split at h
    · obtain ⟨⟨t', x'⟩, h1, h2⟩ := opt_map_some h
      cases h2
      have := quoted_len h1
      simp [weight]; omega
    · split at h
      · obtain ⟨k, h1, h2⟩ := opt_map_some h
        cases h2
        have := run_pos c r
        have := run_le c (c :: r)
        simp [weight] at this ⊢; omega
      · cases h
        simp [weight]; omega

/-- all pieces; did it come to the end? -/
def ppN : Nat → List UInt8 → List Piece × Bool
  | _, [] => ([], true)
  | 0, _ => ([], false)
  | n + 1, l => match step l with
    | none => ([], false)
    | some (p, x) => (p :: (ppN n x).1, (ppN n x).2)
def pp (l : List UInt8) : List Piece × Bool := ppN l.length l
def add (ts : List Piece) (r : List Piece × Bool) : List Piece × Bool := (ts ++ r.1, r.2)
theorem add_nil (r : List Piece × Bool) : add [] r = r := rfl
theorem add_add (a b : List Piece) (r : List Piece × Bool) : add a (add b r) = add (a ++ b) r := by simp [add]
theorem ppN_enough : ∀ (n m : Nat) (l : List UInt8), l.length ≤ n → l.length ≤ m → ppN n l = ppN m l
  | n, m, [], _, _ => by cases n <;> cases m <;> rfl
  | 0, _, c :: r, h, _ => by simp at h
  | _ + 1, 0, c :: r, _, h => by simp at h
  | n + 1, m + 1, c :: r, h1, h2 => by
    unfold ppN
    cases hs : step (c :: r) with
    | none => rfl
    | some q =>
      obtain ⟨p, x⟩ := q
      have hl := (step_len hs).1
      simp only [List.length_cons] at hl h1 h2
      show (p :: (ppN n x).1, (ppN n x).2) = (p :: (ppN m x).1, (ppN m x).2)
      rw [ppN_enough n m x (by omega) (by omega)]
theorem pp_nil : pp [] = ([], true) := rfl
theorem pp_none {c : UInt8} {r : List UInt8} (h : step (c :: r) = none) : pp (c :: r) = ([], false) := by
  show ppN (r.length + 1) (c :: r) = _
  unfold ppN; rw [h]
theorem pp_some {l x : List UInt8} {p : Piece} (h : step l = some (p, x)) : pp l = add [p] (pp x) := by
  match l with
  | [] => cases h
  | c :: r =>
    show ppN (r.length + 1) (c :: r) = _
    have hl := (step_len h).1
    unfold ppN; rw [h]
    simp only [List.length_cons] at hl
    show (p :: (ppN r.length x).1, (ppN r.length x).2) = ([p] ++ (ppN x.length x).1, (ppN x.length x).2)
    rw [ppN_enough r.length x.length x (by omega) (by omega)]; rfl

def weights (ps : List Piece) : Nat := (ps.map weight).sum
theorem weights_append (a b : List Piece) : weights (a ++ b) = weights a + weights b := by simp [weights]
theorem pp_weight : ∀ (n : Nat) (l : List UInt8), l.length ≤ n → weights (pp l).1 ≤ 10 * l.length := by
  intro n
  induction n with
  | zero =>
    intro l hl
    have : l = [] := List.length_eq_zero_iff.1 (by omega)
    subst this; rw [pp_nil]; simp [weights]
  | succ n ih =>
    intro l hl
    match l with
    | [] => rw [pp_nil]; simp [weights]
    | c :: r =>
      cases hs : step (c :: r) with
      | none => rw [pp_none hs]; simp [weights]
      | some q =>
        obtain ⟨p, x⟩ := q
        rw [pp_some hs]
        have hl' := step_len hs
        have := ih x (by simp at hl hl'; omega)
        show weights ([p] ++ (pp x).1) ≤ _
        rw [weights_append]
        have e : weights [p] = weight p := by simp [weights]
        omega

/-- a pattern that ends in a blank goes on piece by piece -/
theorem qin_app (t : List UInt8) : ∀ (n : Nat) (u : List UInt8), u.length ≤ n → ∀ a x, qin (u ++ [32]) = some (a, x) → ∃ v, x = v ++ [32] ∧ v.length < u.length ∧ qin (u ++ 32 :: t) = some (a, v ++ 32 :: t) := by
  intro n
  induction n with
  | zero =>
    intro u hu a x h
    have : u = [] := List.length_eq_zero_iff.1 (by omega)
    subst this
    rw [List.nil_append, qin_cons _ (by decide), qin_nil] at h; cases h
  | succ n ih =>
    intro u hu a x h
    match u with
    | [] => rw [List.nil_append, qin_cons _ (by decide), qin_nil] at h; cases h
    | [c] =>
      by_cases hc : c = 39
      · subst hc
        rw [List.singleton_append, qin_end _ (by decide)] at h
        cases h
        refine ⟨[], rfl, by simp, ?_⟩
        rw [List.singleton_append, qin_end _ (by decide)]; rfl
      · rw [List.singleton_append, qin_cons _ hc, qin_cons _ (by decide), qin_nil] at h; cases h
    | c :: b :: r =>
      by_cases hc : c = 39
      · subst hc
        by_cases hb : b = 39
        · subst hb
          simp only [List.cons_append] at h ⊢
          rw [qin_pair] at h ⊢
          obtain ⟨⟨t', x'⟩, h1, h2⟩ := opt_map_some h
          cases h2
          obtain ⟨v, hv, hl, hq⟩ := ih r (by simp at hu; omega) t' x' h1
          exact ⟨v, hv, by simp; omega, by rw [hq]; rfl⟩
        · simp only [List.cons_append] at h ⊢
          rw [qin_end _ hb] at h ⊢
          cases h
          exact ⟨b :: r, rfl, by simp, rfl⟩
      · rw [List.cons_append, qin_cons _ hc] at h
        obtain ⟨⟨t', x'⟩, h1, h2⟩ := opt_map_some h
        cases h2
        obtain ⟨v, hv, hl, hq⟩ := ih (b :: r) (by simp at hu ⊢; omega) t' x' h1
        refine ⟨v, hv, by simp at hl ⊢; omega, ?_⟩
        rw [List.cons_append, qin_cons _ hc, hq]; rfl
theorem quoted_app (t : List UInt8) (u a x : List UInt8) (h : quoted (u ++ [32]) = some (a, x)) : ∃ v, x = v ++ [32] ∧ v.length ≤ u.length ∧ quoted (u ++ 32 :: t) = some (a, v ++ 32 :: t) := by
  match u with
  | [] =>
    rw [List.nil_append, quoted_qin (fun r hr => by cases hr), qin_cons _ (by decide), qin_nil] at h; cases h
  | c :: r =>
    by_cases hc : c = 39
    · subst hc
      rw [List.cons_append, quoted_twice] at h
      cases h
      exact ⟨r, rfl, by simp, by rw [List.cons_append, quoted_twice]⟩
    · rw [quoted_qin (fun r hr => by cases hr; exact hc rfl)] at h ⊢
      · obtain ⟨v, hv, hl, hq⟩ := qin_app t _ _ (Nat.le_refl _) _ _ h
        exact ⟨v, hv, by omega, hq⟩
theorem run_app {c : UInt8} (hc : c ≠ 32) (t : List UInt8) : ∀ u, run c (u ++ 32 :: t) = run c u
  | [] => by show (if (32 : UInt8) = c then _ else _) = _; rw [if_neg (fun h => hc h.symm)]; rfl
  | b :: r => by
    show (if b = c then run c (r ++ 32 :: t) + 1 else 0) = (if b = c then run c r + 1 else 0)
    rw [run_app hc t r]
theorem step_app (t : List UInt8) {u x : List UInt8} {p : Piece} (hu : u ≠ []) (h : step (u ++ [32]) = some (p, x)) : ∃ v, x = v ++ [32] ∧ v.length < u.length ∧ step (u ++ 32 :: t) = some (p, v ++ 32 :: t) := by
  match u with
  | [] => exact absurd rfl hu
  | c :: r =>
    simp only [List.cons_append] at h ⊢
    rw [step_cons] at h ⊢
    by_cases hc : c = 39
    · rw [if_pos hc] at h ⊢
      obtain ⟨⟨t', x'⟩, h1, h2⟩ := opt_map_some h
      cases h2
      obtain ⟨v, hv, hl, hq⟩ := quoted_app t _ _ _ h1
      exact ⟨v, hv, by simp; omega, by rw [hq]; rfl⟩
    · rw [if_neg hc] at h ⊢
      by_cases hl : letter c = true
      · rw [if_pos hl] at h ⊢
        obtain ⟨k, h1, h2⟩ := opt_map_some h
        cases h2
        have hne : c ≠ 32 := by rintro rfl; revert hl; decide
        have e1 : run c (c :: (r ++ [32])) = run c (c :: r) := run_app hne [] (c :: r)
        have e2 : run c (c :: (r ++ 32 :: t)) = run c (c :: r) := run_app hne t (c :: r)
        have hle := run_le c (c :: r)
        have hpos := run_pos c r
        rw [e1] at h1
        refine ⟨(c :: r).drop (run c (c :: r)), ?_, ?_, ?_⟩
        · rw [e1]; show ((c :: r) ++ [32]).drop _ = _
          rw [List.drop_append_of_le_length hle]
        · rw [List.length_drop]; simp at hle ⊢; omega
        · rw [e2]
          have e3 : List.take (run c (c :: r)) (c :: (r ++ 32 :: t)) = List.take (run c (c :: r)) (c :: (r ++ [32])) := by
            show ((c :: r) ++ 32 :: t).take _ = ((c :: r) ++ [32]).take _
            rw [List.take_append_of_le_length hle, List.take_append_of_le_length hle]
          rw [e3, h1]
          show some (Piece.fld k, ((c :: r) ++ 32 :: t).drop _) = _
          rw [List.drop_append_of_le_length hle]
      · rw [if_neg hl] at h ⊢
        cases h
        exact ⟨r, rfl, by simp, rfl⟩
theorem pp_blank (t : List UInt8) : pp (32 :: t) = add [.txt [32]] (pp t) := pp_some (by rw [step_cons, if_neg (by decide), if_neg (by decide)])
theorem pp_app (t : List UInt8) : ∀ (n : Nat) (u : List UInt8), u.length ≤ n → (pp (u ++ [32])).2 = true → pp (u ++ 32 :: t) = add (pp (u ++ [32])).1 (pp t) := by
  intro n
  induction n with
  | zero =>
    intro u hu _
    have : u = [] := List.length_eq_zero_iff.1 (by omega)
    subst this
    rw [List.nil_append, List.nil_append, pp_blank, pp_blank]; rfl
  | succ n ih =>
    intro u hu h
    match u with
    | [] => rw [List.nil_append, List.nil_append, pp_blank, pp_blank]; rfl
    | c :: r =>
      cases hs : step ((c :: r) ++ [32]) with
      | none =>
        rw [List.cons_append] at hs h
        rw [pp_none hs] at h; cases h
      | some q =>
        obtain ⟨p, x⟩ := q
        obtain ⟨v, hv, hl, hq⟩ := step_app t (by simp) hs
        subst hv
        rw [pp_some hs] at h
        rw [pp_some hs, pp_some hq]
        have := ih v (by simp at hl hu; omega) h
        rw [this, add_add]; rfl

/-- each ' of it twice -/
def twice : List UInt8 → List UInt8
  | [] => []
  | c :: r => if c = 39 then c :: 39 :: twice r else c :: twice r
theorem twice_append (a b : List UInt8) : twice (a ++ b) = twice a ++ twice b := by
  induction a with
  | nil => rfl
  | cons c r ih =>
    show (if c = 39 then c :: 39 :: twice (r ++ b) else c :: twice (r ++ b)) = (if c = 39 then c :: 39 :: twice r else c :: twice r) ++ twice b
    rw [ih]; split <;> rfl
theorem twice_len : ∀ a : List UInt8, a.length ≤ (twice a).length ∧ (twice a).length ≤ 2 * a.length
  | [] => by simp [twice]
  | c :: r => by
    have := twice_len r
    unfold twice; split <;> simp <;> omega
theorem qin_twice : ∀ t : List UInt8, qin (twice t ++ [39]) = some (t, [])
  | [] => qin_end1
  | c :: r => by
    unfold twice
    by_cases hc : c = 39
    · subst hc
      rw [if_pos rfl, List.cons_append, List.cons_append, qin_pair, qin_twice r]; rfl
    · rw [if_neg hc, List.cons_append, qin_cons _ hc, qin_twice r]; rfl
theorem pp_quoted {c : UInt8} (r : List UInt8) (hc : c ≠ 39) : pp (39 :: (twice (c :: r) ++ [39])) = ([.txt (c :: r)], true) := by
  have h : step (39 :: (twice (c :: r) ++ [39])) = some (.txt (c :: r), []) := by
    rw [step_cons, if_pos rfl, quoted_qin, qin_twice]
    · rfl
    · intro x hx
      unfold twice at hx
      rw [if_neg hc] at hx
      cases hx; exact hc rfl
  rw [pp_some h]; rfl

/-- what is told, each field's text by its row -/
def showP (f : Nat → List UInt8) : Piece → List UInt8
  | .fld k => f k
  | .txt t => t
def out (f : Nat → List UInt8) (ps : List Piece) : List UInt8 := ps.flatMap (showP f)
theorem out_append (f : Nat → List UInt8) (a b : List Piece) : out f (a ++ b) = out f a ++ out f b := by simp [out]
theorem out_len (f : Nat → List UInt8) (hf : ∀ k, (f k).length ≤ 10) : ∀ ps, (out f ps).length ≤ weights ps
  | [] => by simp [out, weights]
  | p :: r => by
    have := out_len f hf r
    show (showP f p ++ out f r).length ≤ weight p + weights r
    rw [List.length_append]
    have : (showP f p).length ≤ weight p := by
      cases p with
      | fld k => exact hf k
      | txt t => exact Nat.le_refl _
    omega
end Dp
