/- Plain laws of messages: fuel is no matter; a message is that of its text. -/
import Derived.Test.YtgkphpjnfigjiaaGreatDoorPmsg
namespace Ms
open Go.Lib (decDigits)

theorem enough : ∀ (n : Nat), (∀ m deep mark l, 2 * l.length + 2 ≤ n → 2 * l.length + 2 ≤ m → N n deep mark l = N m deep mark l) ∧ (∀ m deep mark l, 2 * l.length + 1 ≤ n → 2 * l.length + 1 ≤ m → B n deep mark l = B m deep mark l) ∧ (∀ m deep mark l, 2 * l.length + 1 ≤ n → 2 * l.length + 1 ≤ m → C n deep mark l = C m deep mark l) := by
  intro n
  induction n with
  | zero => exact ⟨(fun _ _ _ _ h => by omega), (fun _ _ _ _ h => by omega), (fun _ _ _ _ h => by omega)⟩
  | succ n ih =>
    obtain ⟨iN, iB, iC⟩ := ih
    refine ⟨?_, ?_, ?_⟩
    · intro m deep mark l hn hm
      obtain ⟨m, rfl⟩ : ∃ k, m = k + 1 := ⟨m - 1, by omega⟩
      rw [N_succ, N_succ]
      cases hb : Lx.bare mark l with
      | none => rfl
      | some p =>
        obtain ⟨x, e⟩ := p
        show wordsO x (B n deep mark (l.drop e)) = wordsO x (B m deep mark (l.drop e))
        have hl : (l.drop e).length ≤ l.length := by rw [List.length_drop]; omega
        rw [iB m deep mark (l.drop e) (by omega) (by omega)]
    · intro m deep mark l hn hm
      obtain ⟨m, rfl⟩ : ∃ k, m = k + 1 := ⟨m - 1, by omega⟩
      rw [B_succ, B_succ]
      cases h1 : pre [123] l with
      | none =>
        simp only []
        cases h2 : (if mark = true then pre [35] l else none) with
        | none => rfl
        | some r1 =>
          simp only []
          have h3 : pre [35] l = some r1 := by
            cases mark with
            | true => exact h2
            | false => cases h2
          have := pre_len h3
          simp at this
          rw [iN m deep mark r1 (by omega) (by omega)]
      | some r1 =>
        simp only []
        have l1 := pre_len h1
        simp at l1
        cases h2 : upto (fun c => c == 44 || c == 125) r1 with
        | none => rfl
        | some p2 =>
          obtain ⟨x, r2⟩ := p2
          simp only []
          have l2 := (upto_len h2).1
          cases h3 : pre [125] r2 with
          | some r3 =>
            simp only []
            have := pre_len h3
            rw [iN m deep mark r3 (by omega) (by omega)]
          | none =>
            simp only []
            cases h4 : pre number r2 with
            | some r3 =>
              simp only []
              have := pre_len h4
              rw [iN m deep mark r3 (by omega) (by omega)]
            | none =>
              simp only []
              cases h5 : pre select r2 with
              | some r3 =>
                simp only []
                have := pre_len h5
                rw [iC m deep mark r3 (by omega) (by omega)]
                cases h6 : C m deep mark r3 with
                | none => rfl
                | some p6 =>
                  obtain ⟨cs, r4⟩ := p6
                  simp only []
                  have := (rest_len m).2.2 deep mark r3 cs r4 h6
                  rw [iN m deep mark r4 (by omega) (by omega)]
              | none =>
                simp only []
                cases h6 : pre plural r2 with
                | none => rfl
                | some r3 =>
                  simp only []
                  have := pre_len h6
                  cases h7 : offs r3 with
                  | none => rfl
                  | some p7 =>
                    obtain ⟨f, r4⟩ := p7
                    simp only []
                    have := offs_len h7
                    rw [iC m deep true r4 (by omega) (by omega)]
                    cases h8 : C m deep true r4 with
                    | none => rfl
                    | some p8 =>
                      obtain ⟨cs, r5⟩ := p8
                      simp only []
                      have := (rest_len m).2.2 deep true r4 cs r5 h8
                      rw [iN m deep mark r5 (by omega) (by omega)]
    · intro m deep mark l hn hm
      obtain ⟨m, rfl⟩ : ∃ k, m = k + 1 := ⟨m - 1, by omega⟩
      rw [C_succ, C_succ]
      cases h1 : pre [125] l with
      | some r1 => rfl
      | none =>
        simp only []
        cases h2 : pre [32] l with
        | none => rfl
        | some r1 =>
          simp only []
          have := pre_len h2
          simp at this
          cases h3 : upto (fun c => c == 32) r1 with
          | none => rfl
          | some p3 =>
            obtain ⟨key, r2⟩ := p3
            simp only []
            have := (upto_len h3).1
            cases h4 : pre [32, 123] r2 with
            | none => rfl
            | some r3 =>
              simp only []
              have := pre_len h4
              simp at this
              by_cases hd : 6 ≤ deep
              · rw [if_pos hd, if_pos hd]
              · rw [if_neg hd, if_neg hd, iN m (deep + 1) mark r3 (by omega) (by omega)]
                cases h5 : N m (deep + 1) mark r3 with
                | none => rfl
                | some p5 =>
                  obtain ⟨b, r4⟩ := p5
                  simp only []
                  have := (rest_len m).1 (deep + 1) mark r3 b r4 h5
                  cases h6 : pre [125] r4 with
                  | none => rfl
                  | some r5 =>
                    simp only []
                    have := pre_len h6
                    simp at this
                    rw [iC m deep mark r5 (by omega) (by omega)]

/-- the message at a place, the nodes behind words, the cases: fuel enough -/
def NN (deep : Nat) (mark : Bool) (l : List UInt8) : Option (T × List UInt8) := N (2 * l.length + 2) deep mark l
def BB (deep : Nat) (mark : Bool) (l : List UInt8) : Option (T × List UInt8) := B (2 * l.length + 1) deep mark l
def CC (deep : Nat) (mark : Bool) (l : List UInt8) : Option (T × List UInt8) := C (2 * l.length + 1) deep mark l
theorem NN_of {n deep : Nat} {mark : Bool} {l : List UInt8} (h : 2 * l.length + 2 ≤ n) : N n deep mark l = NN deep mark l := (enough n).1 _ deep mark l h (Nat.le_refl _)
theorem BB_of {n deep : Nat} {mark : Bool} {l : List UInt8} (h : 2 * l.length + 1 ≤ n) : B n deep mark l = BB deep mark l := (enough n).2.1 _ deep mark l h (Nat.le_refl _)
theorem CC_of {n deep : Nat} {mark : Bool} {l : List UInt8} (h : 2 * l.length + 1 ≤ n) : C n deep mark l = CC deep mark l := (enough n).2.2 _ deep mark l h (Nat.le_refl _)
theorem NN_none {deep : Nat} {mark : Bool} {l : List UInt8} (h : Lx.bare mark l = none) : NN deep mark l = none := by
  show N (2 * l.length + 1 + 1) deep mark l = _
  rw [N_succ, h]
theorem NN_some {deep : Nat} {mark : Bool} {l t : List UInt8} {e : Nat} (h : Lx.bare mark l = some (t, e)) : NN deep mark l = wordsO t (BB deep mark (l.drop e)) := by
  show N (2 * l.length + 1 + 1) deep mark l = _
  rw [N_succ, h]
  show wordsO t _ = _
  rw [BB_of (by rw [List.length_drop]; omega)]
/-- nodes behind a { -/
def argB (deep : Nat) (mark : Bool) (r1 : List UInt8) : Option (T × List UInt8) := match upto (fun c => c == 44 || c == 125) r1 with
      | none => none
      | some (x, r2) => match pre [125] r2 with
        | some r3 => consO 2 x 0 .nil (NN deep mark r3)
        | none => match pre number r2 with
          | some r3 => consO 3 x 0 .nil (NN deep mark r3)
          | none => match pre select r2 with
            | some r3 => match CC deep mark r3 with
              | none => none
              | some (cs, r4) => consO 5 x 0 cs (NN deep mark r4)
            | none => match pre plural r2 with
              | none => none
              | some r3 => match offs r3 with
                | none => none
                | some (f, r4) => match CC deep true r4 with
                  | none => none
                  | some (cs, r5) => consO 4 x f cs (NN deep mark r5)
theorem BB_open {deep : Nat} {mark : Bool} {r r1 : List UInt8} (h : pre [123] r = some r1) : BB deep mark r = argB deep mark r1 := by
  show B (2 * r.length + 1) deep mark r = _
  rw [B_succ, h]
  simp only []
  unfold argB
  have l1 := pre_len h
  simp at l1
  cases h2 : upto (fun c => c == 44 || c == 125) r1 with
  | none => rfl
  | some p2 =>
    obtain ⟨x, r2⟩ := p2
    simp only []
    have l2 := (upto_len h2).1
    cases h3 : pre [125] r2 with
    | some r3 =>
      simp only []
      have := pre_len h3
      rw [NN_of (by omega)]
    | none =>
      simp only []
      cases h4 : pre number r2 with
      | some r3 =>
        simp only []
        have := pre_len h4
        rw [NN_of (by omega)]
      | none =>
        simp only []
        cases h5 : pre select r2 with
        | some r3 =>
          simp only []
          have := pre_len h5
          rw [CC_of (by omega)]
          cases h6 : CC deep mark r3 with
          | none => rfl
          | some p6 =>
            obtain ⟨cs, r4⟩ := p6
            simp only []
            have := (rest_len _).2.2 deep mark r3 cs r4 h6
            rw [NN_of (by omega)]
        | none =>
          simp only []
          cases h6 : pre plural r2 with
          | none => rfl
          | some r3 =>
            simp only []
            have := pre_len h6
            cases h7 : offs r3 with
            | none => rfl
            | some p7 =>
              obtain ⟨f, r4⟩ := p7
              simp only []
              have := offs_len h7
              rw [CC_of (by omega)]
              cases h8 : CC deep true r4 with
              | none => rfl
              | some p8 =>
                obtain ⟨cs, r5⟩ := p8
                simp only []
                have := (rest_len _).2.2 deep true r4 cs r5 h8
                rw [NN_of (by omega)]
theorem BB_mark {deep : Nat} {r r1 : List UInt8} (h0 : pre [123] r = none) (h : pre [35] r = some r1) : BB deep true r = consO 6 [] 0 .nil (NN deep true r1) := by
  show B (2 * r.length + 1) deep true r = _
  rw [B_succ, h0]
  simp only [h, if_true]
  have := pre_len h
  simp at this
  rw [NN_of (by omega)]
theorem BB_end {deep : Nat} {mark : Bool} {r : List UInt8} (h0 : pre [123] r = none) (h : mark = true → pre [35] r = none) : BB deep mark r = some (.nil, r) := by
  show B (2 * r.length + 1) deep mark r = _
  rw [B_succ, h0]
  have : (if mark = true then pre [35] r else none) = none := by
    cases mark with
    | true => exact h rfl
    | false => rfl
  simp only [this]
theorem CC_end {deep : Nat} {mark : Bool} {l r : List UInt8} (h : pre [125] l = some r) : CC deep mark l = some (.nil, r) := by
  show C (2 * l.length + 1) deep mark l = _
  rw [C_succ, h]
/-- a case, and those behind it -/
def caseC (deep : Nat) (mark : Bool) (r1 : List UInt8) : Option (T × List UInt8) := match upto (fun c => c == 32) r1 with
        | none => none
        | some (key, r2) => match pre [32, 123] r2 with
          | none => none
          | some r3 => if 6 ≤ deep then none else match NN (deep + 1) mark r3 with
            | none => none
            | some (b, r4) => match pre [125] r4 with
              | none => none
              | some r5 => (CC deep mark r5).map fun p => (.case key b p.1, p.2)
theorem CC_none {deep : Nat} {mark : Bool} {l : List UInt8} (h0 : pre [125] l = none) (h : pre [32] l = none) : CC deep mark l = none := by
  show C (2 * l.length + 1) deep mark l = _
  rw [C_succ, h0]
  simp only [h]
theorem CC_case {deep : Nat} {mark : Bool} {l r1 : List UInt8} (h0 : pre [125] l = none) (h : pre [32] l = some r1) : CC deep mark l = caseC deep mark r1 := by
  show C (2 * l.length + 1) deep mark l = _
  rw [C_succ, h0]
  simp only [h]
  unfold caseC
  have := pre_len h
  simp at this
  cases h3 : upto (fun c => c == 32) r1 with
  | none => rfl
  | some p3 =>
    obtain ⟨key, r2⟩ := p3
    simp only []
    have := (upto_len h3).1
    cases h4 : pre [32, 123] r2 with
    | none => rfl
    | some r3 =>
      simp only []
      have := pre_len h4
      simp at this
      by_cases hd : 6 ≤ deep
      · rw [if_pos hd, if_pos hd]
      · rw [if_neg hd, if_neg hd, NN_of (by omega)]
        cases h5 : NN (deep + 1) mark r3 with
        | none => rfl
        | some p5 =>
          obtain ⟨b, r4⟩ := p5
          simp only []
          have := (rest_len _).1 (deep + 1) mark r3 b r4 h5
          cases h6 : pre [125] r4 with
          | none => rfl
          | some r5 =>
            simp only []
            have := pre_len h6
            simp at this
            rw [CC_of (by omega)]

/-! ### there and back -/
def Tail (t : List UInt8) : Prop := t = [] ∨ ∃ r, t = 125 :: r
/-- words do not come first -/
def noWords : T → Prop
  | .node k _ _ _ _ => k ≠ 1
  | _ => True
theorem words_nil (r : T) : words [] r = r := rfl
theorem wordsO_nil (o : Option (T × List UInt8)) : wordsO [] o = o := by
  cases o with
  | none => rfl
  | some p => rfl
theorem flt_node {k f : Int} {x : List UInt8} {cs nx : T} {mark pw : Bool} {kind : Int} {seen : List (List UInt8)} (h : flt (.node k x f cs nx) mark pw kind seen = 0) :
    fine k x mark pw = true ∧ ¬ (k = 4 ∧ (f < 0 ∨ f > 9)) ∧ (hasC k = true → flt cs (mark || k == 4) false k [] = 0) ∧ flt nx mark (k == 1) 0 [] = 0 := by
  unfold flt at h
  split at h
  · cases h
  · rename_i h1
    split at h
    · cases h
    · rename_i h2
      split at h
      · rename_i h3; exact absurd h h3.2
      · rename_i h3
        refine ⟨by simpa using h1, h2, fun hc => ?_, h⟩
        exact Decidable.byContradiction fun hne => h3 ⟨hc, hne⟩
theorem flt_case {key : List UInt8} {body nx : T} {mark pw : Bool} {kind : Int} {seen : List (List UInt8)} (h : flt (.case key body nx) mark pw kind seen = 0) :
    keyB kind key = true ∧ seen.contains key = false ∧ flt body mark false 0 [] = 0 ∧ flt nx mark false kind (seen ++ [key]) = 0 := by
  unfold flt at h
  split at h
  · cases h
  · rename_i h1
    split at h
    · cases h
    · rename_i h2
      split at h
      · rename_i h3; exact absurd h h3
      · rename_i h3
        exact ⟨by simpa using h1, by simpa using h2, Decidable.byContradiction h3, h⟩
theorem fine_words {x : List UInt8} {mark pw : Bool} (h : fine 1 x mark pw = true) : x ≠ [] ∧ pw = false := by
  unfold fine at h
  rw [if_pos rfl] at h
  simp at h
  exact ⟨by intro e; subst e; simp at h, h.2⟩
theorem fine_name {k : Int} {x : List UInt8} {mark pw : Bool} (h : fine k x mark pw = true) (hk : k = 2 ∨ k = 3 ∨ k = 4 ∨ k = 5) : nameB x = true := by
  unfold fine at h
  rw [if_neg (by omega), if_pos hk] at h; exact h
theorem fine_kind {k : Int} {x : List UInt8} {mark pw : Bool} (h : fine k x mark pw = true) : k = 1 ∨ k = 2 ∨ k = 3 ∨ k = 4 ∨ k = 5 ∨ (k = 6 ∧ mark = true) := by
  unfold fine at h
  split at h
  · exact .inl (by assumption)
  · split at h
    · omega
    · simp at h; exact .inr (.inr (.inr (.inr (.inr h))))
theorem deep_node {k f : Int} {x : List UInt8} {cs nx : T} {d : Nat} (h : deepB (.node k x f cs nx) d = false) : d < 6 ∧ (hasC k = true → deepB cs d = false) ∧ deepB nx d = false := by
  unfold deepB at h
  simp only [Bool.or_eq_false_iff, Bool.and_eq_false_iff, decide_eq_false_iff_not] at h
  refine ⟨by omega, fun hc => ?_, h.2⟩
  rcases h.1.2 with h1 | h1
  · rw [hc] at h1; cases h1
  · exact h1
theorem deep_case {key : List UInt8} {body nx : T} {d : Nat} (h : deepB (.case key body nx) d = false) : deepB body (d + 1) = false ∧ deepB nx d = false := by
  unfold deepB at h
  simpa only [Bool.or_eq_false_iff] using h

theorem ends_txt {t : T} {mark pw : Bool} {tail : List UInt8} (hn : isN t = true) (hf : flt t mark pw 0 [] = 0) (hw : noWords t) (ht : Tail tail) : Lx.Ends mark (txt t mark ++ tail) := by
  cases t with
  | nil =>
    rcases ht with rfl | ⟨r, rfl⟩
    · exact .inl rfl
    · exact .inr ⟨125, r, rfl, by cases mark <;> rfl⟩
  | node k x f cs nx =>
    have hk := fine_kind (flt_node hf).1
    have hw' : k ≠ 1 := hw
    right
    rcases hk with rfl | rfl | rfl | rfl | rfl | ⟨rfl, rfl⟩
    · exact absurd rfl hw'
    · exact ⟨123, _, rfl, by cases mark <;> rfl⟩
    · exact ⟨123, _, rfl, by cases mark <;> rfl⟩
    · exact ⟨123, _, rfl, by cases mark <;> rfl⟩
    · exact ⟨123, _, rfl, by cases mark <;> rfl⟩
    · exact ⟨35, _, rfl, rfl⟩
  | case key body nx => cases hn
theorem bare_ends {m : Bool} {t : List UInt8} (h : Lx.Ends m t) : Lx.bare m t = some ([], 0) := Lx.az_end m t h

theorem name_upto {x : List UInt8} (h : nameB x = true) {c : UInt8} {t : List UInt8} (hc : (c == 44 || c == 125) = true) : upto (fun c => c == 44 || c == 125) (x ++ c :: t) = some (x, c :: t) := by
  refine upto_at (fun d hd => ?_) hc
  have := nameB_chars h d hd
  have h1 : d ≠ 44 := namec_ne this (by decide)
  have h2 : d ≠ 125 := namec_ne this (by decide)
  simp [h1, h2]
theorem pre_number_select (t : List UInt8) : pre number (select ++ t) = none := by
  unfold pre; rw [if_neg]; simp [number, select, List.isPrefixOf]
theorem pre_number_plural (t : List UInt8) : pre number (plural ++ t) = none := by
  unfold pre; rw [if_neg]; simp [number, plural, List.isPrefixOf]
theorem pre_select_plural (t : List UInt8) : pre select (plural ++ t) = none := by
  unfold pre; rw [if_neg]; simp [select, plural, List.isPrefixOf]

/-- what stands behind the head of a Plural -/
theorem cases_head {cs : T} {mark : Bool} {tail : List UInt8} (hc : isN.isC cs = true) : ∃ c r, txt cs mark ++ 125 :: tail = c :: r ∧ (c = 32 ∨ c = 125) := by
  cases cs with
  | nil => exact ⟨125, tail, rfl, .inr rfl⟩
  | node k x f cs nx => cases hc
  | case key body nx => exact ⟨32, _, rfl, .inl rfl⟩
theorem key_no_offset {key t : List UInt8} (hk : keyB 4 key = true) : pre offset (32 :: (key ++ 32 :: t)) = none := by
  unfold keyB at hk
  rw [if_neg (by decide), Bool.or_eq_true] at hk
  unfold pre
  rw [if_neg]
  rcases hk with h | h
  · have hm : key ∈ kindsL := by simpa using h
    simp only [kindsL, List.mem_cons, List.mem_nil_iff, or_false] at hm
    rcases hm with rfl | rfl | rfl | rfl | rfl | rfl <;> simp [offset, List.isPrefixOf]
  · obtain ⟨r, n, rfl, _, _, _⟩ := exact_cons (of_decide_eq_true h)
    simp [offset, List.isPrefixOf]
theorem offs_none {cs : T} {mark : Bool} {seen : List (List UInt8)} {tail : List UInt8} (hc : isN.isC cs = true) (hf : flt cs mark false 4 seen = 0) : offs (txt cs true ++ 125 :: tail) = some (0, txt cs true ++ 125 :: tail) := by
  unfold offs
  have : pre offset (txt cs true ++ 125 :: tail) = none := by
    cases cs with
    | nil => show pre offset (125 :: tail) = none; unfold pre; rw [if_neg]; simp [offset, List.isPrefixOf]
    | node k x f cs nx => cases hc
    | case key body nx =>
      have hk := (flt_case hf).1
      show pre offset (32 :: (key ++ [32, 123] ++ txt body true ++ [125]) ++ txt nx true ++ 125 :: tail) = none
      have e : 32 :: (key ++ [32, 123] ++ txt body true ++ [125]) ++ txt nx true ++ 125 :: tail = 32 :: (key ++ 32 :: (123 :: (txt body true ++ [125] ++ txt nx true ++ 125 :: tail))) := by simp
      rw [e]; exact key_no_offset hk
  rw [this]
theorem offs_some {cs : T} {f : Int} {tail : List UInt8} (hc : isN.isC cs = true) (h0 : f ≠ 0) (h1 : 0 ≤ f) (h2 : f ≤ 9) : offs (offset ++ (Go.Lib.itoa f ++ (txt cs true ++ 125 :: tail))) = some (f, txt cs true ++ 125 :: tail) := by
  obtain ⟨n, rfl⟩ : ∃ n : Nat, f = n := ⟨f.toNat, by omega⟩
  have hn : n < 10 := by omega
  have hi : Go.Lib.itoa (n : Int) = [UInt8.ofNat (48 + n)] := by
    unfold Go.Lib.itoa
    rw [if_neg (by omega)]
    show decDigits n = _
    rw [decDigits, dif_pos hn]
  obtain ⟨c, r, hcr, hc2⟩ := cases_head (mark := true) (tail := tail) hc
  have hd : ∀ k : Fin 10, ((fun c : UInt8 => c == 32 || c == 125) (UInt8.ofNat (48 + k.1)) = false) ∧ (49 ≤ UInt8.ofNat (48 + k.1) ∧ UInt8.ofNat (48 + k.1) ≤ 57 ∨ k.1 = 0) ∧ ((UInt8.ofNat (48 + k.1)).toNat : Int) - 48 = k.1 := by decide
  obtain ⟨d1, d2, d3⟩ := hd ⟨n, hn⟩
  unfold offs
  rw [pre_self, hi, hcr]
  have hu : upto (fun c => c == 32 || c == 125) ([UInt8.ofNat (48 + n)] ++ c :: r) = some ([UInt8.ofNat (48 + n)], c :: r) := by
    refine upto_at (fun d hd => ?_) (by rcases hc2 with rfl | rfl <;> rfl)
    rw [List.mem_singleton.1 hd]; exact d1
  simp only [hu]
  rw [if_pos (d2.resolve_right (by simp at *; omega)), d3]

theorem back : ∀ t : T,
    (∀ mark pw deep tail, isN t = true → flt t mark pw 0 [] = 0 → deepB t deep = false → Tail tail → NN deep mark (txt t mark ++ tail) = some (clean t, tail) ∧ (noWords t → BB deep mark (txt t mark ++ tail) = some (clean t, tail))) ∧
    (∀ mark kind seen deep tail, isN.isC t = true → flt t mark false kind seen = 0 → deepB t deep = false → deep < 6 → CC deep mark (txt t mark ++ 125 :: tail) = some (clean t, tail)) := by
  intro t
  induction t with
  | nil =>
    refine ⟨fun mark pw deep tail _ hf _ ht => ?_, fun mark kind seen deep tail _ _ _ _ => ?_⟩
    · have he := ends_txt (t := .nil) (mark := mark) (pw := pw) rfl hf trivial ht
      have hb : BB deep mark (txt .nil mark ++ tail) = some (clean .nil, tail) := by
        show BB deep mark tail = some (.nil, tail)
        rcases ht with rfl | ⟨r, rfl⟩
        · exact BB_end pre_nil (fun _ => pre_nil)
        · exact BB_end (pre_ne (by decide)) (fun _ => pre_ne (by decide))
      refine ⟨?_, fun _ => hb⟩
      rw [NN_some (bare_ends he), List.drop_zero, hb, wordsO_nil]
    · exact CC_end (pre_self [125] tail)
  | node k x f cs nx ics inx =>
    refine ⟨fun mark pw deep tail hn hf hd ht => ?_, (fun _ _ _ _ _ h => by cases h)⟩
    obtain ⟨h1, h2, h3, h4⟩ := flt_node hf
    obtain ⟨d1, d2, d3⟩ := deep_node hd
    have hn' : isN.isC cs = true ∧ isN nx = true := by simpa [isN] using hn
    have iN := inx.1 mark (k == 1) deep tail hn'.2 h4 d3 ht
    rcases fine_kind h1 with rfl | rfl | rfl | rfl | rfl | ⟨rfl, rfl⟩
    · -- words
      obtain ⟨hx, rfl⟩ := fine_words h1
      refine ⟨?_, fun h => absurd rfl h⟩
      have hnw : noWords nx := by
        cases nx with
        | nil => trivial
        | node k' x' f' cs' nx' =>
          intro e; subst e
          have := (fine_words (flt_node h4).1).2
          cases this
        | case => trivial
      have he := ends_txt hn'.2 h4 hnw ht
      have e : txt (.node 1 x f cs nx) mark ++ tail = Lx.quote mark x ++ (txt nx mark ++ tail) := by
        show (Lx.quote mark x ++ txt nx mark) ++ tail = _
        rw [List.append_assoc]
      rw [e, NN_some (Lx.bare_quote mark x _ he), List.drop_append_of_le_length (Nat.le_refl _), List.drop_length, List.nil_append, iN.2 hnw]
      show some (words x (clean nx), tail) = some (T.node 1 x 0 .nil (clean nx), tail)
      unfold words
      rw [if_neg (by simpa using hx)]
    · -- show
      have hx := fine_name h1 (by omega)
      have e : txt (.node 2 x f cs nx) mark ++ tail = 123 :: (x ++ 125 :: (txt nx mark ++ tail)) := by
        show (123 :: (x ++ [125]) ++ txt nx mark) ++ tail = _
        simp
      have hb : BB deep mark (txt (.node 2 x f cs nx) mark ++ tail) = some (clean (.node 2 x f cs nx), tail) := by
        rw [e, BB_open (pre_one 123 _)]
        unfold argB
        rw [name_upto hx (by rfl)]
        simp only [pre_one]
        rw [iN.1]; rfl
      refine ⟨?_, fun _ => hb⟩
      rw [NN_some (bare_ends (ends_txt hn hf (by show (2 : Int) ≠ 1; decide) ht)), List.drop_zero, hb, wordsO_nil]
    · -- number
      have hx := fine_name h1 (by omega)
      have e : txt (.node 3 x f cs nx) mark ++ tail = 123 :: (x ++ (number ++ (txt nx mark ++ tail))) := by
        show (123 :: (x ++ number) ++ txt nx mark) ++ tail = _
        simp
      have hb : BB deep mark (txt (.node 3 x f cs nx) mark ++ tail) = some (clean (.node 3 x f cs nx), tail) := by
        rw [e, BB_open (pre_one 123 _)]
        unfold argB
        have hu : upto (fun c => c == 44 || c == 125) (x ++ (number ++ (txt nx mark ++ tail))) = some (x, number ++ (txt nx mark ++ tail)) := name_upto hx (by rfl)
        rw [hu]
        simp only [show pre [125] (number ++ (txt nx mark ++ tail)) = none from pre_ne (by decide), pre_self number]
        rw [iN.1]; rfl
      refine ⟨?_, fun _ => hb⟩
      rw [NN_some (bare_ends (ends_txt hn hf (by show (3 : Int) ≠ 1; decide) ht)), List.drop_zero, hb, wordsO_nil]
    · -- plural
      have hx := fine_name h1 (by omega)
      have hcs := ics.2 true 4 [] deep (txt nx mark ++ tail) hn'.1 (by simpa using h3 rfl) (d2 rfl) d1
      have hfb : 0 ≤ f ∧ f ≤ 9 := by omega
      have hf4 : flt cs true false 4 [] = 0 := by simpa using h3 rfl
      have e : txt (.node 4 x f cs nx) mark ++ tail = 123 :: (x ++ (plural ++ ((if f ≠ 0 then offset ++ Go.Lib.itoa f else []) ++ (txt cs true ++ 125 :: (txt nx mark ++ tail))))) := by
        show (123 :: (x ++ plural ++ (if f ≠ 0 then offset ++ Go.Lib.itoa f else []) ++ txt cs true ++ [125]) ++ txt nx mark) ++ tail = _
        simp
      have ho : offs ((if f ≠ 0 then offset ++ Go.Lib.itoa f else []) ++ (txt cs true ++ 125 :: (txt nx mark ++ tail))) = some (f, txt cs true ++ 125 :: (txt nx mark ++ tail)) := by
        by_cases h0 : f = 0
        · subst h0
          rw [if_neg (by simp), List.nil_append]
          exact offs_none hn'.1 hf4
        · rw [if_pos h0, List.append_assoc]
          exact offs_some hn'.1 h0 hfb.1 hfb.2
      have hb : BB deep mark (txt (.node 4 x f cs nx) mark ++ tail) = some (clean (.node 4 x f cs nx), tail) := by
        rw [e, BB_open (pre_one 123 _)]
        unfold argB
        generalize hq : (if f ≠ 0 then offset ++ Go.Lib.itoa f else []) ++ (txt cs true ++ 125 :: (txt nx mark ++ tail)) = q at ho
        have hu : upto (fun c => c == 44 || c == 125) (x ++ (plural ++ q)) = some (x, plural ++ q) := name_upto hx (by rfl)
        rw [hu]
        simp only [show pre [125] (plural ++ q) = none from pre_ne (by decide), pre_number_plural, pre_select_plural, pre_self plural, ho, hcs]
        rw [iN.1]; rfl
      refine ⟨?_, fun _ => hb⟩
      rw [NN_some (bare_ends (ends_txt hn hf (by show (4 : Int) ≠ 1; decide) ht)), List.drop_zero, hb, wordsO_nil]
    · -- select
      have hx := fine_name h1 (by omega)
      have hcs := ics.2 mark 5 [] deep (txt nx mark ++ tail) hn'.1 (by simpa using h3 rfl) (d2 rfl) d1
      have e : txt (.node 5 x f cs nx) mark ++ tail = 123 :: (x ++ (select ++ (txt cs mark ++ 125 :: (txt nx mark ++ tail)))) := by
        show (123 :: (x ++ select ++ txt cs mark ++ [125]) ++ txt nx mark) ++ tail = _
        simp
      have hb : BB deep mark (txt (.node 5 x f cs nx) mark ++ tail) = some (clean (.node 5 x f cs nx), tail) := by
        rw [e, BB_open (pre_one 123 _)]
        unfold argB
        generalize hq : txt cs mark ++ 125 :: (txt nx mark ++ tail) = q at hcs
        have hu : upto (fun c => c == 44 || c == 125) (x ++ (select ++ q)) = some (x, select ++ q) := name_upto hx (by rfl)
        rw [hu]
        simp only [show pre [125] (select ++ q) = none from pre_ne (by decide), pre_number_select, pre_self select, hcs]
        rw [iN.1]; rfl
      refine ⟨?_, fun _ => hb⟩
      rw [NN_some (bare_ends (ends_txt hn hf (by show (5 : Int) ≠ 1; decide) ht)), List.drop_zero, hb, wordsO_nil]
    · -- mark
      have hb : BB deep true (txt (.node 6 x f cs nx) true ++ tail) = some (clean (.node 6 x f cs nx), tail) := by
        show BB deep true (35 :: (txt nx true ++ tail)) = _
        rw [BB_mark (pre_ne (by decide)) (pre_one 35 _), iN.1]; rfl
      refine ⟨?_, fun _ => hb⟩
      rw [NN_some (bare_ends (ends_txt hn hf (by show (6 : Int) ≠ 1; decide) ht)), List.drop_zero, hb, wordsO_nil]
  | case key body nx ib inx =>
    refine ⟨(fun _ _ _ _ h => by cases h), fun mark kind seen deep tail hc hf hd hdeep => ?_⟩
    obtain ⟨h1, _, h3, h4⟩ := flt_case hf
    obtain ⟨d1, d2⟩ := deep_case hd
    have hc' : isN body = true ∧ isN.isC nx = true := by simpa [isN.isC] using hc
    have e : txt (.case key body nx) mark ++ 125 :: tail = 32 :: (key ++ 32 :: (123 :: (txt body mark ++ 125 :: (txt nx mark ++ 125 :: tail)))) := by
      show (32 :: (key ++ [32, 123] ++ txt body mark ++ [125]) ++ txt nx mark) ++ 125 :: tail = _
      simp
    have hb := (ib.1 mark false (deep + 1) (125 :: (txt nx mark ++ 125 :: tail)) hc'.1 h3 d1 (.inr ⟨_, rfl⟩)).1
    have hr := inx.2 mark kind (seen ++ [key]) deep tail hc'.2 h4 d2 hdeep
    rw [e, CC_case (pre_ne (by decide)) (pre_one 32 _)]
    unfold caseC
    have hu : upto (fun c => c == 32) (key ++ 32 :: (123 :: (txt body mark ++ 125 :: (txt nx mark ++ 125 :: tail)))) = some (key, 32 :: (123 :: (txt body mark ++ 125 :: (txt nx mark ++ 125 :: tail)))) :=
      upto_at (fun d hd => by simpa using keyB_chars h1 d hd) (by rfl)
    rw [hu]
    simp only [show pre [32, 123] (32 :: (123 :: (txt body mark ++ 125 :: (txt nx mark ++ 125 :: tail)))) = some (txt body mark ++ 125 :: (txt nx mark ++ 125 :: tail)) from pre_self [32, 123] _]
    rw [if_neg (by omega), hb]
    simp only [show pre [125] (125 :: (txt nx mark ++ 125 :: tail)) = some (txt nx mark ++ 125 :: tail) from pre_self [125] _]
    rw [hr]; rfl
end Ms
