/- Plain laws of the reader of messages: what a head is; what was read so far; what is read is clean, and no greater than its text; there and back. -/
import Derived.Test.YtgkphpjnfigjiaaGreatDoorPapp
namespace Go.Proofs.YtgkphpjnfigjiaaGreatDoor
open Ms

/-- what stands behind a { : a node, and the rest -/
def argO (deep : Nat) (mark : Bool) (r1 : List UInt8) : Option ((Int × List UInt8 × Int × T) × List UInt8) :=
  match upto (fun c => c == 44 || c == 125) r1 with
  | none => none
  | some (x, r2) => match pre [125] r2 with
    | some r3 => some ((2, x, 0, .nil), r3)
    | none => match pre number r2 with
      | some r3 => some ((3, x, 0, .nil), r3)
      | none => match pre select r2 with
        | some r3 => match CC deep mark r3 with
          | none => none
          | some (cs, r4) => some ((5, x, 0, cs), r4)
        | none => match pre plural r2 with
          | none => none
          | some r3 => match offs r3 with
            | none => none
            | some (f, r4) => match CC deep true r4 with
              | none => none
              | some (cs, r5) => some ((4, x, f, cs), r5)
theorem argB_eq (deep : Nat) (mark : Bool) (r1 : List UInt8) : argB deep mark r1 = match argO deep mark r1 with
    | none => none
    | some (p, r) => consO p.1 p.2.1 p.2.2.1 p.2.2.2 (NN deep mark r) := by
  unfold argB argO
  cases h1 : upto (fun c => c == 44 || c == 125) r1 with
  | none => rfl
  | some p2 =>
    obtain ⟨x, r2⟩ := p2
    simp only []
    cases h3 : pre [125] r2 with
    | some r3 => rfl
    | none =>
      simp only []
      cases h4 : pre number r2 with
      | some r3 => rfl
      | none =>
        simp only []
        cases h5 : pre select r2 with
        | some r3 =>
          simp only []
          cases h6 : CC deep mark r3 with
          | none => rfl
          | some p6 => rfl
        | none =>
          simp only []
          cases h6 : pre plural r2 with
          | none => rfl
          | some r3 =>
            simp only []
            cases h7 : offs r3 with
            | none => rfl
            | some p7 =>
              obtain ⟨f, r4⟩ := p7
              simp only []
              cases h8 : CC deep true r4 with
              | none => rfl
              | some p8 => rfl

/-- what was read so far, ahead of what is read -/
def mapA (acc : T) (o : Option (T × List UInt8)) : Option (T × List UInt8) := o.map fun p => (app acc p.1, p.2)
theorem app_nil : ∀ t : T, app t .nil = t
  | .nil => rfl
  | .node _ _ _ _ nx => by simp only [app, app_nil nx]
  | .case _ _ nx => by simp only [app, app_nil nx]
theorem app_assoc : ∀ a b c : T, app (app a b) c = app a (app b c)
  | .nil, _, _ => rfl
  | .node _ _ _ _ nx, b, c => by simp only [app, app_assoc nx b c]
  | .case _ _ nx, b, c => by simp only [app, app_assoc nx b c]
theorem mapA_nil (o : Option (T × List UInt8)) : mapA .nil o = o := by cases o <;> rfl
theorem mapA_mapA (a b : T) (o : Option (T × List UInt8)) : mapA a (mapA b o) = mapA (app a b) o := by
  cases o with
  | none => rfl
  | some p => simp only [mapA, Option.map_some, app_assoc]
theorem mapA_none (a : T) : mapA a none = none := rfl
theorem mapA_end (a : T) (r : List UInt8) : mapA a (some (.nil, r)) = some (a, r) := by simp only [mapA, Option.map_some, app_nil]
theorem wordsO_mapA (t : List UInt8) (o : Option (T × List UInt8)) : wordsO t o = mapA (words t .nil) o := by
  cases o with
  | none => rfl
  | some p =>
    simp only [wordsO, mapA, Option.map_some, words]
    split <;> rfl
theorem consO_mapA (k : Int) (x : List UInt8) (f : Int) (cs : T) (o : Option (T × List UInt8)) : consO k x f cs o = mapA (.node k x f cs .nil) o := by
  cases o <;> rfl
theorem caseO_mapA (key : List UInt8) (b : T) (o : Option (T × List UInt8)) : (o.map fun p => (T.case key b p.1, p.2)) = mapA (.case key b .nil) o := by
  cases o <;> rfl
theorem NN_arg {deep : Nat} {mark : Bool} {l t r1 : List UInt8} {e : Nat} (h : Lx.bare mark l = some (t, e)) (h1 : pre [123] (l.drop e) = some r1) :
    NN deep mark l = mapA (words t .nil) (match argO deep mark r1 with
      | none => none
      | some (p, r) => mapA (.node p.1 p.2.1 p.2.2.1 p.2.2.2 .nil) (NN deep mark r)) := by
  rw [NN_some h, wordsO_mapA, BB_open h1, argB_eq]
  cases argO deep mark r1 with
  | none => rfl
  | some q => obtain ⟨p, r⟩ := q; simp only [consO_mapA]
theorem NN_mark {deep : Nat} {l t r1 : List UInt8} {e : Nat} (h : Lx.bare true l = some (t, e)) (h0 : pre [123] (l.drop e) = none) (h1 : pre [35] (l.drop e) = some r1) :
    NN deep true l = mapA (words t .nil) (mapA (.node 6 [] 0 .nil .nil) (NN deep true r1)) := by
  rw [NN_some h, wordsO_mapA, BB_mark h0 h1, consO_mapA]
theorem NN_end {deep : Nat} {mark : Bool} {l t : List UInt8} {e : Nat} (h : Lx.bare mark l = some (t, e)) (h0 : pre [123] (l.drop e) = none) (h1 : mark = true → pre [35] (l.drop e) = none) :
    NN deep mark l = some (words t .nil, l.drop e) := by
  rw [NN_some h, wordsO_mapA, BB_end h0 h1, mapA_end]
theorem argO_len {deep : Nat} {mark : Bool} {r1 r : List UInt8} {p : Int × List UInt8 × Int × T} (h : argO deep mark r1 = some (p, r)) : r.length < r1.length := by
  unfold argO at h
  cases h2 : upto (fun c => c == 44 || c == 125) r1 with
  | none => simp only [h2] at h; cases h
  | some p2 =>
    obtain ⟨x, r2⟩ := p2
    simp only [h2] at h
    have l2 := (upto_len h2).1
    cases h3 : pre [125] r2 with
    | some r3 => simp only [h3] at h; cases h; have := pre_len h3; simp at this; omega
    | none =>
      simp only [h3] at h
      cases h4 : pre number r2 with
      | some r3 => simp only [h4] at h; cases h; have := pre_len h4; simp [number] at this; omega
      | none =>
        simp only [h4] at h
        cases h5 : pre select r2 with
        | some r3 =>
          simp only [h5] at h
          have := pre_len h5; simp [select] at this
          cases h6 : CC deep mark r3 with
          | none => simp only [h6] at h; cases h
          | some p6 =>
            obtain ⟨cs, r4⟩ := p6
            simp only [h6] at h; cases h
            have := (rest_len _).2.2 deep mark r3 cs _ h6
            omega
        | none =>
          simp only [h5] at h
          cases h6 : pre plural r2 with
          | none => simp only [h6] at h; cases h
          | some r3 =>
            simp only [h6] at h
            have := pre_len h6; simp [plural] at this
            cases h7 : offs r3 with
            | none => simp only [h7] at h; cases h
            | some p7 =>
              obtain ⟨f, r4⟩ := p7
              simp only [h7] at h
              have := offs_len h7
              cases h8 : CC deep true r4 with
              | none => simp only [h8] at h; cases h
              | some p8 =>
                obtain ⟨cs, r5⟩ := p8
                simp only [h8] at h; cases h
                have := (rest_len _).2.2 deep true r4 cs _ h8
                omega

/-! ### what is read is clean, and no greater than its text -/
theorem words_wt {t : List UInt8} {r : T} {e : Nat} (h : t.length ≤ e) : wt (words t r) ≤ 6 * e + wt r := by
  unfold words
  split
  · omega
  · rename_i hne
    have : 1 ≤ t.length := by
      cases t with
      | nil => simp at hne
      | cons a b => simp
    simp only [wt]; omega
theorem words_isN {t : List UInt8} {r : T} (h : isN r = true) : isN (words t r) = true := by
  unfold words; split
  · exact h
  · simp [isN, isN.isC, h]
theorem words_clean {t : List UInt8} {r : T} (h : clean r = r) : clean (words t r) = words t r := by
  unfold words; split
  · exact h
  · simp [clean, hasC, h]
def GoodN (l : List UInt8) (t : T) (r : List UInt8) : Prop := isN t = true ∧ clean t = t ∧ wt t + 6 * r.length ≤ 6 * l.length + 1
def GoodC (l : List UInt8) (t : T) (r : List UInt8) : Prop := isN.isC t = true ∧ clean t = t ∧ wt t + 6 * r.length ≤ 6 * l.length + 1
theorem good : ∀ (n : Nat), (∀ deep mark l t r, N n deep mark l = some (t, r) → GoodN l t r) ∧ (∀ deep mark l t r, B n deep mark l = some (t, r) → GoodN l t r) ∧ (∀ deep mark l t r, C n deep mark l = some (t, r) → GoodC l t r) := by
  intro n
  induction n with
  | zero => exact ⟨(fun _ _ _ _ _ h => by rw [N] at h; cases h), (fun _ _ _ _ _ h => by rw [B] at h; cases h), (fun _ _ _ _ _ h => by rw [C] at h; cases h)⟩
  | succ n ih =>
    obtain ⟨iN, iB, iC⟩ := ih
    refine ⟨?_, ?_, ?_⟩
    · intro deep mark l t r h
      rw [N_succ] at h
      cases hb : Lx.bare mark l with
      | none => rw [hb] at h; cases h
      | some p =>
        obtain ⟨x, e⟩ := p
        rw [hb] at h
        obtain ⟨q, hq, he⟩ := wordsO_some h
        cases he
        obtain ⟨g1, g2, g3⟩ := iB deep mark (l.drop e) q.1 q.2 hq
        have hp := Lx.az_places hb
        have hw := words_wt (r := q.1) hp.2
        rw [List.length_drop] at g3
        exact ⟨words_isN g1, words_clean g2, by omega⟩
    · intro deep mark l t r h
      rw [B_succ] at h
      cases h1 : pre [123] l with
      | none =>
        simp only [h1] at h
        cases h2 : (if mark = true then pre [35] l else none) with
        | none => simp only [h2] at h; cases h; exact ⟨rfl, rfl, by simp [wt]; omega⟩
        | some r1 =>
          simp only [h2] at h
          obtain ⟨q, hq, he⟩ := consO_some h
          cases he
          have h3 : pre [35] l = some r1 := by
            cases mark with
            | true => exact h2
            | false => cases h2
          have := pre_len h3
          obtain ⟨g1, g2, g3⟩ := iN deep mark r1 q.1 q.2 hq
          refine ⟨by simp [isN, isN.isC, g1], by simp [clean, hasC, g2], ?_⟩
          simp at this
          simp only [wt, List.length_nil]; omega
      | some r1 =>
        simp only [h1] at h
        have l1 := pre_len h1
        simp at l1
        cases h2 : upto (fun c => c == 44 || c == 125) r1 with
        | none => simp only [h2] at h; cases h
        | some p2 =>
          obtain ⟨x, r2⟩ := p2
          simp only [h2] at h
          have l2 := (upto_len h2).1
          cases h3 : pre [125] r2 with
          | some r3 =>
            simp only [h3] at h
            obtain ⟨q, hq, he⟩ := consO_some h
            cases he
            have := pre_len h3
            simp at this
            obtain ⟨g1, g2, g3⟩ := iN deep mark r3 q.1 q.2 hq
            exact ⟨by simp [isN, isN.isC, g1], by simp [clean, hasC, g2], by simp only [wt]; omega⟩
          | none =>
            simp only [h3] at h
            cases h4 : pre number r2 with
            | some r3 =>
              simp only [h4] at h
              obtain ⟨q, hq, he⟩ := consO_some h
              cases he
              have := pre_len h4
              simp [number] at this
              obtain ⟨g1, g2, g3⟩ := iN deep mark r3 q.1 q.2 hq
              exact ⟨by simp [isN, isN.isC, g1], by simp [clean, hasC, g2], by simp only [wt]; omega⟩
            | none =>
              simp only [h4] at h
              cases h5 : pre select r2 with
              | some r3 =>
                simp only [h5] at h
                have := pre_len h5
                simp [select] at this
                cases h6 : C n deep mark r3 with
                | none => simp only [h6] at h; cases h
                | some p6 =>
                  obtain ⟨cs, r4⟩ := p6
                  simp only [h6] at h
                  obtain ⟨q, hq, he⟩ := consO_some h
                  cases he
                  obtain ⟨c1, c2, c3⟩ := iC deep mark r3 cs r4 h6
                  obtain ⟨g1, g2, g3⟩ := iN deep mark r4 q.1 q.2 hq
                  exact ⟨by simp [isN, c1, g1], by simp [clean, hasC, g2, c2], by simp only [wt]; omega⟩
              | none =>
                simp only [h5] at h
                cases h6 : pre plural r2 with
                | none => simp only [h6] at h; cases h
                | some r3 =>
                  simp only [h6] at h
                  have := pre_len h6
                  simp [plural] at this
                  cases h7 : offs r3 with
                  | none => simp only [h7] at h; cases h
                  | some p7 =>
                    obtain ⟨f, r4⟩ := p7
                    simp only [h7] at h
                    have := offs_len h7
                    cases h8 : C n deep true r4 with
                    | none => simp only [h8] at h; cases h
                    | some p8 =>
                      obtain ⟨cs, r5⟩ := p8
                      simp only [h8] at h
                      obtain ⟨q, hq, he⟩ := consO_some h
                      cases he
                      obtain ⟨c1, c2, c3⟩ := iC deep true r4 cs r5 h8
                      obtain ⟨g1, g2, g3⟩ := iN deep mark r5 q.1 q.2 hq
                      exact ⟨by simp [isN, c1, g1], by simp [clean, hasC, g2, c2], by simp only [wt]; omega⟩
    · intro deep mark l t r h
      rw [C_succ] at h
      cases h1 : pre [125] l with
      | some r1 =>
        simp only [h1] at h; cases h
        have := pre_len h1
        simp at this
        exact ⟨rfl, rfl, by simp only [wt]; omega⟩
      | none =>
        simp only [h1] at h
        cases h2 : pre [32] l with
        | none => simp only [h2] at h; cases h
        | some r1 =>
          simp only [h2] at h
          have := pre_len h2
          simp at this
          cases h3 : upto (fun c => c == 32) r1 with
          | none => simp only [h3] at h; cases h
          | some p3 =>
            obtain ⟨key, r2⟩ := p3
            simp only [h3] at h
            have := (upto_len h3).1
            cases h4 : pre [32, 123] r2 with
            | none => simp only [h4] at h; cases h
            | some r3 =>
              simp only [h4] at h
              have := pre_len h4
              simp at this
              split at h
              · cases h
              · cases h5 : N n (deep + 1) mark r3 with
                | none => simp only [h5] at h; cases h
                | some p5 =>
                  obtain ⟨b, r4⟩ := p5
                  simp only [h5] at h
                  obtain ⟨b1, b2, b3⟩ := iN (deep + 1) mark r3 b r4 h5
                  cases h6 : pre [125] r4 with
                  | none => simp only [h6] at h; cases h
                  | some r5 =>
                    simp only [h6] at h
                    have := pre_len h6
                    simp at this
                    cases h7 : C n deep mark r5 with
                    | none => rw [h7] at h; cases h
                    | some p7 =>
                      rw [h7] at h
                      cases h
                      obtain ⟨c1, c2, c3⟩ := iC deep mark r5 p7.1 p7.2 h7
                      exact ⟨by simp [isN.isC, b1, c1], by simp [clean, b2, c2], by simp only [wt]; omega⟩
theorem NN_good {deep : Nat} {mark : Bool} {l r : List UInt8} {t : T} (h : NN deep mark l = some (t, r)) : GoodN l t r := (good _).1 deep mark l t r h
theorem CC_good {deep : Nat} {mark : Bool} {l r : List UInt8} {t : T} (h : CC deep mark l = some (t, r)) : GoodC l t r := (good _).2.2 deep mark l t r h

/-! ### clean: what is wrong stays so -/
theorem clean_isN : ∀ t : T, (isN t = true → isN (clean t) = true) ∧ (isN.isC t = true → isN.isC (clean t) = true)
  | .nil => ⟨fun _ => rfl, fun _ => rfl⟩
  | .node k x f cs nx => by
    refine ⟨fun h => ?_, fun h => by cases h⟩
    have h' : isN.isC cs = true ∧ isN nx = true := by simpa [isN] using h
    simp only [clean, isN, (clean_isN nx).1 h'.2, Bool.and_true]
    split
    · exact (clean_isN cs).2 h'.1
    · rfl
  | .case key body nx => by
    refine ⟨fun h => (by cases h), fun h => ?_⟩
    have h' : isN body = true ∧ isN.isC nx = true := by simpa [isN.isC] using h
    simp only [clean, isN.isC, (clean_isN nx).2 h'.2, (clean_isN body).1 h'.1, Bool.and_true]
theorem clean_fine (k : Int) (x : List UInt8) (mark pw : Bool) : fine k (if k = 6 then [] else x) mark pw = fine k x mark pw := by
  by_cases h : k = 6
  · subst h; rfl
  · rw [if_neg h]
theorem clean_flt : ∀ (t : T) (mark pw : Bool) (kind : Int) (seen : List (List UInt8)), flt (clean t) mark pw kind seen = flt t mark pw kind seen
  | .nil, _, _, _, _ => rfl
  | .node k x f cs nx, mark, pw, kind, seen => by
    have e4 : (k = 4 ∧ ((if k = 4 then f else 0) < 0 ∨ (if k = 4 then f else 0) > 9)) ↔ (k = 4 ∧ (f < 0 ∨ f > 9)) := by
      constructor
      · rintro ⟨h, h'⟩; rw [if_pos h] at h'; exact ⟨h, h'⟩
      · rintro ⟨h, h'⟩; rw [if_pos h]; exact ⟨h, h'⟩
    simp only [clean, flt, clean_fine, clean_flt nx]
    by_cases hc : hasC k = true
    · simp only [hc, if_true, clean_flt cs, e4]
    · simp [hc, e4]
  | .case key body nx, mark, pw, kind, seen => by simp only [clean, flt, clean_flt body, clean_flt nx]
theorem clean_cnt : ∀ t : T, cnt (clean t) = cnt t
  | .nil => rfl
  | .node k x f cs nx => by
    simp only [clean, cnt, clean_cnt nx]
    by_cases hc : hasC k = true
    · simp only [hc, if_true, clean_cnt cs]
    · simp only [hc, if_false, Bool.false_eq_true]
  | .case key body nx => by simp only [clean, cnt, clean_cnt nx, clean_cnt body]
theorem clean_deep : ∀ (t : T) (d : Nat), deepB (clean t) d = deepB t d
  | .nil, _ => rfl
  | .node k x f cs nx, d => by
    simp only [clean, deepB, clean_deep nx]
    by_cases hc : hasC k = true
    · simp only [hc, if_true, clean_deep cs]
    · simp only [hc, Bool.false_and]
  | .case key body nx, d => by simp only [clean, deepB, clean_deep nx, clean_deep body]
theorem clean_fault (t : T) : fault (clean t) = fault t := by
  unfold fault big
  rw [clean_cnt, clean_deep, clean_flt]
theorem clean_wt : ∀ t : T, wt (clean t) ≤ wt t
  | .nil => Nat.le_refl _
  | .node k x f cs nx => by
    have h1 := clean_wt nx; have h2 := clean_wt cs
    have h3 : 1 ≤ wt cs := by cases cs <;> simp [wt] <;> omega
    simp only [clean, wt]
    split <;> split <;> simp [wt] <;> omega
  | .case key body nx => by have h1 := clean_wt nx; have h2 := clean_wt body; simp only [clean, wt]; omega

/-- the message of a text, if it is one's -/
def parse (s : List UInt8) : Option T := match NN 0 false s with
  | some (t, []) => if fault t = 0 then some t else none
  | _ => none
theorem parse_good {s : List UInt8} {t : T} (h : parse s = some t) : isN t = true ∧ clean t = t ∧ wt t ≤ 6 * s.length + 1 ∧ fault t = 0 := by
  unfold parse at h
  split at h
  · rename_i t' hN
    split at h
    · rename_i hf
      cases h
      obtain ⟨g1, g2, g3⟩ := NN_good hN
      exact ⟨g1, g2, by simpa using g3, hf⟩
    · cases h
  · cases h
theorem parse_back {t : T} (hn : isN t = true) (h : fault t = 0) : parse (txt t false) = some (clean t) := by
  obtain ⟨h1, h2⟩ := fault_0 h
  have hd : deepB t 0 = false := by
    unfold big at h2; simp at h2; exact h2.1
  have := ((Ms.back t).1 false false 0 [] hn h1 hd (.inl rfl)).1
  rw [List.append_nil] at this
  unfold parse
  rw [this]
  simp only [clean_fault, h, if_true]

/-! ### words alone -/
theorem qz_more (m : Bool) : ∀ (s r : List UInt8), (∀ c ∈ r, Lx.sp m c = true) → (∃ c ∈ r ++ s, Lx.sp m c = true) → r.length + s.length < (Lx.qz m r s).length := by
  have hd : ∀ r : List UInt8, (∀ c ∈ r, Lx.sp m c = true) → r ≠ [] → r.length < (Lx.dupq m r).length := by
    intro r hr hne
    have hl := Lx.dup_len r
    unfold Lx.dupq
    split
    · simp; omega
    · rename_i hno
      have h39 : ∀ c ∈ r, c = 39 := by
        intro c hc
        have h1 := hr c hc
        have h2 : Lx.sg m c = false := by
          have := mt (fun h => List.any_eq_true.2 ⟨c, hc, h⟩) (by simpa using hno)
          simpa using this
        unfold Lx.sp at h1
        rw [h2] at h1; simpa using h1
      have : ∀ l : List UInt8, (∀ c ∈ l, c = 39) → (Lx.dup l).length = 2 * l.length := by
        intro l
        induction l with
        | nil => intro _; rfl
        | cons a b ih =>
          intro h
          have ha := h a (by simp)
          subst ha
          rw [Lx.dup_cons]
          simp only [beq_self_eq_true, if_true, List.length_append, List.length_cons, List.length_nil, ih (fun c hc => h c (by simp [hc]))]; omega
      rw [this r h39]
      have := List.length_pos_iff.2 hne
      omega
  intro s
  induction s with
  | nil =>
    intro r hr hex
    have hne : r ≠ [] := by rintro rfl; simp at hex
    simpa [Lx.qz] using hd r hr hne
  | cons c s ih =>
    intro r hr hex
    rw [Lx.qz]
    split
    · rename_i hc
      have := ih (r ++ [c]) (by simpa [or_imp, forall_and] using ⟨hr, hc⟩) ⟨c, by simp, hc⟩
      simp at this ⊢; omega
    · rename_i hc
      by_cases hne : r = []
      · subst hne
        have hx : ∃ d ∈ [] ++ s, Lx.sp m d = true := by
          obtain ⟨d, hd', hs⟩ := hex
          simp at hd'
          rcases hd' with rfl | hd'
          · exact absurd hs hc
          · exact ⟨d, by simpa using hd', hs⟩
        have := ih [] (by simp) hx
        simp [Lx.dupq, Lx.dup] at this ⊢; omega
      · have h1 := hd r hr hne
        have h2 := Lx.qz_len m s []
        simp at h2 ⊢; omega
theorem quote_same (m : Bool) (s : List UInt8) : Lx.quote m s = s ↔ ∀ c ∈ s, Lx.sp m c = false := by
  constructor
  · intro h c hc
    cases hs : Lx.sp m c with
    | false => rfl
    | true =>
      have := qz_more m s [] (by simp) ⟨c, by simpa using hc, hs⟩
      unfold Lx.quote at h
      rw [h] at this; simp at this
  · intro h
    have := Lx.quote_plain m s [] h
    simpa [Lx.quote, Lx.qz, Lx.dupq, Lx.dup] using this
end Go.Proofs.YtgkphpjnfigjiaaGreatDoor
