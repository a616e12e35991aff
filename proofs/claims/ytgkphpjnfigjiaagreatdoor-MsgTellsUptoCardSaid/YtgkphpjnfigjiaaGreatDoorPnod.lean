/- Plain laws: the reference's reader of messages goes by places in the text, and a key may have blanks there; where no key has one it reads what the program's reader reads. -/
import Derived.Test.YtgkphpjnfigjiaaGreatDoorBase
import Derived.Lib.Strings
namespace Lx
/-- what is read ends where a sign stands, or nothing -/
theorem az_drop (m : Bool) : ∀ (n : Nat) (b : Bool) (l : List UInt8), l.length ≤ n → ∀ t k, az m b l = some (t, k) → Ends m (l.drop k) := by
  intro n
  induction n with
  | zero =>
    intro b l h t k e
    have : l = [] := List.length_eq_zero_iff.1 (by omega)
    subst this
    exact .inl (by simp)
  | succ n ih =>
    have key : ∀ (b : Bool) (p s l : List UInt8) (j : Nat) t k, s.length ≤ n → p.length = j → add l j (az m b s) = some (t, k) → Ends m ((p ++ s).drop k) := by
      intro b p s l j t k hs hl e
      cases hi : az m b s with
      | none => rw [hi] at e; simp [add] at e
      | some q =>
        obtain ⟨t', k'⟩ := q
        rw [hi, add_some] at e
        simp at e
        obtain ⟨rfl, rfl⟩ := e
        have := ih b s hs _ _ hi
        rw [← hl, ← List.drop_drop, List.drop_left]
        exact this
    intro b l h t k e
    match b, l, h, e with
    | false, [], _, e => exact .inl (by simp)
    | true, [], _, e => exact .inl (by simp)
    | true, [c], _, e =>
      simp only [az] at e
      split at e
      · simp at e; obtain ⟨rfl, rfl⟩ := e; exact .inl rfl
      · simp at e
    | false, [c], _, e =>
      simp only [az] at e
      split at e
      · rename_i hc; simp at e; obtain ⟨rfl, rfl⟩ := e; exact .inr ⟨c, [], rfl, hc⟩
      · simp at e; obtain ⟨rfl, rfl⟩ := e; exact .inl rfl
    | true, c :: d :: s, h, e =>
      simp only [az] at e
      simp only [List.length_cons] at h
      split at e
      · split at e
        · exact key _ [c, d] s _ _ _ _ (by omega) rfl e
        · exact key _ [c] (d :: s) _ _ _ _ (by simp; omega) rfl e
      · exact key _ [c] (d :: s) _ _ _ _ (by simp; omega) rfl e
    | false, c :: d :: s, h, e =>
      simp only [az] at e
      simp only [List.length_cons] at h
      split at e
      · rename_i hc; simp at e; obtain ⟨rfl, rfl⟩ := e; exact .inr ⟨c, d :: s, rfl, hc⟩
      · split at e
        · split at e
          · exact key _ [c, d] s _ _ _ _ (by omega) rfl e
          · split at e
            · exact key _ [c] (d :: s) _ _ _ _ (by simp; omega) rfl e
            · exact key _ [c] (d :: s) _ _ _ _ (by simp; omega) rfl e
        · exact key _ [c] (d :: s) _ _ _ _ (by simp; omega) rfl e
theorem bare_drop {m : Bool} {l t : List UInt8} {k : Nat} (h : bare m l = some (t, k)) : Ends m (l.drop k) := az_drop m _ false l (Nat.le_refl _) t k h
theorem bare_places {m : Bool} {l t : List UInt8} {k : Nat} (h : bare m l = some (t, k)) : k ≤ l.length ∧ t.length ≤ k := az_places h
end Lx
namespace Go.Proofs.YtgkphpjnfigjiaaGreatDoor
open Ms

/-- no key of a message has a blank -/
def keysOk : T → Bool
  | .nil => true
  | .node k _ _ cs nx => (!hasC k || keysOk cs) && keysOk nx
  | .case key body nx => !key.contains 32 && keysOk body && keysOk nx
theorem keys_app : ∀ a b : T, keysOk (app a b) = (keysOk a && keysOk b)
  | .nil, b => by simp [app, keysOk]
  | .node k x f cs nx, b => by simp only [app, keysOk, keys_app nx b, Bool.and_assoc]
  | .case key body nx, b => by simp only [app, keysOk, keys_app nx b, Bool.and_assoc]
theorem keys_words (t : List UInt8) : keysOk (words t .nil) = true := by unfold words; split <;> rfl
theorem keys_fine : ∀ (t : T) (mark pw : Bool) (kind : Int) (seen : List (List UInt8)), flt t mark pw kind seen = 0 → keysOk t = true
  | .nil, _, _, _, _, _ => rfl
  | .node k x f cs nx, mark, pw, kind, seen, h => by
    obtain ⟨_, _, h3, h4⟩ := Ms.flt_node h
    simp only [keysOk, Bool.and_eq_true]
    refine ⟨?_, keys_fine nx _ _ _ _ h4⟩
    cases hc : hasC k with
    | false => rfl
    | true => simp [keys_fine cs _ _ _ _ (h3 hc)]
  | .case key body nx, mark, pw, kind, seen, h => by
    obtain ⟨h1, _, h3, h4⟩ := Ms.flt_case h
    simp only [keysOk, Bool.and_eq_true]
    refine ⟨⟨?_, keys_fine body _ _ _ _ h3⟩, keys_fine nx _ _ _ _ h4⟩
    have := keyB_chars h1
    simpa using fun hm => this 32 hm rfl
/-- what was read so far, ahead of what is read: nothing, where a key has a blank -/
def ahead (acc : T) (o : Option (T × List UInt8)) : Option (T × List UInt8) := if keysOk acc = true then mapA acc o else none
def gate (t : T) (r : List UInt8) : Option (T × List UInt8) := if keysOk t = true then some (t, r) else none
theorem ahead_nil (o : Option (T × List UInt8)) : ahead .nil o = o := by simp [ahead, keysOk, mapA_nil]
theorem ahead_none (a : T) : ahead a none = none := by unfold ahead; split <;> rfl
theorem ahead_ahead (a b : T) (o : Option (T × List UInt8)) : ahead a (ahead b o) = ahead (app a b) o := by
  unfold ahead; rw [keys_app]
  cases keysOk a <;> cases keysOk b <;> simp [mapA_mapA, mapA_none]
theorem ahead_end (a : T) (r : List UInt8) : ahead a (some (.nil, r)) = gate a r := by unfold ahead gate; rw [mapA_end]
theorem gate_nil (r : List UInt8) : gate .nil r = some (.nil, r) := rfl

/-! ### by places -/
theorem pre_of {p l : List UInt8} (h : Go.Lib.hasPrefix l p = true) : pre p l = some (l.drop p.length) := by
  unfold pre; rw [if_pos (show p.isPrefixOf l = true from h)]
theorem pre_not {p l : List UInt8} (h : Go.Lib.hasPrefix l p = false) : pre p l = none := by
  unfold pre; rw [if_neg (by rw [show p.isPrefixOf l = false from h]; decide)]
theorem upto_all {p : UInt8 → Bool} {l : List UInt8} (h : ∀ c ∈ l, p c = false) : upto p l = none := by
  unfold upto
  have hd : l.dropWhile (fun c => !p c) = [] := by
    induction l with
    | nil => rfl
    | cons a r ih =>
      rw [List.dropWhile_cons_of_pos (by rw [h a (by simp)]; rfl)]
      exact ih (fun c hc => h c (by simp [hc]))
  rw [hd]
theorem upto_take {p : UInt8 → Bool} {l : List UInt8} {n : Nat} {c : UInt8} (h : ∀ d ∈ l.take n, p d = false) (hn : l[n]? = some c) (hc : p c = true) : upto p l = some (l.take n, l.drop n) := by
  have h1 := upto_at (t := l.drop (n + 1)) h hc
  rw [← Lx.drop_cons hn, List.take_append_drop] at h1
  exact h1
theorem upto_cases (p : UInt8 → Bool) : ∀ l : List UInt8, (upto p l = none ∧ ∀ c ∈ l, p c = false) ∨ ∃ j c, l[j]? = some c ∧ p c = true ∧ (∀ d ∈ l.take j, p d = false) ∧ upto p l = some (l.take j, l.drop j) := by
  intro l
  have h : (∀ c ∈ l, p c = false) ∨ ∃ j c, l[j]? = some c ∧ p c = true ∧ ∀ d ∈ l.take j, p d = false := by
    induction l with
    | nil => exact .inl (fun _ h => by cases h)
    | cons a r ih =>
      cases ha : p a with
      | true => exact .inr ⟨0, a, rfl, ha, fun _ h => by cases h⟩
      | false =>
        rcases ih with ih | ⟨j, c, h1, h2, h3⟩
        · refine .inl (fun c hc => ?_)
          rcases List.mem_cons.1 hc with rfl | hc
          · exact ha
          · exact ih c hc
        · refine .inr ⟨j + 1, c, by simpa using h1, h2, fun d hd => ?_⟩
          rw [List.take_succ_cons] at hd
          rcases List.mem_cons.1 hd with rfl | hd
          · exact ha
          · exact h3 d hd
  rcases h with h | ⟨j, c, h1, h2, h3⟩
  · exact .inl ⟨upto_all h, h⟩
  · exact .inr ⟨j, c, h1, h2, h3, upto_take h3 h1 h2⟩

/-! ### nodes -/
/-- a node and its cases, as they are read -/
def nodeO (k : Int) (x : List UInt8) (f : Int) (o : Option (T × List UInt8)) : Option ((Int × List UInt8 × Int × T) × List UInt8) := o.map fun q => ((k, x, f, q.1), q.2)
theorem NN_step {deep : Nat} {mark : Bool} {l t r1 : List UInt8} {e : Nat} (h : Lx.bare mark l = some (t, e)) (h1 : pre [123] (l.drop e) = some r1) {k f : Int} {x r : List UInt8} {t2 : T} (ha : argO deep mark r1 = nodeO k x f (gate t2 r)) (hk : hasC k = true ∨ t2 = .nil) :
    NN deep mark l = ahead (app (words t .nil) (.node k x f t2 .nil)) (NN deep mark r) := by
  rw [NN_arg h h1, ha, ← ahead_ahead]
  have e1 : keysOk (.node k x f t2 .nil) = keysOk t2 := by
    simp only [keysOk, Bool.and_true]
    rcases hk with hk | rfl
    · rw [hk]; rfl
    · simp [keysOk]
  unfold ahead gate nodeO
  rw [e1, keys_words]
  cases keysOk t2 <;> rfl
theorem NN_bad {deep : Nat} {mark : Bool} {l t r1 : List UInt8} {e : Nat} (h : Lx.bare mark l = some (t, e)) (h1 : pre [123] (l.drop e) = some r1) (ha : argO deep mark r1 = none) : NN deep mark l = none := by
  rw [NN_arg h h1, ha]; rfl
theorem NN_sharp {deep : Nat} {l t r1 : List UInt8} {e : Nat} (h : Lx.bare true l = some (t, e)) (h0 : pre [123] (l.drop e) = none) (h1 : pre [35] (l.drop e) = some r1) :
    NN deep true l = ahead (app (words t .nil) (.node 6 [] 0 .nil .nil)) (NN deep true r1) := by
  rw [NN_mark h h0 h1, ← ahead_ahead]
  unfold ahead
  rw [keys_words]; rfl
theorem NN_stop {deep : Nat} {mark : Bool} {l t : List UInt8} {e : Nat} (h : Lx.bare mark l = some (t, e)) (h0 : pre [123] (l.drop e) = none) (h1 : pre [35] (l.drop e) = none) (acc : T) :
    ahead acc (NN deep mark l) = gate (app acc (words t .nil)) (l.drop e) := by
  rw [NN_end h h0 (fun _ => h1), ← ahead_end, ← ahead_ahead]
  congr 1
  unfold ahead
  rw [keys_words, if_pos rfl, mapA_end]
section
variable {deep : Nat} {mark : Bool} {r1 x r2 : List UInt8} (hu : upto (fun c => c == 44 || c == 125) r1 = some (x, r2))
include hu
theorem arg_show {r3 : List UInt8} (h : pre [125] r2 = some r3) : argO deep mark r1 = nodeO 2 x 0 (gate .nil r3) := by
  unfold argO; simp only [hu, h]; rfl
theorem arg_number {r3 : List UInt8} (h0 : pre [125] r2 = none) (h : pre number r2 = some r3) : argO deep mark r1 = nodeO 3 x 0 (gate .nil r3) := by
  unfold argO; simp only [hu, h0, h]; rfl
theorem arg_select {r3 : List UInt8} (h0 : pre [125] r2 = none) (h1 : pre number r2 = none) (h : pre select r2 = some r3) : argO deep mark r1 = nodeO 5 x 0 (CC deep mark r3) := by
  unfold argO; simp only [hu, h0, h1, h]
  cases CC deep mark r3 <;> rfl
theorem arg_plural {r3 : List UInt8} (h0 : pre [125] r2 = none) (h1 : pre number r2 = none) (h2 : pre select r2 = none) (h : pre plural r2 = some r3) (ho : pre offset r3 = none) : argO deep mark r1 = nodeO 4 x 0 (CC deep true r3) := by
  have h3 : offs r3 = some (0, r3) := by unfold offs; rw [ho]
  unfold argO; simp only [hu, h0, h1, h2, h, h3]
  cases CC deep true r3 <;> rfl
theorem arg_offset {r3 r : List UInt8} {d : UInt8} (h0 : pre [125] r2 = none) (h1 : pre number r2 = none) (h2 : pre select r2 = none) (h : pre plural r2 = some r3) (ho : pre offset r3 = some (d :: r)) (hd1 : 49 ≤ d) (hd2 : d ≤ 57) :
    argO deep mark r1 = nodeO 4 x ((d.toNat : Int) - 48) (CC deep true r) := by
  have hdp : (d == 32 || d == 125) = false := by
    have e1 : (d == 32) = false := by
      rw [beq_eq_false_iff_ne]; rintro rfl; exact absurd hd1 (by decide)
    have e2 : (d == 125) = false := by
      rw [beq_eq_false_iff_ne]; rintro rfl; exact absurd hd2 (by decide)
    rw [e1, e2]; rfl
  by_cases hr : ∃ c r', r = c :: r' ∧ (c == 32 || c == 125) = true
  · obtain ⟨c, r', rfl, hc⟩ := hr
    have h3 : offs r3 = some ((d.toNat : Int) - 48, c :: r') := by
      unfold offs
      rw [ho]
      have h4 : upto (fun c => c == 32 || c == 125) (d :: c :: r') = some ([d], c :: r') := upto_at (p := fun c => c == 32 || c == 125) (x := [d]) (fun e he => by simp at he; subst he; exact hdp) hc
      simp only [h4]
      rw [if_pos ⟨hd1, hd2⟩]
    unfold argO; simp only [hu, h0, h1, h2, h, h3]
    cases CC deep true (c :: r') <;> rfl
  · have h3 : offs r3 = none := by
      unfold offs
      rw [ho]
      rcases upto_cases (fun c => c == 32 || c == 125) (d :: r) with ⟨h4, _⟩ | ⟨j, c, h5, h6, h7, h4⟩
      · simp only [h4]
      · match j, h5, h7, h4 with
        | 0, h5, _, _ =>
          have : d = c := by simpa using h5
          subst this
          simp only [hdp] at h6; cases h6
        | 1, h5, _, _ =>
          have h5' : r[0]? = some c := by simpa using h5
          cases r with
          | nil => cases h5'
          | cons a r' =>
            have : a = c := by simpa using h5'
            subst this
            exact absurd ⟨a, r', rfl, h6⟩ hr
        | j + 2, h5, _, h4 =>
          have h5' : r[j + 1]? = some c := by simpa using h5
          cases r with
          | nil => cases h5'
          | cons a r' => simp only [h4, List.take_succ_cons]
    have h4 : CC deep true r = none := by
      refine CC_none ?_ ?_
      · cases r with
        | nil => exact pre_nil
        | cons a r' => exact pre_ne (fun e => hr ⟨a, r', rfl, by rw [← e]; rfl⟩)
      · cases r with
        | nil => exact pre_nil
        | cons a r' => exact pre_ne (fun e => hr ⟨a, r', rfl, by rw [← e]; rfl⟩)
    unfold argO; simp only [hu, h0, h1, h2, h, h3, h4]
    rfl
theorem arg_offbad {r3 r : List UInt8} (h0 : pre [125] r2 = none) (h1 : pre number r2 = none) (h2 : pre select r2 = none) (h : pre plural r2 = some r3) (ho : pre offset r3 = some r) (hd : ∀ d r', r = d :: r' → ¬ (49 ≤ d ∧ d ≤ 57)) :
    argO deep mark r1 = none := by
  have h3 : offs r3 = none := by
    unfold offs
    rw [ho]
    rcases upto_cases (fun c => c == 32 || c == 125) r with ⟨h4, _⟩ | ⟨j, c, h5, h6, h7, h4⟩
    · simp only [h4]
    · cases r with
      | nil => cases h5
      | cons a r' =>
        match j, h4 with
        | 0, h4 => simp only [h4, List.take_zero]
        | 1, h4 =>
          simp only [h4, List.take_succ_cons, List.take_zero]
          rw [if_neg (hd a r' rfl)]
        | j + 2, h4 =>
          cases r' with
          | nil => cases h5
          | cons b r'' => simp only [h4, List.take_succ_cons]
  unfold argO; simp only [hu, h0, h1, h2, h, h3]
theorem arg_none (h0 : pre [125] r2 = none) (h1 : pre number r2 = none) (h2 : pre select r2 = none) (h : pre plural r2 = none) : argO deep mark r1 = none := by
  unfold argO; simp only [hu, h0, h1, h2, h]
end
theorem arg_open {deep : Nat} {mark : Bool} {r1 : List UInt8} (hu : upto (fun c => c == 44 || c == 125) r1 = none) : argO deep mark r1 = none := by
  unfold argO; simp only [hu]
theorem nodeO_none (k : Int) (x : List UInt8) (f : Int) : nodeO k x f none = none := rfl

/-! ### cases -/
theorem caseC_none {deep : Nat} {mark : Bool} {r1 : List UInt8} (hf : ∀ i, i < r1.length → pre [32, 123] (r1.drop i) = none) : caseC deep mark r1 = none := by
  unfold caseC
  rcases upto_cases (fun c => c == 32) r1 with ⟨h4, _⟩ | ⟨j, c, h5, _, _, h4⟩
  · simp only [h4]
  · simp only [h4, hf j (List.getElem?_eq_some_iff.1 h5).1]
section
variable {deep : Nat} {mark : Bool} {r1 r3 : List UInt8} {n : Nat} (hp : pre [32, 123] (r1.drop n) = some r3) (hf : ∀ i, i < n → pre [32, 123] (r1.drop i) = none)
include hp hf
theorem caseC_at : caseC deep mark r1 = if (r1.take n).contains 32 = true then none else if 6 ≤ deep then none else match NN (deep + 1) mark r3 with
    | none => none
    | some (b, r4) => match pre [125] r4 with
      | none => none
      | some r5 => mapA (.case (r1.take n) b .nil) (CC deep mark r5) := by
  have hn : r1[n]? = some 32 := by
    cases hd : r1.drop n with
    | nil => rw [hd] at hp; rw [pre_nil] at hp; cases hp
    | cons a r' =>
      have h1 : r1[n]? = some a := by rw [← List.head?_drop, hd]; rfl
      by_cases ha : a = 32
      · rw [h1, ha]
      · rw [hd, pre_ne (fun e => ha e.symm)] at hp; cases hp
  by_cases hc : (r1.take n).contains 32 = true
  · rw [if_pos hc]
    unfold caseC
    rcases upto_cases (fun c => c == 32) r1 with ⟨h4, h5⟩ | ⟨j, c, h5, h6, h7, h4⟩
    · simp only [h4]
    · have hj : j < n := by
        rcases Nat.lt_or_ge j n with h | h
        · exact h
        · have hm : (32 : UInt8) ∈ r1.take n := by simpa using hc
          have hm2 : (32 : UInt8) ∈ r1.take j := by
            have : r1.take n = (r1.take j).take n := by rw [List.take_take, Nat.min_eq_left h]
            rw [this] at hm
            exact List.mem_of_mem_take hm
          have := h7 32 hm2
          exact absurd this (by decide)
      simp only [h4, hf j hj]
  · have h4 : upto (fun c => c == 32) r1 = some (r1.take n, r1.drop n) := upto_take (c := 32) (fun d hd => by
      rw [beq_eq_false_iff_ne]
      rintro rfl
      exact hc (by simpa using hd)) hn (by rfl)
    rw [if_neg hc]
    unfold caseC
    simp only [h4, hp, caseO_mapA]
    rfl
theorem caseC_step (hd : ¬ 6 ≤ deep) {b : T} {r4 r5 : List UInt8} (hN : NN (deep + 1) mark r3 = gate b r4) (h5 : pre [125] r4 = some r5) : caseC deep mark r1 = ahead (.case (r1.take n) b .nil) (CC deep mark r5) := by
  rw [caseC_at hp hf, if_neg hd, hN]
  unfold gate ahead
  rw [show keysOk (.case (r1.take n) b .nil) = (!(r1.take n).contains 32 && keysOk b) by simp only [keysOk, Bool.and_true]]
  cases (r1.take n).contains 32 with
  | true => rfl
  | false =>
    cases keysOk b with
    | false => rfl
    | true => simp [h5]
theorem caseC_bad (h : 6 ≤ deep ∨ NN (deep + 1) mark r3 = none ∨ ∃ b, NN (deep + 1) mark r3 = gate b []) : caseC deep mark r1 = none := by
  rw [caseC_at hp hf]
  split
  · rfl
  · split
    · rfl
    · rename_i hd
      rcases h with h | h | ⟨b, h⟩
      · exact absurd h hd
      · rw [h]
      · rw [h]
        cases hk : keysOk b with
        | false => simp [gate, hk]
        | true => simp [gate, hk, pre_nil]
end

/-! ### the message of a text -/
theorem parse_gate {s : List UInt8} {t : T} (h : NN 0 false s = gate t []) : parse s = if fault t = 0 then some t else none := by
  unfold parse
  rw [h]
  unfold gate
  by_cases hk : keysOk t = true
  · rw [if_pos hk]
  · rw [if_neg hk]
    by_cases hf : fault t = 0
    · exact absurd (keys_fine t _ _ _ _ (fault_0 hf).1) hk
    · rw [if_neg hf]
theorem parse_part {s r : List UInt8} {t : T} {c : UInt8} (h : NN 0 false s = gate t (c :: r)) : parse s = none := by
  unfold parse
  rw [h]
  unfold gate
  split
  · rename_i he
    split at he
    · cases he
    · cases he
  · rfl
theorem parse_none' {s : List UInt8} (h : NN 0 false s = none) : parse s = none := by
  unfold parse; rw [h]
end Go.Proofs.YtgkphpjnfigjiaaGreatDoor
