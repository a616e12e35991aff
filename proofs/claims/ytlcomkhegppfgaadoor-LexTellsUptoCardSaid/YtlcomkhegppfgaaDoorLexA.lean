/-
  The walks of lex.signs, lex.span, and the references Sign and Starts.
-/
import Derived.Test.YtlcomkhegppfgaaDoorIdx
import Derived.Test.YtlcomkhegppfgaaDoorPlex
namespace Go.Proofs.YtlcomkhegppfgaaDoor
open Go.Shelf Go.RowKit Go.Lib

def signsB (m : Bool) : ByteArray := if m then ⟨#[123, 125, 35]⟩ else ⟨#[123, 125]⟩
def specB (m : Bool) : ByteArray := signsB m ++ ⟨#[39]⟩
theorem signsB_contains (m : Bool) (c : UInt8) : (signsB m).data.toList.contains c = Lx.sg m c := by
  rw [Bool.eq_iff_iff]
  cases m <;> simp [signsB, Lx.sg, or_assoc]
theorem specB_contains (m : Bool) (c : UInt8) : (specB m).data.toList.contains c = Lx.sp m c := by
  rw [Bool.eq_iff_iff]
  have e : (specB m).data.toList = if m then [123, 125, 35, 39] else [123, 125, 39] := by cases m <;> rfl
  rw [e]
  cases m <;> simp [Lx.sg, Lx.sp, or_assoc]
theorem specB_ascii (m : Bool) : ∀ (j : Nat) b, (specB m).data.toList[j]? = some b → b.toNat < 128 := by
  have e : (specB m).data.toList = if m then [123, 125, 35, 39] else [123, 125, 39] := by cases m <;> rfl
  rw [e]
  cases m
  · exact ascii_of_all (by decide)
  · exact ascii_of_all (by decide)
theorem specB_size (m : Bool) : 2 ≤ (specB m).size ∧ (specB m).size ≤ 4 := by
  have e : (specB m).size = if m then 4 else 3 := by cases m <;> rfl
  rw [e]; cases m <;> decide
theorem signsB_ascii (m : Bool) : ∀ (j : Nat) b, (signsB m).data.toList[j]? = some b → b.toNat < 128 := by
  cases m
  · exact ascii_of_all (by decide)
  · exact ascii_of_all (by decide)

theorem signs_any (m : Bool) (w : World) :
    Calls Tryd.prog 14 #[.bool m] w fun e w' => e = .returned (.string (signsB m)) ∧ w' = w := by
  cases m
  · go_enter Tryd.func14, Tryd.ntmps14
    go_wp2_with fail
    go_ret
    exact ⟨rfl, rfl⟩
  · go_enter Tryd.func14, Tryd.ntmps14
    go_wp2_with fail
    go_ret
    exact ⟨rfl, rfl⟩

theorem trimLeft_len (m : Bool) (l : List UInt8) : (Lib.trimLeftS l (specB m).data.toList).length + (l.takeWhile (Lx.sp m)).length = l.length := by
  have e : Lib.trimLeftS l (specB m).data.toList = l.dropWhile (Lx.sp m) := by
    unfold Lib.trimLeftS
    congr 1
    funext c
    exact specB_contains m c
  rw [e]
  have := congrArg List.length (List.takeWhile_append_dropWhile (p := Lx.sp m) (l := l))
  rw [List.length_append] at this
  omega

theorem span_any (s : ByteArray) (m : Bool) (w : World) (hs : s.size ≤ 1000000000) :
    Calls Tryd.prog 21 #[.string s, .string (signsB m ++ ⟨#[39]⟩)] w fun e w' => e = .returned (.int .i64 ((s.data.toList.takeWhile (Lx.sp m)).length : Nat)) ∧ Below w.heap.size w w' := by
  have hl := trimLeft_len m s.data.toList
  rw [← Lib.size_eq s] at hl
  obtain ⟨t, ht⟩ : ∃ t, Lib.trimLeftS s.data.toList (specB m).data.toList = t := ⟨_, rfl⟩
  have hc := Tryd.trimLeft s (specB m) w (by have := specB_size m; omega) (specB_ascii m)
  rw [ht] at hc hl
  have HC := Lib.hid hc
  clear hc ht
  obtain ⟨k, hk⟩ : ∃ k, (s.data.toList.takeWhile (Lx.sp m)).length = k := ⟨_, rfl⟩
  rw [hk] at hl
  have Hk := Lib.hid hk; clear hk
  have hl1 : t.length + k ≤ s.size := by omega
  have hl2 : s.size ≤ t.length + k := by omega
  clear hl
  go_enter Tryd.func21, Tryd.ntmps21
  go_wp2_with fail
  refine HC.out.mono ?_
  rintro e w' ⟨rfl, hb⟩
  have Hb := Lib.hid hb; clear hb
  go_wp2_with fail
  go_ret
  exact ⟨by rw [Hk.out]; exact ret_int (by omega), Hb.out⟩

/-! what IndexAny, ContainsAny and ReplaceAll tell, in the plain laws' words -/
theorem indexAny_spec (m : Bool) (l : List UInt8) :
    (Lib.indexAny l (specB m).data.toList = -1 ∧ ∀ c ∈ l, Lx.sp m c = false) ∨
    (∃ j : Nat, Lib.indexAny l (specB m).data.toList = j ∧ j < l.length ∧ (∀ c ∈ l.take j, Lx.sp m c = false) ∧ ∀ c, l[j]? = some c → Lx.sp m c = true) := by
  induction l with
  | nil => exact .inl ⟨rfl, by simp⟩
  | cons b l ih =>
    unfold Lib.indexAny
    rw [specB_contains]
    cases hb : Lx.sp m b with
    | true => exact .inr ⟨0, rfl, by simp, by simp, by intro c hc; simp at hc; subst hc; exact hb⟩
    | false =>
      rcases ih with ⟨h1, h2⟩ | ⟨j, h1, h2, h3, h4⟩
      · left
        rw [h1]
        exact ⟨rfl, by simp [hb]; exact fun c hc => h2 c hc⟩
      · right
        rw [h1]
        refine ⟨j + 1, ?_, by simp; omega, ?_, ?_⟩
        · have hne : ((j : Int) == -1) = false := beq_eq_false_iff_ne.2 (by omega)
          rw [hne]; simp
        · simp [hb]; exact fun c hc => h3 c hc
        · simpa using h4
theorem indexAny_any (m : Bool) (l : List UInt8) : decide (0 ≤ Lib.indexAny l (signsB m).data.toList) = l.any (Lx.sg m) := by
  induction l with
  | nil => rfl
  | cons b l ih =>
    unfold Lib.indexAny
    rw [signsB_contains, List.any_cons]
    cases hb : Lx.sg m b with
    | true => simp
    | false =>
      have hge := Lib.indexAny_ge (signsB m).data.toList l
      rw [Bool.false_or, ← ih]
      simp only [Bool.false_eq_true, ↓reduceIte]
      split
      · rename_i h
        have := beq_iff_eq.1 h
        rw [this]
      · rename_i h
        have : Lib.indexAny l (signsB m).data.toList ≠ -1 := fun e => h (beq_iff_eq.2 e)
        rw [Bool.eq_iff_iff, decide_eq_true_iff, decide_eq_true_iff]; omega
theorem replaceK_dup : ∀ l : List UInt8, Lib.replaceK [39] [39, 39] (l.count 39) l = Lx.dup l
  | [] => rfl
  | b :: l => by
    have ih := replaceK_dup l
    rw [Lx.dup_cons]
    by_cases hb : b = 39
    · subst hb
      have e : Lib.index (39 :: l) [39] = ((0 : Nat) : Int) := by rw [Lib.index_one]; simp [Lib.indexByte]
      rw [List.count_cons_self, Lib.replaceK_hit _ _ _ _ 0 e]
      simp [ih]
    · rw [List.count_cons_of_ne hb]
      simp only [beq_iff_eq, hb, ↓reduceIte, List.cons_append, List.nil_append]
      rw [← ih]
      cases hk : l.count 39 with
      | zero => rfl
      | succ k =>
        obtain ⟨i, hi⟩ := Lib.index_of_count (s := l) (old := [39]) (by rw [Lib.count_one, hk]; omega)
        rw [Lib.replaceK_hit _ _ _ _ i hi]
        have e : Lib.index (b :: l) [39] = ((i + 1 : Nat) : Int) := by
          rw [Lib.index_one] at hi ⊢
          have hne : ((i : Int) == -1) = false := beq_eq_false_iff_ne.2 (by omega)
          simp [Lib.indexByte, hb, hi, hne]
        rw [Lib.replaceK_hit _ _ _ _ (i + 1) e]
        simp
theorem replaceAll_dup (l : List UInt8) : Lib.replaceAll l [39] [39, 39] = Lx.dup l := by
  unfold Lib.replaceAll Lib.replace
  rw [if_neg (by decide)]
  have : Lib.replaceNum l [39] (-1) = l.count 39 := by
    unfold Lib.replaceNum
    rw [if_pos (Or.inl (by decide)), Lib.count_one]
  rw [this, replaceK_dup]

theorem idx_any (r : ByteArray) (m : Bool) (w : World) (hs : r.size ≤ 1000000000) :
    Calls Tryd.prog 22 #[.string r, .string (signsB m ++ ⟨#[39]⟩)] w fun e w' => e = .returned (.int .i64 (Lib.indexAny r.data.toList (specB m).data.toList)) ∧ Below w.heap.size w w' := by
  have := specB_size m
  exact Tryd.indexAny r (specB m) w (by omega) (by omega) (by omega) (specB_ascii m)
theorem cont_any (r : ByteArray) (m : Bool) (w : World) (hs : r.size ≤ 1000000000) :
    Calls Tryd.prog 24 #[.string r, .string (signsB m)] w fun e w' => e = .returned (.bool (r.data.toList.any (Lx.sg m))) ∧ Below w.heap.size w w' := by
  have h2 : 2 ≤ (signsB m).size ∧ (signsB m).size ≤ 3 := by cases m <;> decide
  refine (Tryd.containsAny r (signsB m) w (by omega) (by omega) (by omega) (signsB_ascii m)).mono fun e w' h => ⟨?_, h.2⟩
  rw [h.1, indexAny_any]
end Go.Proofs.YtlcomkhegppfgaaDoor
