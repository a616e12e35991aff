/-
  The references Letter and FieldOf.
-/
import Derived.Test.YtmaccmhpcagcnaaGreatDoorRweek
import Derived.Test.YtmaccmhpcagcnaaGreatDoorRdig
import Derived.Test.YtmaccmhpcagcnaaGreatDoorTre
namespace Go.Proofs.YtmaccmhpcagcnaaGreatDoor
open Go.RowKit Go.Sort

theorem letter2_int (c : UInt8) : Dp.letter2 c = ((decide (97 ≤ (c.toNat : Int)) && decide ((c.toNat : Int) ≤ 122)) || (decide (65 ≤ (c.toNat : Int)) && decide ((c.toNat : Int) ≤ 90))) := by
  have h1 : (97 ≤ c) ↔ 97 ≤ (c.toNat : Int) := by rw [UInt8.le_iff_toNat_le]; show 97 ≤ c.toNat ↔ _; omega
  have h2 : (c ≤ 122) ↔ (c.toNat : Int) ≤ 122 := by rw [UInt8.le_iff_toNat_le]; show c.toNat ≤ 122 ↔ _; omega
  have h3 : (65 ≤ c) ↔ 65 ≤ (c.toNat : Int) := by rw [UInt8.le_iff_toNat_le]; show 65 ≤ c.toNat ↔ _; omega
  have h4 : (c ≤ 90) ↔ (c.toNat : Int) ≤ 90 := by rw [UInt8.le_iff_toNat_le]; show c.toNat ≤ 90 ↔ _; omega
  unfold Dp.letter2
  rw [decide_eq_decide.2 h1, decide_eq_decide.2 h2, decide_eq_decide.2 h3, decide_eq_decide.2 h4]
theorem rletter_any (c : UInt8) (w : World) : Calls Tryz.prog 17 #[.int .u8 c.toNat] w fun e w' => e = .returned (.bool (Dp.letter2 c)) ∧ w' = w := by
  rw [letter2_int]
  have hc : (c.toNat : Int) ≤ 255 := by have := c.toNat_lt; omega
  have hc0 : 0 ≤ (c.toNat : Int) := by omega
  by_cases a1 : (c.toNat : Int) < 65
  · rw [decide_eq_false (by omega : ¬ 97 ≤ (c.toNat : Int)), decide_eq_false (by omega : ¬ 65 ≤ (c.toNat : Int))]
    go_enter Tryz.func17, Tryz.ntmps17
    go_wp2_with fail
    go_ret
    exact ⟨rfl, rfl⟩
  · by_cases a2 : (c.toNat : Int) ≤ 90
    · rw [decide_eq_false (by omega : ¬ 97 ≤ (c.toNat : Int)), decide_eq_true (by omega : 65 ≤ (c.toNat : Int)), decide_eq_true a2]
      go_enter Tryz.func17, Tryz.ntmps17
      go_wp2_with fail
      go_ret
      exact ⟨rfl, rfl⟩
    · by_cases a3 : (c.toNat : Int) < 97
      · rw [decide_eq_false (by omega : ¬ 97 ≤ (c.toNat : Int)), decide_eq_true (by omega : 65 ≤ (c.toNat : Int)), decide_eq_false a2]
        go_enter Tryz.func17, Tryz.ntmps17
        go_wp2_with fail
        go_ret
        exact ⟨rfl, rfl⟩
      · by_cases a4 : (c.toNat : Int) ≤ 122
        · rw [decide_eq_true (by omega : 97 ≤ (c.toNat : Int)), decide_eq_true a4]
          go_enter Tryz.func17, Tryz.ntmps17
          go_wp2_with fail
          go_ret
          exact ⟨rfl, rfl⟩
        · rw [decide_eq_true (by omega : 97 ≤ (c.toNat : Int)), decide_eq_false a4, decide_eq_true (by omega : 65 ≤ (c.toNat : Int)), decide_eq_false a2]
          go_enter Tryz.func17, Tryz.ntmps17
          go_wp2_with fail
          go_ret
          exact ⟨rfl, rfl⟩

/-- what the reference tells of a field of any three numbers -/
def rval (y m d : Int) (k : Nat) : Int := if Dt.ok y m d then fval y m d k else match k with
  | 0 => max y 0
  | 1 => max y 0
  | 2 => max m 0
  | 3 => max m 0
  | 4 => max d 0
  | 5 => max d 0
  | _ => 0
def rtext (y m d : Int) (k : Nat) : List UInt8 := padTo (fleast k) (rval y m d k)
theorem rtext_ok {y m d : Int} (h : Dt.ok y m d) : rtext y m d = ftext y m d := by
  funext k; unfold rtext ftext rval; rw [if_pos h]
theorem padTo_len2 (least : Nat) (x : Int) (hl : least ≤ 4) (h0 : 0 ≤ x) (h1 : x ≤ 9223372036854775807) : (padTo least x).length ≤ 20 := by
  have h2 : (Lib.itoa x).length ≤ 20 := by
    unfold Lib.itoa
    rw [if_neg (by omega)]
    have := dec_len 20 x.toNat (by omega)
    omega
  unfold padTo
  rw [List.length_append, List.length_replicate]; omega
theorem rval_bd (y m d : Int) (hy : y ≤ 9223372036854775807) (hm : m ≤ 9223372036854775807) (hd : d ≤ 9223372036854775807) (k : Nat) : 0 ≤ rval y m d k ∧ rval y m d k ≤ 9223372036854775807 := by
  unfold rval
  split
  · rename_i h
    have := fval_bd y m d h k; omega
  · split <;> omega
theorem rtext_len (y m d : Int) (hy : y ≤ 9223372036854775807) (hm : m ≤ 9223372036854775807) (hd : d ≤ 9223372036854775807) (k : Nat) : (rtext y m d k).length ≤ 20 := by
  have := rval_bd y m d hy hm hd k
  exact padTo_len2 _ _ (fleast_le k) this.1 this.2
/-- Digits, of an integer -/
theorem rdig (x : Int) (least : Nat) (w : World) (h0 : 0 ≤ x) (h1 : x ≤ 9223372036854775807) (hl : least ≤ 100) :
    Calls Tryz.prog 35 #[.int .i64 x, .int .i64 least] w fun e w' => e = .returned (.string ⟨(padTo least x).toArray⟩) ∧ Below w.heap.size w w' := by
  have := rdigits_any 18 x.toNat least w (by omega) (by omega) hl
  rw [show ((x.toNat : Nat) : Int) = x by omega] at this
  exact this
theorem key_of {l : List UInt8} {k : Nat} (h : Dp.rowOf l = some k) : Dp.keys[k]? = some l := by
  unfold Dp.rowOf at h
  obtain ⟨hk, h1, _⟩ := List.findIdx?_eq_some_iff_getElem.1 h
  rw [List.getElem?_eq_getElem hk]
  exact congrArg some (by simpa using h1)

theorem key_cases {s : ByteArray} {k : Nat} (h : Dp.rowOf s.data.toList = some k) : (k = 0 ∧ s = ⟨#[121]⟩) ∨ (k = 1 ∧ s = ⟨#[121, 121, 121, 121]⟩) ∨ (k = 2 ∧ s = ⟨#[77]⟩) ∨ (k = 3 ∧ s = ⟨#[77, 77]⟩) ∨ (k = 4 ∧ s = ⟨#[100]⟩) ∨ (k = 5 ∧ s = ⟨#[100, 100]⟩) ∨ (k = 6 ∧ s = ⟨#[68, 68, 68]⟩) ∨ (k = 7 ∧ s = ⟨#[89, 89, 89, 89]⟩) ∨ (k = 8 ∧ s = ⟨#[119, 119]⟩) ∨ (k = 9 ∧ s = ⟨#[101]⟩) := by
  have hk := key_of h
  have hlt := Dp.rowOf_lt h
  have hs : ∀ l : List UInt8, s.data.toList = l → s = ⟨l.toArray⟩ := fun l hl => by rw [← hl, strOf_ext]
  match k, hlt, hk with
  | 0, _, hk => exact .inl ⟨rfl, hs _ (Option.some.inj hk).symm⟩
  | 1, _, hk => exact .inr (.inl ⟨rfl, hs _ (Option.some.inj hk).symm⟩)
  | 2, _, hk => exact .inr (.inr (.inl ⟨rfl, hs _ (Option.some.inj hk).symm⟩))
  | 3, _, hk => exact .inr (.inr (.inr (.inl ⟨rfl, hs _ (Option.some.inj hk).symm⟩)))
  | 4, _, hk => exact .inr (.inr (.inr (.inr (.inl ⟨rfl, hs _ (Option.some.inj hk).symm⟩))))
  | 5, _, hk => exact .inr (.inr (.inr (.inr (.inr (.inl ⟨rfl, hs _ (Option.some.inj hk).symm⟩)))))
  | 6, _, hk => exact .inr (.inr (.inr (.inr (.inr (.inr (.inl ⟨rfl, hs _ (Option.some.inj hk).symm⟩))))))
  | 7, _, hk => exact .inr (.inr (.inr (.inr (.inr (.inr (.inr (.inl ⟨rfl, hs _ (Option.some.inj hk).symm⟩)))))))
  | 8, _, hk => exact .inr (.inr (.inr (.inr (.inr (.inr (.inr (.inr (.inl ⟨rfl, hs _ (Option.some.inj hk).symm⟩))))))))
  | 9, _, hk => exact .inr (.inr (.inr (.inr (.inr (.inr (.inr (.inr (.inr ⟨rfl, hs _ (Option.some.inj hk).symm⟩))))))))
theorem no_key {s : ByteArray} (h : Dp.rowOf s.data.toList = none) (l : List UInt8) (hl : l ∈ Dp.keys) : ¬ s.toList = l ∧ (s.toList == l) = false := by
  have hn : ¬ s.toList = l := by
    intro e
    rw [Lib.toList_data] at e
    unfold Dp.rowOf at h
    rw [List.findIdx?_eq_none_iff] at h
    have := h l hl
    rw [e] at this
    simp at this
  exact ⟨hn, by simpa using hn⟩

set_option maxHeartbeats 4000000 in
set_option maxRecDepth 100000 in
theorem rfield_none_bad (s : ByteArray) (y m d : Int) (w : World) (h : Dp.rowOf s.data.toList = none) (hd : ¬ Dt.ok y m d) :
    Calls Tryz.prog 18 #[.string s, .agg #[.int .i64 y, .int .i64 m, .int .i64 d]] w fun e w' => e = .returned (.tuple #[.string ⟨(rtext y m d 9).toArray⟩, .bool false]) ∧ Below w.heap.size w w' := by
  obtain ⟨n0, m0⟩ := no_key h [121] (by simp [Dp.keys])
  obtain ⟨n1, m1⟩ := no_key h [121, 121, 121, 121] (by simp [Dp.keys])
  obtain ⟨n2, m2⟩ := no_key h [77] (by simp [Dp.keys])
  obtain ⟨n3, m3⟩ := no_key h [77, 77] (by simp [Dp.keys])
  obtain ⟨n4, m4⟩ := no_key h [100] (by simp [Dp.keys])
  obtain ⟨n5, m5⟩ := no_key h [100, 100] (by simp [Dp.keys])
  obtain ⟨n6, m6⟩ := no_key h [68, 68, 68] (by simp [Dp.keys])
  obtain ⟨n7, m7⟩ := no_key h [89, 89, 89, 89] (by simp [Dp.keys])
  obtain ⟨n8, m8⟩ := no_key h [119, 119] (by simp [Dp.keys])
  obtain ⟨n9, m9⟩ := no_key h [101] (by simp [Dp.keys])
  obtain ⟨w0, hw0⟩ : ∃ w0, w0 = (w.alloc (.cells #[.int .i64 y, .int .i64 m, .int .i64 d] 23)).alloc (.cells #[.int .i64 0, .int .i64 0, .int .i64 0] 67) := ⟨_, rfl⟩
  have B0 : Below w.heap.size w w0 := by rw [hw0]; exact ((Below.refl _ _).alloc (Nat.le_refl _) _).alloc (by simp) _
  have A0 : Tre w0 w.heap.size y m d := by rw [hw0]; exact (Tre.made _ _ _ _ _).alloc _
  have E0 : Tre w0 (w.heap.size + 1) 0 0 0 := by rw [hw0]; have := Tre.made (w.alloc (.cells #[.int .i64 y, .int .i64 m, .int .i64 d] 23)) 0 0 0 67; simpa using this
  have G0 : ∀ o, w0.frozen? ⟨w.heap.size + 1, o, none⟩ = false := by
    intro o; rw [hw0]
    have := (w.alloc (.cells #[.int .i64 y, .int .i64 m, .int .i64 d] 23)).heap.size
    simp
  have Z0 : w0.heap.size = w.heap.size + 1 + 1 := by rw [hw0]; simp
  have HB0 := Lib.hid B0; have HA0 := Lib.hid A0; have HE0 := Lib.hid E0; have HG0 := Lib.hid G0; have HZ0 := Lib.hid Z0; have Hw0 := Lib.hid hw0
  have HF := Lib.hid (fun W => rfault_bad y m d W hd)
  have h9 : Hid (rtext y m d 9 = padTo 1 0) := by show rtext y m d 9 = padTo 1 0; unfold rtext rval; rw [if_neg hd]; rfl
  clear h hd hw0 B0 A0 E0 G0 Z0
  go_enter Tryz.func18, Tryz.ntmps18
  go_wp2_with fail
  refine (HF.out _).mono ?_
  rintro e w1 ⟨rfl, hb⟩
  rw [← Hw0.out] at hb
  have HB1 := Lib.hid (below_step HB0.out hb)
  obtain ⟨a0, a1, a2⟩ := HA0.out.keep hb
  obtain ⟨e0, e1, e2⟩ := HE0.out.keep hb
  clear hb
  go_wp2_with fail
  refine (rdig 0 1 _ (by omega) (by omega) (by omega)).mono ?_
  rintro e w9 ⟨rfl, hb⟩
  have HB9 := Lib.hid (below_step HB1.out hb); clear hb
  go_wp2_with fail
  go_ret2
  exact ⟨by rw [h9.out]; rfl, HB9.out⟩

set_option maxHeartbeats 4000000 in
set_option maxRecDepth 100000 in
theorem rfield_some_bad (s : ByteArray) (y m d : Int) (j : Nat) (w : World) (hy : y ≤ 9223372036854775807) (hm : m ≤ 9223372036854775807) (hdd : d ≤ 9223372036854775807) (h : Dp.rowOf s.data.toList = some j) (hd : ¬ Dt.ok y m d) :
    Calls Tryz.prog 18 #[.string s, .agg #[.int .i64 y, .int .i64 m, .int .i64 d]] w fun e w' => e = .returned (.tuple #[.string ⟨(rtext y m d j).toArray⟩, .bool true]) ∧ Below w.heap.size w w' := by
  obtain ⟨w0, hw0⟩ : ∃ w0, w0 = (w.alloc (.cells #[.int .i64 y, .int .i64 m, .int .i64 d] 23)).alloc (.cells #[.int .i64 0, .int .i64 0, .int .i64 0] 67) := ⟨_, rfl⟩
  have B0 : Below w.heap.size w w0 := by rw [hw0]; exact ((Below.refl _ _).alloc (Nat.le_refl _) _).alloc (by simp) _
  have A0 : Tre w0 w.heap.size y m d := by rw [hw0]; exact (Tre.made _ _ _ _ _).alloc _
  have E0 : Tre w0 (w.heap.size + 1) 0 0 0 := by rw [hw0]; have := Tre.made (w.alloc (.cells #[.int .i64 y, .int .i64 m, .int .i64 d] 23)) 0 0 0 67; simpa using this
  have G0 : ∀ o, w0.frozen? ⟨w.heap.size + 1, o, none⟩ = false := by
    intro o; rw [hw0]
    have := (w.alloc (.cells #[.int .i64 y, .int .i64 m, .int .i64 d] 23)).heap.size
    simp
  have Z0 : w0.heap.size = w.heap.size + 1 + 1 := by rw [hw0]; simp
  have HB0 := Lib.hid B0; have HA0 := Lib.hid A0; have HE0 := Lib.hid E0; have HG0 := Lib.hid G0; have HZ0 := Lib.hid Z0; have Hw0 := Lib.hid hw0
  have HF := Lib.hid (fun W => rfault_bad y m d W hd)
  have hR0 : ∀ k, rval y m d k = match k with
    | 0 => max y 0
    | 1 => max y 0
    | 2 => max m 0
    | 3 => max m 0
    | 4 => max d 0
    | 5 => max d 0
    | _ => 0 := fun k => by unfold rval; rw [if_neg hd]
  have hR : Hid (∀ k, rtext y m d k = padTo (fleast k) (match k with
    | 0 => max y 0
    | 1 => max y 0
    | 2 => max m 0
    | 3 => max m 0
    | 4 => max d 0
    | 5 => max d 0
    | _ => 0)) := fun k => by unfold rtext; rw [hR0 k]
  have hc := key_cases h
  clear h hd hw0 B0 A0 E0 G0 Z0 hR0
  rcases hc with ⟨rfl, rfl⟩ | ⟨rfl, rfl⟩ | ⟨rfl, rfl⟩ | ⟨rfl, rfl⟩ | ⟨rfl, rfl⟩ | ⟨rfl, rfl⟩ | ⟨rfl, rfl⟩ | ⟨rfl, rfl⟩ | ⟨rfl, rfl⟩ | ⟨rfl, rfl⟩
  all_goals
    go_enter Tryz.func18, Tryz.ntmps18
    go_wp2_with fail
    refine (HF.out _).mono ?_
    rintro e w1 ⟨rfl, hb⟩
    rw [← Hw0.out] at hb
    have HB1 := Lib.hid (below_step HB0.out hb)
    obtain ⟨a0, a1, a2⟩ := HA0.out.keep hb
    obtain ⟨e0, e1, e2⟩ := HE0.out.keep hb
    clear hb
    go_wp2_with fail
  · refine (rdig (max y 0) 1 _ (by omega) (by omega) (by omega)).mono ?_
    rintro e w9 ⟨rfl, hb⟩
    have HB9 := Lib.hid (below_step HB1.out hb); clear hb
    go_wp2_with fail
    go_ret2
    exact ⟨by rw [hR.out]; rfl, HB9.out⟩
  · refine (rdig (max y 0) 4 _ (by omega) (by omega) (by omega)).mono ?_
    rintro e w9 ⟨rfl, hb⟩
    have HB9 := Lib.hid (below_step HB1.out hb); clear hb
    go_wp2_with fail
    go_ret2
    exact ⟨by rw [hR.out]; rfl, HB9.out⟩
  · refine (rdig (max m 0) 1 _ (by omega) (by omega) (by omega)).mono ?_
    rintro e w9 ⟨rfl, hb⟩
    have HB9 := Lib.hid (below_step HB1.out hb); clear hb
    go_wp2_with fail
    go_ret2
    exact ⟨by rw [hR.out]; rfl, HB9.out⟩
  · refine (rdig (max m 0) 2 _ (by omega) (by omega) (by omega)).mono ?_
    rintro e w9 ⟨rfl, hb⟩
    have HB9 := Lib.hid (below_step HB1.out hb); clear hb
    go_wp2_with fail
    go_ret2
    exact ⟨by rw [hR.out]; rfl, HB9.out⟩
  · refine (rdig (max d 0) 1 _ (by omega) (by omega) (by omega)).mono ?_
    rintro e w9 ⟨rfl, hb⟩
    have HB9 := Lib.hid (below_step HB1.out hb); clear hb
    go_wp2_with fail
    go_ret2
    exact ⟨by rw [hR.out]; rfl, HB9.out⟩
  · refine (rdig (max d 0) 2 _ (by omega) (by omega) (by omega)).mono ?_
    rintro e w9 ⟨rfl, hb⟩
    have HB9 := Lib.hid (below_step HB1.out hb); clear hb
    go_wp2_with fail
    go_ret2
    exact ⟨by rw [hR.out]; rfl, HB9.out⟩
  · refine (rdig 0 3 _ (by omega) (by omega) (by omega)).mono ?_
    rintro e w9 ⟨rfl, hb⟩
    have HB9 := Lib.hid (below_step HB1.out hb); clear hb
    go_wp2_with fail
    go_ret2
    exact ⟨by rw [hR.out]; rfl, HB9.out⟩
  · refine (rdig 0 4 _ (by omega) (by omega) (by omega)).mono ?_
    rintro e w9 ⟨rfl, hb⟩
    have HB9 := Lib.hid (below_step HB1.out hb); clear hb
    go_wp2_with fail
    go_ret2
    exact ⟨by rw [hR.out]; rfl, HB9.out⟩
  · refine (rdig 0 2 _ (by omega) (by omega) (by omega)).mono ?_
    rintro e w9 ⟨rfl, hb⟩
    have HB9 := Lib.hid (below_step HB1.out hb); clear hb
    go_wp2_with fail
    go_ret2
    exact ⟨by rw [hR.out]; rfl, HB9.out⟩
  · refine (rdig 0 1 _ (by omega) (by omega) (by omega)).mono ?_
    rintro e w9 ⟨rfl, hb⟩
    have HB9 := Lib.hid (below_step HB1.out hb); clear hb
    go_wp2_with fail
    go_ret2
    exact ⟨by rw [hR.out]; rfl, HB9.out⟩

set_option maxHeartbeats 4000000 in
set_option maxRecDepth 100000 in
theorem rfield_none_ok (s : ByteArray) (y m d : Int) (w : World) (h : Dp.rowOf s.data.toList = none) (hd : Dt.ok y m d) :
    Calls Tryz.prog 18 #[.string s, .agg #[.int .i64 y, .int .i64 m, .int .i64 d]] w fun e w' => e = .returned (.tuple #[.string ⟨(rtext y m d 9).toArray⟩, .bool false]) ∧ Below w.heap.size w w' := by
  obtain ⟨n0, m0⟩ := no_key h [121] (by simp [Dp.keys])
  obtain ⟨n1, m1⟩ := no_key h [121, 121, 121, 121] (by simp [Dp.keys])
  obtain ⟨n2, m2⟩ := no_key h [77] (by simp [Dp.keys])
  obtain ⟨n3, m3⟩ := no_key h [77, 77] (by simp [Dp.keys])
  obtain ⟨n4, m4⟩ := no_key h [100] (by simp [Dp.keys])
  obtain ⟨n5, m5⟩ := no_key h [100, 100] (by simp [Dp.keys])
  obtain ⟨n6, m6⟩ := no_key h [68, 68, 68] (by simp [Dp.keys])
  obtain ⟨n7, m7⟩ := no_key h [89, 89, 89, 89] (by simp [Dp.keys])
  obtain ⟨n8, m8⟩ := no_key h [119, 119] (by simp [Dp.keys])
  obtain ⟨n9, m9⟩ := no_key h [101] (by simp [Dp.keys])
  have hnb := Dt.num_bd y m d hd
  have hkb := Dt.wy_bd y _ hd.1 hd.2.1 hnb.1 hnb.2.1 hnb.2.2.1 hnb.2.2.2
  have b6 := fval_bd y m d hd 6; have b7 := fval_bd y m d hd 7; have b8 := fval_bd y m d hd 8; have b9 := fval_bd y m d hd 9
  have hyd : fval y m d 6 = d + Dt.before y m := by
    show Dt.num y m d - Dt.num y 1 1 + 1 = _
    unfold Dt.num; rw [Dt.before_one]; omega
  have hwk := fun W => rweek_ok y m d W hd
  have hyy := fun W => ryearday_ok y m d W hd
  rw [← hyd] at hyy
  have hwv : weekV (Dt.wy y (Dt.num y m d)) (Dt.num y m d) = .agg #[.int .i64 (fval y m d 7), .int .i64 (fval y m d 8), .int .i64 (fval y m d 9)] := rfl
  rw [hwv] at hwk
  have hy1 := hd.1; have hy2 := hd.2.1; have hm1 := hd.2.2.1; have hm2 := hd.2.2.2.1; have hd1 := hd.2.2.2.2.1
  have hd2 : d ≤ 31 := by have := hd.2.2.2.2.2; have := Dt.dim_bd y m; omega
  have hR : ∀ k, rtext y m d k = padTo (fleast k) (fval y m d k) := fun k => by rw [rtext_ok hd]; rfl
  have r0 : fval y m d 0 = max y 0 := by show y = _; omega
  have r1 : fval y m d 1 = max y 0 := by show y = _; omega
  have r2 : fval y m d 2 = max m 0 := by show m = _; omega
  have r3 : fval y m d 3 = max m 0 := by show m = _; omega
  have r4 : fval y m d 4 = max d 0 := by show d = _; omega
  have r5 : fval y m d 5 = max d 0 := by show d = _; omega
  have q0 : rtext y m d 0 = padTo 1 (max y 0) := by rw [hR, r0]; rfl
  have q1 : rtext y m d 1 = padTo 4 (max y 0) := by rw [hR, r1]; rfl
  have q2 : rtext y m d 2 = padTo 1 (max m 0) := by rw [hR, r2]; rfl
  have q3 : rtext y m d 3 = padTo 2 (max m 0) := by rw [hR, r3]; rfl
  have q4 : rtext y m d 4 = padTo 1 (max d 0) := by rw [hR, r4]; rfl
  have q5 : rtext y m d 5 = padTo 2 (max d 0) := by rw [hR, r5]; rfl
  have q6 : rtext y m d 6 = padTo 3 (fval y m d 6) := by rw [hR]; rfl
  have q7 : rtext y m d 7 = padTo 4 (fval y m d 7) := by rw [hR]; rfl
  have q8 : rtext y m d 8 = padTo 2 (fval y m d 8) := by rw [hR]; rfl
  have q9 : rtext y m d 9 = padTo 1 (fval y m d 9) := by rw [hR]; rfl
  clear r0 r1 r2 r3 r4 r5 hR hyd hwv
  generalize fval y m d 6 = z at b6 hyy q6
  generalize fval y m d 7 = k at b7 hwk q7
  generalize fval y m d 8 = v at b8 hwk q8
  generalize fval y m d 9 = A at b9 hwk q9
  have HF := Lib.hid (fun W => rfault_ok y m d W hd)
  have HWk := Lib.hid hwk; have HYd := Lib.hid hyy
  have Q0 := Lib.hid q0; have Q1 := Lib.hid q1; have Q2 := Lib.hid q2; have Q3 := Lib.hid q3; have Q4 := Lib.hid q4; have Q5 := Lib.hid q5; have Q6 := Lib.hid q6; have Q7 := Lib.hid q7; have Q8 := Lib.hid q8; have Q9 := Lib.hid q9
  obtain ⟨b60, b61⟩ := b6; obtain ⟨b70, b71⟩ := b7; obtain ⟨b80, b81⟩ := b8; obtain ⟨b90, b91⟩ := b9
  clear q0 q1 q2 q3 q4 q5 q6 q7 q8 q9 hwk hyy hnb hkb
  obtain ⟨w0, hw0⟩ : ∃ w0, w0 = (w.alloc (.cells #[.int .i64 y, .int .i64 m, .int .i64 d] 23)).alloc (.cells #[.int .i64 0, .int .i64 0, .int .i64 0] 67) := ⟨_, rfl⟩
  have B0 : Below w.heap.size w w0 := by rw [hw0]; exact ((Below.refl _ _).alloc (Nat.le_refl _) _).alloc (by simp) _
  have A0 : Tre w0 w.heap.size y m d := by rw [hw0]; exact (Tre.made _ _ _ _ _).alloc _
  have E0 : Tre w0 (w.heap.size + 1) 0 0 0 := by rw [hw0]; have := Tre.made (w.alloc (.cells #[.int .i64 y, .int .i64 m, .int .i64 d] 23)) 0 0 0 67; simpa using this
  have G0 : ∀ o, w0.frozen? ⟨w.heap.size + 1, o, none⟩ = false := by
    intro o; rw [hw0]
    have := (w.alloc (.cells #[.int .i64 y, .int .i64 m, .int .i64 d] 23)).heap.size
    simp
  have Z0 : w0.heap.size = w.heap.size + 1 + 1 := by rw [hw0]; simp
  have HB0 := Lib.hid B0; have HA0 := Lib.hid A0; have HE0 := Lib.hid E0; have HG0 := Lib.hid G0; have HZ0 := Lib.hid Z0; have Hw0 := Lib.hid hw0
  clear h hd hw0 B0 A0 E0 G0 Z0
  go_enter Tryz.func18, Tryz.ntmps18
  go_wp2_with fail
  refine (HF.out _).mono ?_
  rintro e w1 ⟨rfl, hb⟩
  rw [← Hw0.out] at hb
  have HB1 := Lib.hid (below_step HB0.out hb)
  have HA1 := Lib.hid (HA0.out.keep hb); have HE1 := Lib.hid (HE0.out.keep hb)
  obtain ⟨a0, a1, a2⟩ := HA1.out
  have g1 : ∀ o, w1.frozen? ⟨w.heap.size + 1, o, none⟩ = false := fun o => by rw [hb.frozen (p := ⟨_, _, none⟩) (by rw [HZ0.out]; simp)]; exact HG0.out o
  have HG1 := Lib.hid g1
  clear hb g1
  go_wp2_with fail
  refine (HWk.out _).mono ?_
  rintro e w2 ⟨rfl, hb⟩
  have HB2 := Lib.hid (below_step HB1.out hb)
  have hlt1 : w.heap.size + 1 < w1.heap.size := cell_lt HE1.out.c0
  obtain ⟨b0, b1, b2⟩ := HA1.out.keep hb
  obtain ⟨e0, e1, e2⟩ := HE1.out.keep hb
  have g0 : w2.frozen? ⟨w.heap.size + 1, 0, none⟩ = false := by rw [hb.frozen (p := ⟨_, _, none⟩) hlt1]; exact HG1.out 0
  have g1 : w2.frozen? ⟨w.heap.size + 1, 1, none⟩ = false := by rw [hb.frozen (p := ⟨_, _, none⟩) hlt1]; exact HG1.out 1
  have g2 : w2.frozen? ⟨w.heap.size + 1, 2, none⟩ = false := by rw [hb.frozen (p := ⟨_, _, none⟩) hlt1]; exact HG1.out 2
  obtain ⟨w3, hw3⟩ : ∃ w3, w3 = ((w2.setCell ⟨w.heap.size + 1, 0, none⟩ (.int .i64 k)).setCell ⟨w.heap.size + 1, 1, none⟩ (.int .i64 v)).setCell ⟨w.heap.size + 1, 2, none⟩ (.int .i64 A) := ⟨_, rfl⟩
  have HB3 : Below w.heap.size w w3 := by rw [hw3]; exact ((HB2.out.setCell (p := ⟨_, 0, none⟩) (by simp) _).setCell (p := ⟨_, 1, none⟩) (by simp) _).setCell (p := ⟨_, 2, none⟩) (by simp) _
  have HA3 : Tre w3 w.heap.size y m d := by rw [hw3]; exact (Tre.mk b0 b1 b2).beside (by omega) k v A
  have HE3 : Tre w3 (w.heap.size + 1) k v A := by rw [hw3]; exact (Tre.mk e0 e1 e2).stored k v A
  have K3 := Lib.hid HB3; have KA3 := Lib.hid HA3; have KE3 := Lib.hid HE3; have Kw3 := Lib.hid hw3
  clear hb HB3 HA3 HE3 hw3 a0 a1 a2
  go_wp2_with fail
  refine (HYd.out _).mono ?_
  rintro e w4 ⟨rfl, hb⟩
  rw [← Kw3.out] at hb
  clear b0 b1 b2 e0 e1 e2 g0 g1 g2
  have HB1 := Lib.hid (below_step K3.out hb)
  obtain ⟨a0, a1, a2⟩ := KA3.out.keep hb
  obtain ⟨e0, e1, e2⟩ := KE3.out.keep hb
  clear hb
  go_wp2_with fail
  refine (rdig A 1 _ (by omega) (by omega) (by omega)).mono ?_
  rintro e w9 ⟨rfl, hb⟩
  have HB9 := Lib.hid (below_step HB1.out hb); clear hb
  go_wp2_with fail
  go_ret2
  exact ⟨by rw [Q9.out]; rfl, HB9.out⟩

set_option maxHeartbeats 4000000 in
set_option maxRecDepth 100000 in
theorem rfield_some_ok (s : ByteArray) (y m d : Int) (j : Nat) (w : World) (h : Dp.rowOf s.data.toList = some j) (hd : Dt.ok y m d) :
    Calls Tryz.prog 18 #[.string s, .agg #[.int .i64 y, .int .i64 m, .int .i64 d]] w fun e w' => e = .returned (.tuple #[.string ⟨(rtext y m d j).toArray⟩, .bool true]) ∧ Below w.heap.size w w' := by
  have hnb := Dt.num_bd y m d hd
  have hkb := Dt.wy_bd y _ hd.1 hd.2.1 hnb.1 hnb.2.1 hnb.2.2.1 hnb.2.2.2
  have b6 := fval_bd y m d hd 6; have b7 := fval_bd y m d hd 7; have b8 := fval_bd y m d hd 8; have b9 := fval_bd y m d hd 9
  have hyd : fval y m d 6 = d + Dt.before y m := by
    show Dt.num y m d - Dt.num y 1 1 + 1 = _
    unfold Dt.num; rw [Dt.before_one]; omega
  have hwk := fun W => rweek_ok y m d W hd
  have hyy := fun W => ryearday_ok y m d W hd
  rw [← hyd] at hyy
  have hwv : weekV (Dt.wy y (Dt.num y m d)) (Dt.num y m d) = .agg #[.int .i64 (fval y m d 7), .int .i64 (fval y m d 8), .int .i64 (fval y m d 9)] := rfl
  rw [hwv] at hwk
  have hy1 := hd.1; have hy2 := hd.2.1; have hm1 := hd.2.2.1; have hm2 := hd.2.2.2.1; have hd1 := hd.2.2.2.2.1
  have hd2 : d ≤ 31 := by have := hd.2.2.2.2.2; have := Dt.dim_bd y m; omega
  have hR : ∀ k, rtext y m d k = padTo (fleast k) (fval y m d k) := fun k => by rw [rtext_ok hd]; rfl
  have r0 : fval y m d 0 = max y 0 := by show y = _; omega
  have r1 : fval y m d 1 = max y 0 := by show y = _; omega
  have r2 : fval y m d 2 = max m 0 := by show m = _; omega
  have r3 : fval y m d 3 = max m 0 := by show m = _; omega
  have r4 : fval y m d 4 = max d 0 := by show d = _; omega
  have r5 : fval y m d 5 = max d 0 := by show d = _; omega
  have q0 : rtext y m d 0 = padTo 1 (max y 0) := by rw [hR, r0]; rfl
  have q1 : rtext y m d 1 = padTo 4 (max y 0) := by rw [hR, r1]; rfl
  have q2 : rtext y m d 2 = padTo 1 (max m 0) := by rw [hR, r2]; rfl
  have q3 : rtext y m d 3 = padTo 2 (max m 0) := by rw [hR, r3]; rfl
  have q4 : rtext y m d 4 = padTo 1 (max d 0) := by rw [hR, r4]; rfl
  have q5 : rtext y m d 5 = padTo 2 (max d 0) := by rw [hR, r5]; rfl
  have q6 : rtext y m d 6 = padTo 3 (fval y m d 6) := by rw [hR]; rfl
  have q7 : rtext y m d 7 = padTo 4 (fval y m d 7) := by rw [hR]; rfl
  have q8 : rtext y m d 8 = padTo 2 (fval y m d 8) := by rw [hR]; rfl
  have q9 : rtext y m d 9 = padTo 1 (fval y m d 9) := by rw [hR]; rfl
  clear r0 r1 r2 r3 r4 r5 hR hyd hwv
  generalize fval y m d 6 = z at b6 hyy q6
  generalize fval y m d 7 = k at b7 hwk q7
  generalize fval y m d 8 = v at b8 hwk q8
  generalize fval y m d 9 = A at b9 hwk q9
  have HF := Lib.hid (fun W => rfault_ok y m d W hd)
  have HWk := Lib.hid hwk; have HYd := Lib.hid hyy
  have Q0 := Lib.hid q0; have Q1 := Lib.hid q1; have Q2 := Lib.hid q2; have Q3 := Lib.hid q3; have Q4 := Lib.hid q4; have Q5 := Lib.hid q5; have Q6 := Lib.hid q6; have Q7 := Lib.hid q7; have Q8 := Lib.hid q8; have Q9 := Lib.hid q9
  obtain ⟨b60, b61⟩ := b6; obtain ⟨b70, b71⟩ := b7; obtain ⟨b80, b81⟩ := b8; obtain ⟨b90, b91⟩ := b9
  clear q0 q1 q2 q3 q4 q5 q6 q7 q8 q9 hwk hyy hnb hkb
  obtain ⟨w0, hw0⟩ : ∃ w0, w0 = (w.alloc (.cells #[.int .i64 y, .int .i64 m, .int .i64 d] 23)).alloc (.cells #[.int .i64 0, .int .i64 0, .int .i64 0] 67) := ⟨_, rfl⟩
  have B0 : Below w.heap.size w w0 := by rw [hw0]; exact ((Below.refl _ _).alloc (Nat.le_refl _) _).alloc (by simp) _
  have A0 : Tre w0 w.heap.size y m d := by rw [hw0]; exact (Tre.made _ _ _ _ _).alloc _
  have E0 : Tre w0 (w.heap.size + 1) 0 0 0 := by rw [hw0]; have := Tre.made (w.alloc (.cells #[.int .i64 y, .int .i64 m, .int .i64 d] 23)) 0 0 0 67; simpa using this
  have G0 : ∀ o, w0.frozen? ⟨w.heap.size + 1, o, none⟩ = false := by
    intro o; rw [hw0]
    have := (w.alloc (.cells #[.int .i64 y, .int .i64 m, .int .i64 d] 23)).heap.size
    simp
  have Z0 : w0.heap.size = w.heap.size + 1 + 1 := by rw [hw0]; simp
  have HB0 := Lib.hid B0; have HA0 := Lib.hid A0; have HE0 := Lib.hid E0; have HG0 := Lib.hid G0; have HZ0 := Lib.hid Z0; have Hw0 := Lib.hid hw0
  have hc := key_cases h
  clear h hd hw0 B0 A0 E0 G0 Z0
  rcases hc with ⟨rfl, rfl⟩ | ⟨rfl, rfl⟩ | ⟨rfl, rfl⟩ | ⟨rfl, rfl⟩ | ⟨rfl, rfl⟩ | ⟨rfl, rfl⟩ | ⟨rfl, rfl⟩ | ⟨rfl, rfl⟩ | ⟨rfl, rfl⟩ | ⟨rfl, rfl⟩
  all_goals
    go_enter Tryz.func18, Tryz.ntmps18
    go_wp2_with fail
    refine (HF.out _).mono ?_
    rintro e w1 ⟨rfl, hb⟩
    rw [← Hw0.out] at hb
    have HB1 := Lib.hid (below_step HB0.out hb)
    have HA1 := Lib.hid (HA0.out.keep hb); have HE1 := Lib.hid (HE0.out.keep hb)
    obtain ⟨a0, a1, a2⟩ := HA1.out
    have g1 : ∀ o, w1.frozen? ⟨w.heap.size + 1, o, none⟩ = false := fun o => by rw [hb.frozen (p := ⟨_, _, none⟩) (by rw [HZ0.out]; simp)]; exact HG0.out o
    have HG1 := Lib.hid g1
    clear hb g1
    go_wp2_with fail
    refine (HWk.out _).mono ?_
    rintro e w2 ⟨rfl, hb⟩
    have HB2 := Lib.hid (below_step HB1.out hb)
    have hlt1 : w.heap.size + 1 < w1.heap.size := cell_lt HE1.out.c0
    obtain ⟨b0, b1, b2⟩ := HA1.out.keep hb
    obtain ⟨e0, e1, e2⟩ := HE1.out.keep hb
    have g0 : w2.frozen? ⟨w.heap.size + 1, 0, none⟩ = false := by rw [hb.frozen (p := ⟨_, _, none⟩) hlt1]; exact HG1.out 0
    have g1 : w2.frozen? ⟨w.heap.size + 1, 1, none⟩ = false := by rw [hb.frozen (p := ⟨_, _, none⟩) hlt1]; exact HG1.out 1
    have g2 : w2.frozen? ⟨w.heap.size + 1, 2, none⟩ = false := by rw [hb.frozen (p := ⟨_, _, none⟩) hlt1]; exact HG1.out 2
    obtain ⟨w3, hw3⟩ : ∃ w3, w3 = ((w2.setCell ⟨w.heap.size + 1, 0, none⟩ (.int .i64 k)).setCell ⟨w.heap.size + 1, 1, none⟩ (.int .i64 v)).setCell ⟨w.heap.size + 1, 2, none⟩ (.int .i64 A) := ⟨_, rfl⟩
    have HB3 : Below w.heap.size w w3 := by rw [hw3]; exact ((HB2.out.setCell (p := ⟨_, 0, none⟩) (by simp) _).setCell (p := ⟨_, 1, none⟩) (by simp) _).setCell (p := ⟨_, 2, none⟩) (by simp) _
    have HA3 : Tre w3 w.heap.size y m d := by rw [hw3]; exact (Tre.mk b0 b1 b2).beside (by omega) k v A
    have HE3 : Tre w3 (w.heap.size + 1) k v A := by rw [hw3]; exact (Tre.mk e0 e1 e2).stored k v A
    have K3 := Lib.hid HB3; have KA3 := Lib.hid HA3; have KE3 := Lib.hid HE3; have Kw3 := Lib.hid hw3
    clear hb HB3 HA3 HE3 hw3 a0 a1 a2
    go_wp2_with fail
    refine (HYd.out _).mono ?_
    rintro e w4 ⟨rfl, hb⟩
    rw [← Kw3.out] at hb
    clear b0 b1 b2 e0 e1 e2 g0 g1 g2
    have HB1 := Lib.hid (below_step K3.out hb)
    obtain ⟨a0, a1, a2⟩ := KA3.out.keep hb
    obtain ⟨e0, e1, e2⟩ := KE3.out.keep hb
    clear hb
    go_wp2_with fail
  · refine (rdig (max y 0) 1 _ (by omega) (by omega) (by omega)).mono ?_
    rintro e w9 ⟨rfl, hb⟩
    have HB9 := Lib.hid (below_step HB1.out hb); clear hb
    go_wp2_with fail
    go_ret2
    exact ⟨by rw [Q0.out]; rfl, HB9.out⟩
  · refine (rdig (max y 0) 4 _ (by omega) (by omega) (by omega)).mono ?_
    rintro e w9 ⟨rfl, hb⟩
    have HB9 := Lib.hid (below_step HB1.out hb); clear hb
    go_wp2_with fail
    go_ret2
    exact ⟨by rw [Q1.out]; rfl, HB9.out⟩
  · refine (rdig (max m 0) 1 _ (by omega) (by omega) (by omega)).mono ?_
    rintro e w9 ⟨rfl, hb⟩
    have HB9 := Lib.hid (below_step HB1.out hb); clear hb
    go_wp2_with fail
    go_ret2
    exact ⟨by rw [Q2.out]; rfl, HB9.out⟩
  · refine (rdig (max m 0) 2 _ (by omega) (by omega) (by omega)).mono ?_
    rintro e w9 ⟨rfl, hb⟩
    have HB9 := Lib.hid (below_step HB1.out hb); clear hb
    go_wp2_with fail
    go_ret2
    exact ⟨by rw [Q3.out]; rfl, HB9.out⟩
  · refine (rdig (max d 0) 1 _ (by omega) (by omega) (by omega)).mono ?_
    rintro e w9 ⟨rfl, hb⟩
    have HB9 := Lib.hid (below_step HB1.out hb); clear hb
    go_wp2_with fail
    go_ret2
    exact ⟨by rw [Q4.out]; rfl, HB9.out⟩
  · refine (rdig (max d 0) 2 _ (by omega) (by omega) (by omega)).mono ?_
    rintro e w9 ⟨rfl, hb⟩
    have HB9 := Lib.hid (below_step HB1.out hb); clear hb
    go_wp2_with fail
    go_ret2
    exact ⟨by rw [Q5.out]; rfl, HB9.out⟩
  · refine (rdig z 3 _ (by omega) (by omega) (by omega)).mono ?_
    rintro e w9 ⟨rfl, hb⟩
    have HB9 := Lib.hid (below_step HB1.out hb); clear hb
    go_wp2_with fail
    go_ret2
    exact ⟨by rw [Q6.out]; rfl, HB9.out⟩
  · refine (rdig k 4 _ (by omega) (by omega) (by omega)).mono ?_
    rintro e w9 ⟨rfl, hb⟩
    have HB9 := Lib.hid (below_step HB1.out hb); clear hb
    go_wp2_with fail
    go_ret2
    exact ⟨by rw [Q7.out]; rfl, HB9.out⟩
  · refine (rdig v 2 _ (by omega) (by omega) (by omega)).mono ?_
    rintro e w9 ⟨rfl, hb⟩
    have HB9 := Lib.hid (below_step HB1.out hb); clear hb
    go_wp2_with fail
    go_ret2
    exact ⟨by rw [Q8.out]; rfl, HB9.out⟩
  · refine (rdig A 1 _ (by omega) (by omega) (by omega)).mono ?_
    rintro e w9 ⟨rfl, hb⟩
    have HB9 := Lib.hid (below_step HB1.out hb); clear hb
    go_wp2_with fail
    go_ret2
    exact ⟨by rw [Q9.out]; rfl, HB9.out⟩

theorem rfield_some (s : ByteArray) (y m d : Int) (j : Nat) (w : World) (hy : y ≤ 9223372036854775807) (hm : m ≤ 9223372036854775807) (hdd : d ≤ 9223372036854775807) (h : Dp.rowOf s.data.toList = some j) :
    Calls Tryz.prog 18 #[.string s, .agg #[.int .i64 y, .int .i64 m, .int .i64 d]] w fun e w' => e = .returned (.tuple #[.string ⟨(rtext y m d j).toArray⟩, .bool true]) ∧ Below w.heap.size w w' := by
  by_cases hd : Dt.ok y m d
  · exact rfield_some_ok s y m d j w h hd
  · exact rfield_some_bad s y m d j w hy hm hdd h hd
theorem rfield_none (s : ByteArray) (y m d : Int) (w : World) (h : Dp.rowOf s.data.toList = none) :
    Calls Tryz.prog 18 #[.string s, .agg #[.int .i64 y, .int .i64 m, .int .i64 d]] w fun e w' => e = .returned (.tuple #[.string ⟨(rtext y m d 9).toArray⟩, .bool false]) ∧ Below w.heap.size w w' := by
  by_cases hd : Dt.ok y m d
  · exact rfield_none_ok s y m d w h hd
  · exact rfield_none_bad s y m d w h hd
end Go.Proofs.YtmaccmhpcagcnaaGreatDoor
