/-
  dec.Text.
-/
import Derived.Test.YtnefcilopgcdpaaGreatDoorDecB
import Derived.Test.YtnefcilopgcdpaaGreatDoorLex
import Derived.Test.YtnefcilopgcdpaaGreatDoorKey
import Derived.Lib.ItoaLen
import Derived.Laws.Concat
import Derived.Test.YtnefcilopgcdpaaGreatDoorSpl
namespace Go.Proofs.YtnefcilopgcdpaaGreatDoor
open Go.RowKit Ms

theorem repeat_zeros (n : Nat) : Lib.repeatL [48] n = zeros n := by
  induction n with
  | zero => rfl
  | succ n ih => simp [Lib.repeatL, zeros, List.replicate_succ, ih]
theorem absT_len (c : Int) (h0 : -9223372036854775808 ≤ c) (h1 : c ≤ 9223372036854775807) : (absT c).length ≤ 21 := by
  unfold absT Lib.trimPrefix
  have := Lib.itoa_length_le c h0 h1
  split
  · rw [List.length_drop]; omega
  · exact this
theorem padT_len (c : Int) (s : Nat) : (padT ⟨c, s⟩).length = max (absT c).length (s + 1) := by
  unfold padT zeros
  simp only [List.length_append, List.length_replicate]
  omega
set_option maxRecDepth 100000 in
set_option maxHeartbeats 2000000 in
theorem dtext_any (c : Int) (s : Nat) (w : World) (hs : s ≤ 9) (h0 : -9223372036854775808 ≤ c) (h1 : c ≤ 9223372036854775807) (hm : MW w) :
    Calls Tryz.prog 45 #[dcV ⟨c, s⟩] w fun e w' => e = .returned (.string ⟨(textD ⟨c, s⟩).toArray⟩) ∧ Below w.heap.size w w' := by
  obtain ⟨T, hT⟩ : ∃ T, T = textD ⟨c, s⟩ := ⟨_, rfl⟩
  rw [← hT]
  obtain ⟨A, hA⟩ : ∃ A, A = absT c := ⟨_, rfl⟩
  obtain ⟨sg, hsg⟩ : ∃ sg, sg = signT c := ⟨_, rfl⟩
  have hsl : sg.length ≤ 1 := by rw [hsg]; unfold signT; split <;> simp
  have hAl : A.length ≤ 21 := by rw [hA]; exact absT_len c h0 h1
  have hAe : (⟨(Lib.trimPrefix (Lib.itoa c) [45]).toArray⟩ : ByteArray) = ⟨A.toArray⟩ := by rw [hA]; rfl
  have hP : padT ⟨c, s⟩ = zeros (s + 1 - A.length) ++ A := by
    unfold padT; rw [← hA]; simp only
    rw [show ((s : Int) + 1 - (A.length : Int)).toNat = s + 1 - A.length by omega]
  have hTe : T = if s = 0 then sg ++ A else sg ++ (zeros (s + 1 - A.length) ++ A).take (s + 1 - A.length + A.length - s) ++ [46] ++ (zeros (s + 1 - A.length) ++ A).drop (s + 1 - A.length + A.length - s) := by
    rw [hT]; unfold textD
    rw [← hA, ← hsg, hP]
    by_cases h : s = 0
    · rw [if_pos h, if_pos (by simp only; omega)]
    · rw [if_neg h, if_neg (by simp only; omega)]
      have e : (((zeros (s + 1 - A.length) ++ A).length : Int) - (s : Int)).toNat = s + 1 - A.length + A.length - s := by
        simp only [List.length_append, zeros, List.length_replicate]; omega
      rw [e]
  have HI := Lib.hid (fun w hp => Tryz.itoa c h0 h1 w hp)
  have HM := Lib.hid hm
  have HTP := Lib.hid (show ∀ w, Calls Tryz.prog 70 #[.string ⟨(Lib.itoa c).toArray⟩, .string ⟨#[45]⟩] w fun e w' => e = .returned (.string ⟨A.toArray⟩) ∧ w = w' from fun w => (Tryz.strings_TrimPrefix ⟨(Lib.itoa c).toArray⟩ ⟨#[45]⟩ w).mono (by
    rintro e w' ⟨rfl, rfl⟩
    exact ⟨by rw [← hAe], rfl⟩))
  have HT := Lib.hid hTe
  have HSg := Lib.hid hsg
  clear hm hAe hTe hT hA hP hsg
  obtain ⟨q1, q2, q3, q4⟩ := two_boxes w (.cells #[.int .i64 c, .int .i64 s] 51) (.cells #[.int .i64 c, .int .i64 s] 51)
  clear q1 q2 q3 q4
  have K0 := Lib.hid (Go.heap_alloc_new w (.cells #[.int .i64 c, .int .i64 s] 51))
  have KB := Lib.hid ((Below.refl w.heap.size w).alloc (Nat.le_refl _) (.cells #[.int .i64 c, .int .i64 s] 51))
  unfold dcV
  go_enter Tryz.func45, Tryz.ntmps45
  go_upto_if 8 with fail
  have hz : (w.alloc (.cells #[.int .i64 c, .int .i64 s] 51)).heap.size = w.heap.size + 1 := by simp
  obtain ⟨bb, hbb⟩ : ∃ bb, bb = decide (c < 0) := ⟨_, rfl⟩
  rw [← hbb]
  have HBB := Lib.hid hbb; clear hbb
  generalize w.alloc (.cells #[.int .i64 c, .int .i64 s] 51) = w1 at *
  go_cut [3] from 9 (fun vs wx => vs = .string ⟨sg.toArray⟩ ∧ w1 = wx)
  case first =>
    cases bb with
    | true =>
      go_wp2_with fail
      go_meet
      case rel => exact ⟨by rw [HSg.out]; unfold signT; rw [if_pos (by simpa using HBB.out.symm)], rfl⟩
    | false =>
      go_wp2_with fail
      go_meet
      case rel => exact ⟨by rw [HSg.out]; unfold signT; rw [if_neg (by simpa using HBB.out.symm)], rfl⟩
  case rest =>
    obtain ⟨rfl, rfl⟩ := hcut
    have y0 := block_cell (i := 0) K0.out rfl
    have y1 := block_cell (i := 1) K0.out rfl
    go_wp2_with fail
    refine (HI.out _ (HM.out.below (KB.out)).pow).mono ?_
    rintro e w2 ⟨rfl, hb⟩
    have K2 := Lib.hid ((hb.block _ (by omega)).trans K0.out)
    have KB2 := Lib.hid (KB.out.trans (hb.mono (by omega)))
    have hz2 : w.heap.size + 1 ≤ w2.heap.size := by have := hb.size; omega
    clear hb y0 y1 K0 KB hz HI HBB HSg
    go_wp2_with fail
    refine (HTP.out _).mono ?_
    rintro e w3 ⟨rfl, rfl⟩
    have y0 := block_cell (i := 0) K2.out rfl
    have y1 := block_cell (i := 1) K2.out rfl
    have hAs : (⟨A.toArray⟩ : ByteArray).size = A.length := by have := Lib.size_eq (⟨A.toArray⟩ : ByteArray); simpa using this
    by_cases hs0 : s = 0
    · subst hs0
      have y1' : w2.cell? ⟨w.heap.size, 1, none⟩ = some (.int .i64 0) := y1
      clear y1
      go_wp2_with fail
      go_ret
      refine ⟨?_, KB2.out⟩
      rw [HT.out, if_pos trivial]
      exact congrArg (fun b => Ending.returned (.string b)) (by apply ByteArray.ext; simp)
    · have hs1 : 0 < s := by omega
      obtain ⟨m, hm⟩ : ∃ m, m = s + 1 - A.length := ⟨_, rfl⟩
      have hmi : max (0 : Int) ((s : Int) + 1 - A.length) = m := by omega
      have HRp := Lib.hid (fun w => Tryz.strings_Repeat ⟨#[48]⟩ m w (by omega) (by show 1 * m ≤ _; omega))
      have HMI := Lib.hid hmi
      rw [← hm, if_neg hs0] at HT
      have hm9 : m ≤ 10 := by omega
      have hms : s + 1 ≤ m + A.length := by omega
      clear hmi hm
      go_wp2_with fail
      rw [HMI.out]
      refine (HRp.out _).mono ?_
      rintro e w3 ⟨rfl, hb⟩
      rw [repeat_zeros]
      obtain ⟨Z, hZ⟩ : ∃ Z, Z = zeros m := ⟨_, rfl⟩
      have hZl : Z.length = m := by rw [hZ]; simp [zeros]
      rw [← hZ] at HT ⊢
      have hZ9 : Z.length ≤ 10 := by omega
      clear hZ
      have y0' := (hb.cell (p := ⟨w.heap.size, 0, none⟩) (by show w.heap.size < w2.heap.size; omega)).trans y0
      have y1' := (hb.cell (p := ⟨w.heap.size, 1, none⟩) (by show w.heap.size < w2.heap.size; omega)).trans y1
      have KB3 := Lib.hid (KB2.out.trans (hb.mono (by omega)))
      clear hb y0 y1 HRp HMI K2 KB2
      have hcat : (⟨Z.toArray⟩ : ByteArray) ++ ⟨A.toArray⟩ = ⟨(Z ++ A).toArray⟩ := by
        apply ByteArray.ext; simp
      obtain ⟨P, hP⟩ : ∃ P, P = Z ++ A := ⟨_, rfl⟩
      have hPl : P.length = m + A.length := by rw [hP]; simp [hZl]
      have hPs : (⟨P.toArray⟩ : ByteArray).size = P.length := by have := Lib.size_eq (⟨P.toArray⟩ : ByteArray); simpa using this
      rw [← hP] at hcat HT
      obtain ⟨k, hk⟩ : ∃ k, k = m + A.length - s := ⟨_, rfl⟩
      rw [← hk] at HT
      have hki : (P.length : Int) - s = k := by omega
      clear hP
      have HK := Lib.hid hki; have HZl := Lib.hid hZl; have HPl := Lib.hid hPl
      have hPl9 : P.length ≤ 40 := by omega
      have hk9 : k ≤ P.length := by omega
      clear hZl hPl
      have HKe := Lib.hid hk
      clear hki hk
      go_upto_region 9 with fail
      rw [HK.out]
      obtain ⟨U, hU⟩ : ∃ U, U = P.take k := ⟨_, rfl⟩
      obtain ⟨V, hV⟩ : ∃ V, V = P.drop k := ⟨_, rfl⟩
      have hUl : U.length ≤ 40 := by rw [hU, List.length_take]; omega
      have hVl : V.length ≤ 40 := by rw [hV, List.length_drop]; omega
      rw [← hU, ← hV] at HT
      have hs1 : ∀ wx, (Instr.slice 9 (.string ⟨P.toArray⟩) none (some (.int .i64 (k : Int))) none).run Tryz.prog wx = .ok (.string ⟨U.toArray⟩) wx := fun wx => by
        rw [run_slice_string_h wx 9 ⟨P.toArray⟩ rfl .i64 k (by omega) (by rw [hPs]; omega)]
        rw [show (k : Int).toNat = k from rfl, extract_take, hU]
      have hs2 : ∀ wx, (Instr.slice 9 (.string ⟨P.toArray⟩) (some (.int .i64 (k : Int))) none none).run Tryz.prog wx = .ok (.string ⟨V.toArray⟩) wx := fun wx => by
        rw [run_slice_string_l wx 9 ⟨P.toArray⟩ rfl .i64 k (by omega) (by rw [hPs]; omega)]
        rw [show (k : Int).toNat = k from rfl, extract_drop, hV]
      clear hU hV hcat
      go_quiet (fail)
      go_wp2_with fail
      go_ret
      refine ⟨?_, belowN KB3.out _⟩
      rw [HT.out]
      exact congrArg (fun b => Ending.returned (.string b)) (by apply ByteArray.ext; simp)
end Go.Proofs.YtnefcilopgcdpaaGreatDoor
