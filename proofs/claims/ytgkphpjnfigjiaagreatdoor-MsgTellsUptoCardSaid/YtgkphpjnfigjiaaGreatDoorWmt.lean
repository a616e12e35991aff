/-
  The walk of the law MsgTells: it answers true.
-/
import Derived.Test.YtgkphpjnfigjiaaGreatDoorRnod
import Derived.Test.YtgkphpjnfigjiaaGreatDoorRtext
import Derived.Test.YtgkphpjnfigjiaaGreatDoorRead
namespace Go.Proofs.YtgkphpjnfigjiaaGreatDoor
open Go.RowKit Ms

theorem error_is (k : Int) (w : World) (hg : ErrTypeAt w) :
    Calls Tryz.prog 14 #[errVal k, .int .i64 k] w fun r w' => r = .returned (.bool true) ∧ Below w.heap.size w w' := by
  by_cases hk : k = 0
  · subst hk
    exact (error_nil 0 w).mono fun _ _ h => ⟨h.1, h.2 ▸ Below.refl _ _⟩
  · rw [errVal_no hk]
    exact (error_no k k w hg).mono fun _ _ h => ⟨by rw [h.1]; simp, h.2⟩
theorem tree_good (s : List UInt8) : isN (parseTree s) = true ∧ wt (parseTree s) ≤ 2100000 := by
  unfold parseTree
  split
  · exact ⟨rfl, by decide⟩
  · rename_i hl
    cases hp : parse s with
    | none => exact ⟨rfl, by decide⟩
    | some t =>
      obtain ⟨h1, _, h3, _⟩ := parse_good hp
      exact ⟨h1, by show wt t ≤ _; omega⟩
set_option maxHeartbeats 4000000 in
set_option maxRecDepth 100000 in
theorem msgTells_walk (tm : T) (v1 : Value) (S : ByteArray) (w : World) (hn : isN tm = true) (hw : wt tm ≤ 1100000) (hs : S.size ≤ 1100000) (hm : MW w) (hM : MaxAt w) (hg : ErrTypeAt w) (s1 : SV w v1 tm) :
    Calls Tryz.prog 5 #[v1, .string S] w fun e w' => e = .returned (.bool true) ∧ Below w.heap.size w w' := by
  have h0 : 0 < w.heap.size := Nat.lt_of_le_of_lt (Nat.zero_le _) hg.lt
  have HR := Lib.hid (read_any w hm)
  have HMf := Lib.hid (fun W (hB : Below w.heap.size w W) => mfault_any tm v1 W hn (by omega) (s1.below hB))
  have HCk := Lib.hid (fun W (hB : Below w.heap.size w W) => mcheck_any tm v1 W hn (by omega) (hm.below hB) (s1.below hB))
  have HTx := Lib.hid (fun W (hB : Below w.heap.size w W) => mtext_any tm v1 W hn (by omega) (hm.below hB) (MaxAt.below hM rfl hB) (s1.below hB))
  have HEr := Lib.hid (fun (k : Int) W (hB : Below w.heap.size w W) => error_is k W (hg.below hB))
  have HRt := Lib.hid (fun (hf : fault tm = 0) W (hB : Below w.heap.size w W) => rtext_any (sz tm + 1) tm v1 false false W (Nat.lt_succ_self _) hn (by omega) (s1.below hB) (fault_0 hf).1)
  have HMo := Lib.hid (fun W (hB : Below w.heap.size w W) => msgOf_any S W (Nat.lt_of_lt_of_le h0 hB.size))
  have HPa := Lib.hid (fun W (hB : Below w.heap.size w W) => show Calls Tryz.prog 9 #[.string S] W (ParseOut S.data.toList W) from by
    have h := parse_any S.data.toList W (by rw [← Lib.size_eq]; omega) (hm.below hB)
    rw [strOf_ext] at h; exact h)
  have hgd := tree_good S.data.toList
  have HSm := Lib.hid (fun (v v' : Value) W (h5 : SV W v (parseTree S.data.toList)) (h6 : SV W v' (parseTree S.data.toList)) => same_of _ _ v v' W hgd.1 hgd.1 hgd.2 hgd.2 h5 h6)
  obtain ⟨a1, n1, c1, rfl⟩ := s1.form
  clear hgd hs hm hM hg h0 s1 hn hw
  by_cases hf : fault tm = 0
  · have HRt0 := Lib.hid (HRt.out hf)
    rw [hf] at HMf HCk HTx
    simp only [if_true] at HTx
    clear HRt
    obtain ⟨X, hX⟩ : ∃ X, X = txt tm false := ⟨_, rfl⟩
    rw [← hX] at HTx HRt0
    clear hX
    go_enter Tryz.func5, Tryz.ntmps5
    go_wp2_with fail
    refine HR.out.mono ?_
    rintro e w1 ⟨rfl, hb1⟩
    have HB1 := Lib.hid hb1; clear hb1
    go_wp2_with fail
    refine (HMf.out w1 HB1.out).mono ?_
    rintro e w2 ⟨rfl, hb2⟩
    have HB2 := Lib.hid (HB1.out.trans (hb2.mono HB1.out.size)); clear hb2
    go_wp2_with fail
    refine (HCk.out w2 HB2.out).mono ?_
    rintro e w3 ⟨rfl, hb3⟩
    have HB3 := Lib.hid (HB2.out.trans (hb3.mono HB2.out.size)); clear hb3
    go_wp2_with fail
    refine (HEr.out 0 w3 HB3.out).mono ?_
    rintro e w4 ⟨rfl, hb4⟩
    have HB4 := Lib.hid (HB3.out.trans (hb4.mono HB3.out.size)); clear hb4
    go_wp2_with fail
    refine (HRt0.out w4 HB4.out).mono ?_
    rintro e w5 ⟨rfl, hb5⟩
    have HB5 := Lib.hid (HB4.out.trans (hb5.mono HB4.out.size)); clear hb5
    go_wp2_with fail
    refine (HTx.out w5 HB5.out).mono ?_
    rintro e w6 ⟨rfl, hb6⟩
    have HB6 := Lib.hid (HB5.out.trans (hb6.mono HB5.out.size)); clear hb6
    go_wp2_with fail
    refine (HEr.out 0 w6 HB6.out).mono ?_
    rintro e w7 ⟨rfl, hb7⟩
    have HB7 := Lib.hid (HB6.out.trans (hb7.mono HB6.out.size)); clear hb7
    go_wp2_with fail
    refine (HMo.out w7 HB7.out).mono ?_
    rintro e w8 ⟨⟨v8, rfl, hv8⟩, hb8⟩
    obtain ⟨a8, n8, c8, rfl⟩ := hv8.form
    have HB8 := Lib.hid (HB7.out.trans (hb8.mono HB7.out.size)); have HV8 := Lib.hid hv8; clear hb8 hv8
    go_wp2_with fail
    refine (HPa.out w8 HB8.out).mono ?_
    rintro e w9 ⟨⟨v9, rfl, hv9⟩, hb9⟩
    obtain ⟨a9, n9, c9, rfl⟩ := hv9.form
    have HB9 := Lib.hid (HB8.out.trans (hb9.mono HB8.out.size)); have HV9 := Lib.hid hv9.sv; have HU9 := Lib.hid (HV8.out.below hb9); clear hb9 hv9
    go_wp2_with fail
    refine (HEr.out (parseErr S.data.toList) w9 HB9.out).mono ?_
    rintro e w10 ⟨rfl, hb10⟩
    have HB10 := Lib.hid (HB9.out.trans (hb10.mono HB9.out.size)); have HV10 := Lib.hid (HV9.out.below hb10); have HU10 := Lib.hid (HU9.out.below hb10); clear hb10
    go_wp2_with fail
    have hsm := HSm.out _ _ w10 HV10.out HU10.out
    rw [sameT_refl] at hsm
    refine hsm.mono ?_
    rintro e w11 ⟨rfl, hb11⟩
    have HB11 := Lib.hid (HB10.out.trans (hb11.mono HB10.out.size)); clear hb11 hsm
    go_wp2_with fail
    go_ret
    exact ⟨by simp, HB11.out⟩
  · rw [if_neg hf] at HTx
    generalize fault tm = q at *
    have hq : (q == 0) = false := beq_eq_false_iff_ne.2 hf
    clear HRt hf
    go_enter Tryz.func5, Tryz.ntmps5
    go_wp2_with fail
    refine HR.out.mono ?_
    rintro e w1 ⟨rfl, hb1⟩
    have HB1 := Lib.hid hb1; clear hb1
    go_wp2_with fail
    refine (HMf.out w1 HB1.out).mono ?_
    rintro e w2 ⟨rfl, hb2⟩
    have HB2 := Lib.hid (HB1.out.trans (hb2.mono HB1.out.size)); clear hb2
    go_wp2_with fail
    refine (HCk.out w2 HB2.out).mono ?_
    rintro e w3 ⟨rfl, hb3⟩
    have HB3 := Lib.hid (HB2.out.trans (hb3.mono HB2.out.size)); clear hb3
    go_wp2_with fail
    refine (HEr.out q w3 HB3.out).mono ?_
    rintro e w4 ⟨rfl, hb4⟩
    have HB4 := Lib.hid (HB3.out.trans (hb4.mono HB3.out.size)); clear hb4
    go_wp2_with fail
    have HB5 := HB4
    generalize w4 = w5 at *
    refine (HTx.out w5 HB5.out).mono ?_
    rintro e w6 ⟨rfl, hb6⟩
    have HB6 := Lib.hid (HB5.out.trans (hb6.mono HB5.out.size)); clear hb6
    go_wp2_with fail
    refine (HEr.out q w6 HB6.out).mono ?_
    rintro e w7 ⟨rfl, hb7⟩
    have HB7 := Lib.hid (HB6.out.trans (hb7.mono HB6.out.size)); clear hb7
    go_wp2_with fail
    refine (HMo.out w7 HB7.out).mono ?_
    rintro e w8 ⟨⟨v8, rfl, hv8⟩, hb8⟩
    obtain ⟨a8, n8, c8, rfl⟩ := hv8.form
    have HB8 := Lib.hid (HB7.out.trans (hb8.mono HB7.out.size)); have HV8 := Lib.hid hv8; clear hb8 hv8
    go_wp2_with fail
    refine (HPa.out w8 HB8.out).mono ?_
    rintro e w9 ⟨⟨v9, rfl, hv9⟩, hb9⟩
    obtain ⟨a9, n9, c9, rfl⟩ := hv9.form
    have HB9 := Lib.hid (HB8.out.trans (hb9.mono HB8.out.size)); have HV9 := Lib.hid hv9.sv; have HU9 := Lib.hid (HV8.out.below hb9); clear hb9 hv9
    go_wp2_with fail
    refine (HEr.out (parseErr S.data.toList) w9 HB9.out).mono ?_
    rintro e w10 ⟨rfl, hb10⟩
    have HB10 := Lib.hid (HB9.out.trans (hb10.mono HB9.out.size)); have HV10 := Lib.hid (HV9.out.below hb10); have HU10 := Lib.hid (HU9.out.below hb10); clear hb10
    go_wp2_with fail
    have hsm := HSm.out _ _ w10 HV10.out HU10.out
    rw [sameT_refl] at hsm
    refine hsm.mono ?_
    rintro e w11 ⟨rfl, hb11⟩
    have HB11 := Lib.hid (HB10.out.trans (hb11.mono HB10.out.size)); clear hb11 hsm
    go_wp2_with fail
    go_ret
    exact ⟨by simp, HB11.out⟩
end Go.Proofs.YtgkphpjnfigjiaaGreatDoor
