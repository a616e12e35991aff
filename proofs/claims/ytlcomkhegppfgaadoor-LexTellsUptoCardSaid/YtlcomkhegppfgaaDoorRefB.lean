/-
  The walk of the reference BareOf: it computes the plain law's bare.
-/
import Derived.Test.YtlcomkhegppfgaaDoorRefA
namespace Go.Proofs.YtlcomkhegppfgaaDoor
open Go.Shelf Go.RowKit Go.Lib

/-- what the reference BareOf hands back -/
def bareOfOut : Option (List UInt8 × Nat) → Value
  | none => .tuple #[.string ⟨#[]⟩, .int .i64 (-1)]
  | some (t, n) => .tuple #[.string ⟨t.toArray⟩, .int .i64 n]
theorem ext_one (s : ByteArray) (i : Nat) (hi : i < s.size) : (s.extract i (i + 1)).data.toList = [s[i]] := by
  rw [Lib.extract_data, Nat.add_sub_cancel_left, Lx.drop_cons (Lib.data_getElem? s i hi)]
  rfl
theorem app_one (O s : ByteArray) (i : Nat) (hi : i < s.size) : (O ++ s.extract i (i + 1)).data.toList = O.data.toList ++ [s[i]] := by
  have : (O ++ s.extract i (i + 1)).data.toList = O.data.toList ++ (s.extract i (i + 1)).data.toList := by simp
  rw [this, ext_one s i hi]
theorem app_size (O s : ByteArray) (i : Nat) (hi : i < s.size) : (O ++ s.extract i (i + 1)).size = O.size + 1 := by
  rw [Lib.size_eq, app_one O s i hi, List.length_append, ← Lib.size_eq]; rfl

set_option maxHeartbeats 1000000 in
set_option maxRecDepth 100000 in
theorem bareOf_any (s : ByteArray) (m : Bool) (w : World) (hs : s.size ≤ 1000000000) :
    Calls Tryd.prog 5 #[.string s, .bool m] w fun e w' => e = .returned (bareOfOut (Lx.bare m s.data.toList)) ∧ w' = w := by
  go_enter Tryd.func5, Tryd.ntmps5
  go_wp2_with fail
  go_loop [6, 7] (fun o v => ∃ (i : Nat) (O : ByteArray), o = .string O ∧ v = .int .i64 i ∧ i ≤ s.size ∧ O.size ≤ i ∧ Hid (Lx.add O.data.toList i (Lx.az m false (s.data.toList.drop i)) = Lx.bare m s.data.toList)) (fun _ v => s.size - (RowKit.intOf v).toNat)
  case atStart =>
    refine ⟨0, ⟨#[]⟩, rfl, rfl, by omega, by simp [ByteArray.size], ?_⟩
    show Lx.add [] 0 _ = _
    rw [Lx.add_nil]; rfl
  case round =>
    obtain ⟨i, O, rfl, rfl, hi2, hO, HQ⟩ := hrel
    have Hl := Lib.hid (Lib.size_eq s).symm
    by_cases hi : i < s.size
    · have hd : decide ((i : Int) < (s.size : Int)) = true := decide_eq_true (by omega)
      have hxl := Lib.data_getElem? s i hi
      cases hsg : Lx.sg m s[i]
      · have hpc : ∀ W, Calls Tryd.prog 11 #[.string (s.extract i s.size), .string ⟨#[39, 39]⟩] W fun e w' => e = .returned (.bool (Lib.hasPrefix (s.data.toList.drop i) [39, 39])) ∧ w' = W := fun W =>
          (starts_any _ _ W).mono fun _ _ h => ⟨by rw [h.1, Lib.extract_to_end], h.2⟩
        cases hpp : Lib.hasPrefix (s.data.toList.drop i) [39, 39]
        · rw [hpp] at hpc
          have HPC := Lib.hid hpc; clear hpc
          have hnp : s[i] = 39 → s.data.toList[i + 1]? ≠ some 39 := fun h39 h => by
            rw [h39] at hxl
            rw [hasPrefix_two.2 ⟨hxl, h⟩] at hpp; cases hpp
          have Hnp := Lib.hid hnp; have Hxl := Lib.hid hxl; have Hsg := Lib.hid hsg
          clear hpp hnp hxl hsg
          by_cases hx : s[i] = 39
          · have hx1 : ((s[i].toNat : Int) == 39) = true := by rw [hx]; rfl
            have Hx := Lib.hid hx; clear hx
            by_cases hi3 : i + 1 < s.size
            · have hd3 : decide ((i : Int) + 1 < (s.size : Int)) = true := decide_eq_true (by omega)
              cases hsg2 : Lx.sg m s[i + 1]
              · have hst := Lx.az_at_plain (m := m) Hxl.out Hsg.out Hnp.out (fun _ d hd => by
                  rw [Lib.data_getElem? s (i + 1) hi3] at hd
                  rw [← Option.some.inj hd]; exact hsg2)
                have Hst := Lib.hid hst; have Hsg2 := Lib.hid hsg2; clear hst hsg2
                go_wp2_with fail
                refine (sign_any s[i] m _).mono ?_
                rintro e w1 ⟨rfl, rfl⟩
                rw [Hsg.out]
                go_wp2_with fail
                refine (HPC.out _).mono ?_
                rintro e w2 ⟨rfl, rfl⟩
                go_wp2_with fail
                refine (sign_any s[i + 1] m _).mono ?_
                rintro e w3 ⟨rfl, rfl⟩
                rw [Hsg2.out]
                go_wp2_with fail
                go_round
                case rel =>
                  refine ⟨i + 1, O ++ s.extract i (i + 1), rfl, by go_num, by omega, by rw [app_size O s i hi]; omega, ?_⟩
                  have h := HQ.out
                  rw [Hst.out, Lx.add_add] at h
                  rw [app_one O s i hi]; exact h
                case measure => simp [RowKit.intOf]; omega
              · have hst := Lx.az_at_quote (m := m) (l := s.data.toList) (i := i) (by rw [Hxl.out, Hx.out]) (Lib.data_getElem? s (i + 1) hi3) hsg2
                have Hst := Lib.hid hst; have Hsg2 := Lib.hid hsg2; clear hst hsg2
                go_wp2_with fail
                refine (sign_any s[i] m _).mono ?_
                rintro e w1 ⟨rfl, rfl⟩
                rw [Hsg.out]
                go_wp2_with fail
                refine (HPC.out _).mono ?_
                rintro e w2 ⟨rfl, rfl⟩
                go_wp2_with fail
                refine (sign_any s[i + 1] m _).mono ?_
                rintro e w3 ⟨rfl, rfl⟩
                rw [Hsg2.out]
                go_wp2_with fail
                clear hd hd3
                go_loop [6, 7] (fun o v => ∃ (j : Nat) (X : ByteArray) (x : List UInt8), o = .string X ∧ v = .int .i64 j ∧ i + 1 ≤ j ∧ j ≤ s.size ∧ X.size ≤ j ∧ Hid (X.data.toList = O.data.toList ++ x) ∧ Hid (Lx.add x (j - (i + 1)) (Lx.iq (s.data.toList.drop j)) = Lx.iq (s.data.toList.drop (i + 1)))) (fun _ v => s.size - (RowKit.intOf v).toNat)
                case atStart =>
                  refine ⟨i + 1, O, [], rfl, by go_num, by omega, by omega, by omega, ?_, ?_⟩
                  · show _ = _; simp
                  · show Lx.add [] (i + 1 - (i + 1)) _ = _; rw [Nat.sub_self, Lx.add_nil]
                case round =>
                  obtain ⟨j, X, x, rfl, rfl, hj1, hj2, hX, HX, HI⟩ := hrel
                  by_cases hj : j < s.size
                  · have hdj : decide ((j : Int) < (s.size : Int)) = true := decide_eq_true (by omega)
                    have hyl := Lib.data_getElem? s j hj
                    by_cases hy : s[j] = 39
                    · have hy1 : ((s[j].toNat : Int) == 39) = true := by rw [hy]; rfl
                      have hy2 : ((s[j].toNat : Int) != 39) = false := by rw [hy]; rfl
                      rw [hy] at hyl
                      have hpc2 : ∀ W, Calls Tryd.prog 11 #[.string (s.extract j s.size), .string ⟨#[39, 39]⟩] W fun e w' => e = .returned (.bool (Lib.hasPrefix (s.data.toList.drop j) [39, 39])) ∧ w' = W := fun W =>
                        (starts_any _ _ W).mono fun _ _ h => ⟨by rw [h.1, Lib.extract_to_end], h.2⟩
                      cases hpj : Lib.hasPrefix (s.data.toList.drop j) [39, 39]
                      · rw [hpj] at hpc2
                        have HPC2 := Lib.hid hpc2; clear hpc2
                        have hiq := Lx.iq_at_close hyl (fun h => by rw [hasPrefix_two.2 ⟨hyl, h⟩] at hpj; cases hpj)
                        have Hiq := Lib.hid hiq; clear hiq hyl hpj hy
                        go_wp2_with fail
                        refine (HPC2.out _).mono ?_
                        rintro e w4 ⟨rfl, rfl⟩
                        go_wp2_with fail
                        go_round
                        case rel =>
                          have hq := HI.out
                          rw [Hiq.out] at hq
                          have hq' : Lx.iq (s.data.toList.drop (i + 1)) = some (x ++ [], j - (i + 1) + 1) := hq.symm
                          have h := HQ.out
                          rw [Hst.out, hq'] at h
                          simp only [Lx.add_add, List.append_nil] at h
                          refine ⟨j + 1, X, rfl, by go_num, by omega, by omega, ?_⟩
                          show _ = _
                          rw [HX.out, show j + 1 = i + (1 + (j - (i + 1) + 1)) from by omega]
                          rw [show i + 1 + (j - (i + 1) + 1) = i + (1 + (j - (i + 1) + 1)) from by omega] at h
                          exact h
                        case measure => simp [RowKit.intOf]; omega
                      · rw [hpj] at hpc2
                        have HPC2 := Lib.hid hpc2; clear hpc2
                        have h2 := (hasPrefix_two.1 hpj).2
                        have hj3 : j + 1 < s.size := by
                          have := (List.getElem?_eq_some_iff.1 h2).1
                          rw [← Lib.size_eq] at this; exact this
                        have hiq := Lx.iq_at_pair hyl h2
                        have hz : s[j + 1] = 39 := by
                          have := Lib.data_getElem? s (j + 1) hj3
                          rw [this] at h2; exact Option.some.inj h2
                        have Hiq := Lib.hid hiq; have Hz := Lib.hid hz; clear hiq hyl hpj hy h2 hz
                        go_wp2_with fail
                        refine (HPC2.out _).mono ?_
                        rintro e w4 ⟨rfl, rfl⟩
                        go_wp2_with fail
                        go_round
                        case rel =>
                          refine ⟨j + 2, X ++ s.extract (j + 1) (j + 1 + 1), x ++ [39], rfl, by go_num, by omega, by omega, by rw [app_size X s (j + 1) hj3]; omega, ?_, ?_⟩
                          · show _ = _
                            rw [app_one X s (j + 1) hj3, HX.out, Hz.out, List.append_assoc]
                          · have h := HI.out
                            rw [Hiq.out, Lx.add_add] at h
                            rw [show j + 2 - (i + 1) = j - (i + 1) + 2 from by omega]; exact h
                        case measure => simp [RowKit.intOf]; omega
                    · have hy1 : ((s[j].toNat : Int) == 39) = false := by
                        rw [beq_eq_false_iff_ne]
                        intro e
                        exact hy (UInt8.toNat_inj.1 (by simpa using (Int.ofNat.inj e)))
                      have hy2 : ((s[j].toNat : Int) != 39) = true := by
                        rw [bne_iff_ne]
                        intro e
                        exact hy (UInt8.toNat_inj.1 (by simpa using (Int.ofNat.inj e)))
                      have hiq := Lx.iq_at_plain hyl hy
                      have Hiq := Lib.hid hiq; clear hiq hyl hy
                      go_wp2_with fail
                      go_round
                      case rel =>
                        refine ⟨j + 1, X ++ s.extract j (j + 1), x ++ [s[j]], rfl, by go_num, by omega, by omega, by rw [app_size X s j hj]; omega, ?_, ?_⟩
                        · show _ = _
                          rw [app_one X s j hj, HX.out, List.append_assoc]
                        · have h := HI.out
                          rw [Hiq.out, Lx.add_add] at h
                          rw [show j + 1 - (i + 1) = j - (i + 1) + 1 from by omega]; exact h
                      case measure => simp [RowKit.intOf]; omega
                  · have hdj : decide ((j : Int) < (s.size : Int)) = false := decide_eq_false (by omega)
                    go_wp2_with fail
                    go_ret2
                    refine ⟨?_, rfl⟩
                    have hd0 : s.data.toList.drop j = [] := List.drop_eq_nil_of_le (by rw [Hl.out]; omega)
                    have hq := HI.out
                    rw [hd0] at hq
                    have hq' : Lx.iq (s.data.toList.drop (i + 1)) = none := hq.symm
                    have h := HQ.out
                    rw [Hst.out, hq'] at h
                    rw [← h]; rfl
            · have hd3 : decide ((i : Int) + 1 < (s.size : Int)) = false := decide_eq_false (by omega)
              have hst := Lx.az_at_plain (m := m) Hxl.out Hsg.out Hnp.out (fun _ d hd => by
                have := (List.getElem?_eq_some_iff.1 hd).1
                rw [Hl.out] at this; omega)
              have Hst := Lib.hid hst; clear hst
              go_wp2_with fail
              refine (sign_any s[i] m _).mono ?_
              rintro e w1 ⟨rfl, rfl⟩
              rw [Hsg.out]
              go_wp2_with fail
              refine (HPC.out _).mono ?_
              rintro e w2 ⟨rfl, rfl⟩
              go_wp2_with fail
              go_round
              case rel =>
                refine ⟨i + 1, O ++ s.extract i (i + 1), rfl, by go_num, by omega, by rw [app_size O s i hi]; omega, ?_⟩
                have h := HQ.out
                rw [Hst.out, Lx.add_add] at h
                rw [app_one O s i hi]; exact h
              case measure => simp [RowKit.intOf]; omega
          · have hx1 : ((s[i].toNat : Int) == 39) = false := by
              rw [beq_eq_false_iff_ne]
              intro e
              exact hx (UInt8.toNat_inj.1 (by simpa using (Int.ofNat.inj e)))
            have hst := Lx.az_at_plain (m := m) Hxl.out Hsg.out (fun h => absurd h hx) (fun h => absurd h hx)
            have Hst := Lib.hid hst; clear hst hx
            go_wp2_with fail
            refine (sign_any s[i] m _).mono ?_
            rintro e w1 ⟨rfl, rfl⟩
            rw [Hsg.out]
            go_wp2_with fail
            refine (HPC.out _).mono ?_
            rintro e w2 ⟨rfl, rfl⟩
            go_wp2_with fail
            go_round
            case rel =>
              refine ⟨i + 1, O ++ s.extract i (i + 1), rfl, by go_num, by omega, by rw [app_size O s i hi]; omega, ?_⟩
              have h := HQ.out
              rw [Hst.out, Lx.add_add] at h
              rw [app_one O s i hi]; exact h
            case measure => simp [RowKit.intOf]; omega
        · rw [hpp] at hpc
          have HPC := Lib.hid hpc; clear hpc
          have h2 := hasPrefix_two.1 hpp
          have hi3 : i + 1 < s.size := by
            have := (List.getElem?_eq_some_iff.1 h2.2).1
            rw [← Lib.size_eq] at this; exact this
          have hst := Lx.az_at_pair m h2.1 h2.2
          have Hst := Lib.hid hst; have Hsg := Lib.hid hsg; clear hst hxl hpp h2 hsg
          go_wp2_with fail
          refine (sign_any s[i] m _).mono ?_
          rintro e w1 ⟨rfl, rfl⟩
          rw [Hsg.out]
          go_wp2_with fail
          refine (HPC.out _).mono ?_
          rintro e w2 ⟨rfl, rfl⟩
          go_wp2_with fail
          go_round
          case rel =>
            refine ⟨i + 2, O ++ ⟨#[39]⟩, rfl, by go_num, by omega, ?_, ?_⟩
            · rw [ByteArray.size_append]; show O.size + 1 ≤ i + 2; omega
            · have h := HQ.out
              rw [Hst.out, Lx.add_add] at h
              have e : (O ++ ⟨#[39]⟩ : ByteArray).data.toList = O.data.toList ++ [39] := by simp
              rw [e]; exact h
          case measure => simp [RowKit.intOf]; omega
      · have hst := Lx.az_at_sign hxl hsg
        have Hst := Lib.hid hst; have Hsg := Lib.hid hsg; clear hst hxl hsg
        go_wp2_with fail
        refine (sign_any s[i] m _).mono ?_
        rintro e w1 ⟨rfl, rfl⟩
        rw [Hsg.out]
        go_wp2_with fail
        go_ret2
        refine ⟨?_, rfl⟩
        have h := HQ.out
        rw [Hst.out] at h
        rw [← h]
        show _ = Ending.returned (.tuple #[.string ⟨(O.data.toList ++ []).toArray⟩, .int .i64 ((i + 0 : Nat) : Int)])
        rw [List.append_nil, strOf_ext]; rfl
    · have hd : decide ((i : Int) < (s.size : Int)) = false := decide_eq_false (by omega)
      have hst := Lx.az_at_end m (l := s.data.toList) (i := i) (by rw [Hl.out]; omega)
      have Hst := Lib.hid hst; clear hst
      go_wp2_with fail
      go_ret2
      refine ⟨?_, rfl⟩
      have h := HQ.out
      rw [Hst.out] at h
      rw [← h]
      show _ = Ending.returned (.tuple #[.string ⟨(O.data.toList ++ []).toArray⟩, .int .i64 ((i + 0 : Nat) : Int)])
      rw [List.append_nil, strOf_ext]; rfl
end Go.Proofs.YtlcomkhegppfgaaDoor
