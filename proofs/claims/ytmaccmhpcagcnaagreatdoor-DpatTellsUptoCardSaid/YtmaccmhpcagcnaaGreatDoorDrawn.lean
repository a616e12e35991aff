/-
  The reference Drawn: what a pattern tells.
-/
import Derived.Test.YtmaccmhpcagcnaaGreatDoorRfield
import Derived.Test.YtmaccmhpcagcnaaGreatDoorStarts
namespace Go.Proofs.YtmaccmhpcagcnaaGreatDoor
open Go.RowKit Go.Lib Go.Sort

theorem has_two {l : List UInt8} {i : Nat} : Lib.hasPrefix (l.drop i) [39, 39] = true ↔ l[i]? = some 39 ∧ l[i + 1]? = some 39 := by
  have e : l[i + 1]? = (l.drop i)[1]? := by simp
  have e0 : l[i]? = (l.drop i)[0]? := by simp
  rw [e, e0]
  generalize l.drop i = k
  match k with
  | [] => exact ⟨(fun h => by cases h), (fun h => by cases h.1)⟩
  | [a] =>
    refine ⟨fun h => ?_, (fun h => by cases h.2)⟩
    have : ((39 == a) && false) = true := h
    simp at this
  | a :: b :: t =>
    show ((39 == a) && ((39 == b) && true)) = true ↔ some a = some 39 ∧ some b = some 39
    rw [Bool.and_true, Bool.and_eq_true, beq_iff_eq, beq_iff_eq]
    exact ⟨fun h => ⟨by rw [h.1], by rw [h.2]⟩, fun h => ⟨(Option.some.inj h.1).symm, (Option.some.inj h.2).symm⟩⟩
theorem drop_cons (s : ByteArray) (i : Nat) (h : i < s.size) : s.data.toList.drop i = s[i] :: s.data.toList.drop (i + 1) := by
  have h1 := Lib.data_getElem? s i h
  have hl : i < s.data.toList.length := by rw [← Lib.size_eq]; exact h
  rw [List.getElem?_eq_getElem hl] at h1
  rw [List.drop_eq_getElem_cons hl, Option.some.inj h1]
theorem ext_one (s : ByteArray) (k : Nat) (h : k < s.size) : (s.extract k (k + 1)).data.toList = [s[k]] := by
  rw [Lib.extract_data, drop_cons s k h]
  have e : k + 1 - k = 1 := by omega
  rw [e]; rfl
theorem str_ext {a b : ByteArray} (h : a.data.toList = b.data.toList) : a = b := by
  rw [← strOf_ext a, ← strOf_ext b, h]
theorem app_data (a b : ByteArray) : (a ++ b).data.toList = a.data.toList ++ b.data.toList := by
  simp [ByteArray.data_append]

theorem qin_plain (s : ByteArray) (j : Nat) (h : j < s.size) (hx : s[j] ≠ 39) : Dp.qin (s.data.toList.drop j) = addq [s[j]] (Dp.qin (s.data.toList.drop (j + 1))) := by
  rw [drop_cons s j h, Dp.qin_cons _ hx]; rfl
theorem qin_two (s : ByteArray) (j : Nat) (h : j + 1 < s.size) (hx : s[j] = 39) (hy : s[j + 1] = 39) : Dp.qin (s.data.toList.drop j) = addq [39] (Dp.qin (s.data.toList.drop (j + 2))) := by
  rw [drop_cons s j (by omega), drop_cons s (j + 1) h, hx, hy, Dp.qin_pair]; rfl
theorem qin_close (s : ByteArray) (j : Nat) (h : j < s.size) (hx : s[j] = 39) (hn : ∀ (h' : j + 1 < s.size), s[j + 1] ≠ 39) : Dp.qin (s.data.toList.drop j) = some ([], s.data.toList.drop (j + 1)) := by
  rw [drop_cons s j h, hx]
  by_cases h' : j + 1 < s.size
  · rw [drop_cons s (j + 1) h']; exact Dp.qin_end _ (hn h')
  · rw [List.drop_eq_nil_of_le (by rw [← Lib.size_eq]; omega)]; exact Dp.qin_end1
theorem run_get (c : UInt8) : ∀ (l : List UInt8) (j : Nat), j < Dp.run c l → l[j]? = some c
  | [], j, h => by simp [Dp.run] at h
  | b :: r, j, h => by
    unfold Dp.run at h
    by_cases hb : b = c
    · rw [if_pos hb] at h
      cases j with
      | zero => simp [hb]
      | succ j => simpa using run_get c r j (by omega)
    · rw [if_neg hb] at h; omega
theorem run_stop (c : UInt8) : ∀ (l : List UInt8), l[Dp.run c l]? ≠ some c
  | [] => by simp
  | b :: r => by
    unfold Dp.run
    by_cases hb : b = c
    · rw [if_pos hb]; simpa using run_stop c r
    · rw [if_neg hb]; simpa using hb

theorem out_snoc (f : Nat → List UInt8) (ts : List Dp.Piece) (p : Dp.Piece) : Dp.out f (ts ++ [p]) = Dp.out f ts ++ Dp.showP f p := by
  rw [Dp.out_append]; simp [Dp.out]

/-- what Drawn hands back -/
def drawnOut (y m d : Int) (r : List Dp.Piece × Bool) : Value := if r.2 = true then .tuple #[.string ⟨(Dp.out (rtext y m d) r.1).toArray⟩, .bool true] else .tuple #[.string ⟨#[]⟩, .bool false]

set_option maxHeartbeats 4000000 in
set_option maxRecDepth 100000 in
theorem drawn_any (s : ByteArray) (y m d : Int) (w : World) (hs : s.size ≤ 10000000) (hy : y ≤ 9223372036854775807) (hm : m ≤ 9223372036854775807) (hdd : d ≤ 9223372036854775807) :
    Calls Tryz.prog 5 #[.string s, .agg #[.int .i64 y, .int .i64 m, .int .i64 d]] w fun e w' => e = .returned (drawnOut y m d (Dp.pp s.data.toList)) ∧ Below w.heap.size w w' := by
  have hrt := rtext_len y m d hy hm hdd
  have hfs := fun (t : ByteArray) (j : Nat) (W : World) => rfield_some t y m d j W hy hm hdd
  have hfn := fun (t : ByteArray) (W : World) => rfield_none t y m d W
  have HRT := Lib.hid hrt; have HFS := Lib.hid hfs; have HFN := Lib.hid hfn
  clear hrt hfs hfn hy hm hdd
  go_enter Tryz.func5, Tryz.ntmps5
  go_wp2_with fail
  go_loopw [6, 7] (fun o v wr => ∃ (i : Nat) (ts : List Dp.Piece), v = .int .i64 i ∧ o = .string ⟨(Dp.out (rtext y m d) ts).toArray⟩ ∧ i ≤ s.size ∧ (Dp.out (rtext y m d) ts).length ≤ 20 * i ∧ Hid (Dp.add ts (Dp.pp (s.data.toList.drop i)) = Dp.pp s.data.toList) ∧ Hid (Below w.heap.size w wr) ∧ Hid (Tre wr w.heap.size y m d)) (fun _ v _ => s.size - (RowKit.intOf v).toNat)
  case atStart =>
    exact ⟨0, [], rfl, rfl, by omega, by simp [Dp.out], Dp.add_nil _, (Below.refl _ _).alloc (Nat.le_refl _) _, Tre.made _ _ _ _ _⟩
  case round =>
    obtain ⟨i, ts, rfl, rfl, hi, hol, HQ, HB, HT⟩ := hrel
    obtain ⟨a0, a1, a2⟩ := HT.out
    generalize hO : Dp.out (rtext y m d) ts = O at hol ⊢
    have HO := Lib.hid hO; clear hO
    have hOs : (⟨O.toArray⟩ : ByteArray).size = O.length := sz_mk O
    by_cases hlt : i < s.size
    · have hxl := Lib.data_getElem? s i hlt
      have hdc := drop_cons s i hlt
      have hsc := fun W => starts_any (s.extract i s.size) ⟨#[39, 39]⟩ W
      have e39 : (⟨#[39, 39]⟩ : ByteArray).data.toList = [39, 39] := rfl
      rw [Lib.extract_to_end, e39] at hsc
      clear e39
      have hcb : (s[i].toNat : Int) ≤ 255 := by have := s[i].toNat_lt; omega
      by_cases h39 : s[i] = 39
      · by_cases h2 : ∃ h' : i + 1 < s.size, s[i + 1] = 39
        · obtain ⟨h', hy39⟩ := h2
          have hpp : Lib.hasPrefix (s.data.toList.drop i) [39, 39] = true := has_two.2 ⟨by rw [hxl, h39], by rw [Lib.data_getElem? s (i + 1) h', hy39]⟩
          rw [hpp] at hsc
          have hst : Dp.step (s.data.toList.drop i) = some (.txt [39], s.data.toList.drop (i + 2)) := by
            rw [hdc, drop_cons s (i + 1) h', h39, hy39, Dp.step_cons, if_pos rfl, Dp.quoted_twice]; rfl
          have hq : Dp.add (ts ++ [.txt [39]]) (Dp.pp (s.data.toList.drop (i + 2))) = Dp.pp s.data.toList := by
            rw [← HQ.out, Dp.pp_some hst, Dp.add_add]
          have he : (⟨O.toArray⟩ : ByteArray) ++ ⟨#[39]⟩ = ⟨(Dp.out (rtext y m d) (ts ++ [.txt [39]])).toArray⟩ := by
            apply str_ext; rw [app_data, out_snoc, HO.out]; rfl
          have hel : (Dp.out (rtext y m d) (ts ++ [.txt [39]])).length ≤ 20 * (i + 2) := by
            rw [out_snoc, HO.out, List.length_append]; show O.length + 1 ≤ _; omega
          have HS := Lib.hid hsc; have HQ2 := Lib.hid hq; have HE := Lib.hid he
          clear hsc hst hq he hpp hxl hdc h39 hy39
          go_wp2_with fail
          refine (HS.out _).mono ?_
          rintro e w1 ⟨rfl, rfl⟩
          go_wp2_with fail
          go_roundw
          case rel => exact ⟨i + 2, _, by go_num, by rw [HE.out], by omega, hel, HQ2, HB, HT⟩
          case measure => simp [RowKit.intOf]; omega
        · have hn : ∀ (h' : i + 1 < s.size), s[i + 1] ≠ 39 := fun h' hy => h2 ⟨h', hy⟩
          have hpp : Lib.hasPrefix (s.data.toList.drop i) [39, 39] = false := by
            cases hb : Lib.hasPrefix (s.data.toList.drop i) [39, 39] with
            | false => rfl
            | true =>
              have h3 := (has_two.1 hb).2
              have h4 : i + 1 < s.size := by rw [Lib.size_eq]; exact (List.getElem?_eq_some_iff.1 h3).1
              rw [Lib.data_getElem? s (i + 1) h4] at h3
              exact absurd (Option.some.inj h3) (hn h4)
          rw [hpp] at hsc
          have hx1 : ((s[i].toNat : Int) == 39) = true := by rw [h39]; rfl
          have hqd : Dp.quoted (s.data.toList.drop (i + 1)) = Dp.qin (s.data.toList.drop (i + 1)) := by
            apply Dp.quoted_qin
            intro r hr
            by_cases h' : i + 1 < s.size
            · rw [drop_cons s (i + 1) h'] at hr; exact hn h' (List.cons.inj hr).1
            · rw [List.drop_eq_nil_of_le (by rw [← Lib.size_eq]; omega)] at hr; cases hr
          have hst : Dp.step (s.data.toList.drop i) = (Dp.qin (s.data.toList.drop (i + 1))).map fun p => (.txt p.1, p.2) := by
            rw [hdc, h39, Dp.step_cons, if_pos rfl, hqd]
          have HS := Lib.hid hsc; have Hst := Lib.hid hst; have Hdc := Lib.hid hdc
          clear hsc hst hpp hxl hdc h39 hqd hn h2 a0 a1 a2
          go_wp2_with fail
          refine (HS.out _).mono ?_
          rintro e w1 ⟨rfl, rfl⟩
          go_wp2_with fail
          obtain ⟨wo, hwo⟩ : ∃ wo : World, wo = w1 := ⟨_, rfl⟩
          subst hwo
          go_loop [6, 7] (fun o v => ∃ (j : Nat) (acc : List UInt8), i + 1 ≤ j ∧ j ≤ s.size ∧ v = .int .i64 j ∧ o = .string ⟨(O ++ acc).toArray⟩ ∧ acc.length + i + 1 ≤ j ∧ Hid (addq acc (Dp.qin (s.data.toList.drop j)) = Dp.qin (s.data.toList.drop (i + 1)))) (fun _ v => s.size - (RowKit.intOf v).toNat)
          case atStart => exact ⟨i + 1, [], by omega, by omega, by go_num, by simp, by simp, addq_nil _⟩
          case round =>
            obtain ⟨j, acc, hj0, hj, rfl, rfl, hal, HA⟩ := hrel
            have hOl : (O ++ acc).length ≤ 20 * s.size := by rw [List.length_append]; omega
            have hOAs : (⟨(O ++ acc).toArray⟩ : ByteArray).size = (O ++ acc).length := sz_mk _
            by_cases hjl : j < s.size
            · have hjb : (s[j].toNat : Int) ≤ 255 := by have := s[j].toNat_lt; omega
              have hsj := fun W => starts_any (s.extract j s.size) ⟨#[39, 39]⟩ W
              have e39 : (⟨#[39, 39]⟩ : ByteArray).data.toList = [39, 39] := rfl
              rw [Lib.extract_to_end, e39] at hsj
              clear e39
              by_cases hj39 : s[j] = 39
              · have hx2 : ((s[j].toNat : Int) == 39) = true := by rw [hj39]; rfl
                have hx3 : ((s[j].toNat : Int) != 39) = false := by rw [hj39]; rfl
                by_cases h2 : ∃ h' : j + 1 < s.size, s[j + 1] = 39
                · obtain ⟨h', hy39⟩ := h2
                  have hpj : Lib.hasPrefix (s.data.toList.drop j) [39, 39] = true := has_two.2 ⟨by rw [Lib.data_getElem? s j hjl, hj39], by rw [Lib.data_getElem? s (j + 1) h', hy39]⟩
                  rw [hpj] at hsj
                  have hq := qin_two s j h' hj39 hy39
                  have hby := ext_one s (j + 1) h'
                  have hsz1 : (s.extract (j + 1) (j + 1 + 1)).size = 1 := by rw [Lib.size_eq, hby]; rfl
                  have he : (⟨(O ++ acc).toArray⟩ : ByteArray) ++ s.extract (j + 1) (j + 1 + 1) = ⟨(O ++ (acc ++ [39])).toArray⟩ := by
                    apply str_ext; rw [app_data, hby, hy39]; simp
                  have hq2 : addq (acc ++ [39]) (Dp.qin (s.data.toList.drop (j + 2))) = Dp.qin (s.data.toList.drop (i + 1)) := by
                    rw [← HA.out, hq, addq_add]
                  have HSj := Lib.hid hsj; have HE := Lib.hid he; have HQ2 := Lib.hid hq2
                  clear hsj he hq hq2 hby hy39 hj39 hpj
                  go_wp2_with fail
                  refine (HSj.out _).mono ?_
                  rintro e w2 ⟨rfl, rfl⟩
                  go_wp2_with fail
                  go_round
                  case rel => exact ⟨j + 2, acc ++ [39], by omega, by omega, by go_num, by rw [HE.out], by simp; omega, HQ2⟩
                  case measure => simp [RowKit.intOf]; omega
                · have hnj : ∀ (h' : j + 1 < s.size), s[j + 1] ≠ 39 := fun h' hy => h2 ⟨h', hy⟩
                  have hpj : Lib.hasPrefix (s.data.toList.drop j) [39, 39] = false := by
                    cases hb : Lib.hasPrefix (s.data.toList.drop j) [39, 39] with
                    | false => rfl
                    | true =>
                      have h3 := (has_two.1 hb).2
                      have h4 : j + 1 < s.size := by rw [Lib.size_eq]; exact (List.getElem?_eq_some_iff.1 h3).1
                      rw [Lib.data_getElem? s (j + 1) h4] at h3
                      exact absurd (Option.some.inj h3) (hnj h4)
                  rw [hpj] at hsj
                  have hq := qin_close s j hjl hj39 hnj
                  have hqi : Dp.qin (s.data.toList.drop (i + 1)) = some (acc, s.data.toList.drop (j + 1)) := by
                    rw [← HA.out, hq]; simp [addq]
                  have hst2 : Dp.step (s.data.toList.drop i) = some (.txt acc, s.data.toList.drop (j + 1)) := by rw [Hst.out, hqi]; rfl
                  have hqq : Dp.add (ts ++ [.txt acc]) (Dp.pp (s.data.toList.drop (j + 1))) = Dp.pp s.data.toList := by
                    rw [← HQ.out, Dp.pp_some hst2, Dp.add_add]
                  have he : O ++ acc = Dp.out (rtext y m d) (ts ++ [.txt acc]) := by rw [out_snoc, HO.out]; rfl
                  have HSj := Lib.hid hsj; have HE := Lib.hid he; have HQ2 := Lib.hid hqq
                  clear hsj he hq hqi hst2 hqq hj39 hpj hnj h2
                  go_wp2_with fail
                  refine (HSj.out _).mono ?_
                  rintro e w2 ⟨rfl, rfl⟩
                  go_wp2_with fail
                  go_roundw
                  case rel => exact ⟨j + 1, ts ++ [.txt acc], by go_num, by rw [HE.out], by omega, by rw [← HE.out, List.length_append]; omega, HQ2, HB, HT⟩
                  case measure => simp [RowKit.intOf]; omega
              · have hx2 : ((s[j].toNat : Int) == 39) = false := by
                  rw [beq_eq_false_iff_ne]; intro e; exact hj39 (UInt8.toNat_inj.1 (by simpa using (Int.ofNat.inj e)))
                have hx3 : ((s[j].toNat : Int) != 39) = true := by
                  rw [bne_iff_ne]; intro e; exact hj39 (UInt8.toNat_inj.1 (by simpa using (Int.ofNat.inj e)))
                have hq := qin_plain s j hjl hj39
                have hby := ext_one s j hjl
                have hsz1 : (s.extract j (j + 1)).size = 1 := by rw [Lib.size_eq, hby]; rfl
                have he : (⟨(O ++ acc).toArray⟩ : ByteArray) ++ s.extract j (j + 1) = ⟨(O ++ (acc ++ [s[j]])).toArray⟩ := by
                  apply str_ext; rw [app_data, hby]; simp
                have hq2 : addq (acc ++ [s[j]]) (Dp.qin (s.data.toList.drop (j + 1))) = Dp.qin (s.data.toList.drop (i + 1)) := by
                  rw [← HA.out, hq, addq_add]
                have HE := Lib.hid he; have HQ2 := Lib.hid hq2
                clear hsj he hq hq2 hby hj39
                go_wp2_with fail
                go_round
                case rel => exact ⟨j + 1, acc ++ [s[j]], by omega, by omega, by go_num, by rw [HE.out], by simp; omega, HQ2⟩
                case measure => simp [RowKit.intOf]; omega
            · have hje : j = s.size := by omega
              subst hje
              have hqi : Dp.qin (s.data.toList.drop (i + 1)) = none := by
                rw [← HA.out, List.drop_eq_nil_of_le (by rw [← Lib.size_eq]; exact Nat.le_refl _), Dp.qin_nil]; rfl
              have hst2 : Dp.step (s.data.toList.drop i) = none := by rw [Hst.out, hqi]; rfl
              have hqq : Dp.pp s.data.toList = (ts, false) := by
                rw [Hdc.out] at hst2
                rw [← HQ.out, Hdc.out, Dp.pp_none hst2]; simp [Dp.add]
              have HQ2 := Lib.hid hqq
              clear hqi hst2 hqq
              go_wp2_with fail
              go_ret2
              exact ⟨by rw [HQ2.out]; rfl, HB.out⟩
      · have hpp : Lib.hasPrefix (s.data.toList.drop i) [39, 39] = false := by
          cases hb : Lib.hasPrefix (s.data.toList.drop i) [39, 39] with
          | false => rfl
          | true =>
            have h3 := (has_two.1 hb).1
            rw [hxl] at h3
            exact absurd (Option.some.inj h3) h39
        rw [hpp] at hsc
        have hx1 : ((s[i].toNat : Int) == 39) = false := by
          rw [beq_eq_false_iff_ne]; intro e; exact h39 (UInt8.toNat_inj.1 (by simpa using (Int.ofNat.inj e)))
        have hlc := fun W => rletter_any s[i] W
        rw [← Dp.letter_eq] at hlc
        cases hl : Dp.letter s[i] with
        | false =>
          rw [hl] at hlc
          have hst : Dp.step (s.data.toList.drop i) = some (.txt [s[i]], s.data.toList.drop (i + 1)) := by
            rw [hdc, Dp.step_cons, if_neg h39, if_neg (by rw [hl]; simp)]
          have hq : Dp.add (ts ++ [.txt [s[i]]]) (Dp.pp (s.data.toList.drop (i + 1))) = Dp.pp s.data.toList := by
            rw [← HQ.out, Dp.pp_some hst, Dp.add_add]
          have hby := ext_one s i hlt
          have hsz1 : (s.extract i (i + 1)).size = 1 := by rw [Lib.size_eq, hby]; rfl
          have he : (⟨O.toArray⟩ : ByteArray) ++ s.extract i (i + 1) = ⟨(Dp.out (rtext y m d) (ts ++ [.txt [s[i]]])).toArray⟩ := by
            apply str_ext; rw [app_data, out_snoc, HO.out, hby]; rfl
          have hel : (Dp.out (rtext y m d) (ts ++ [.txt [s[i]]])).length ≤ 20 * (i + 1) := by
            rw [out_snoc, HO.out, List.length_append]; show O.length + 1 ≤ _; omega
          have HS := Lib.hid hsc; have HQ2 := Lib.hid hq; have HE := Lib.hid he; have HL := Lib.hid hlc
          clear hsc hst hq he hpp hxl hdc h39 hby hlc hl
          go_wp2_with fail
          refine (HS.out _).mono ?_
          rintro e w1 ⟨rfl, rfl⟩
          go_wp2_with fail
          refine (HL.out _).mono ?_
          rintro e w1 ⟨rfl, rfl⟩
          go_wp2_with fail
          go_roundw
          case rel => exact ⟨i + 1, _, by go_num, by rw [HE.out], by omega, hel, HQ2, HB, HT⟩
          case measure => simp [RowKit.intOf]; omega
        | true =>
          rw [hl] at hlc
          obtain ⟨R, hR⟩ : ∃ R, Dp.run s[i] (s.data.toList.drop i) = R := ⟨_, rfl⟩
          have hRp : 1 ≤ R := by rw [← hR, hdc]; exact Dp.run_pos _ _
          have hRl : R ≤ s.size - i := by
            have := Dp.run_le s[i] (s.data.toList.drop i)
            rw [hR, List.length_drop, ← Lib.size_eq] at this; exact this
          have hget : ∀ j, j < R → ∀ (h' : i + j < s.size), s[i + j] = s[i] := by
            intro j hj h'
            have := run_get s[i] (s.data.toList.drop i) j (by rw [hR]; exact hj)
            rw [List.getElem?_drop, Lib.data_getElem? s (i + j) h'] at this
            exact Option.some.inj this
          have hstop : ∀ (h' : i + R < s.size), s[i + R] ≠ s[i] := by
            intro h' he
            have := run_stop s[i] (s.data.toList.drop i)
            rw [hR, List.getElem?_drop, Lib.data_getElem? s (i + R) h', he] at this
            exact this rfl
          have htk : (s.extract i (i + R)).data.toList = (s.data.toList.drop i).take R := by
            rw [Lib.extract_data]; congr 1; omega
          have hdr : (s.data.toList.drop i).drop R = s.data.toList.drop (i + R) := by rw [List.drop_drop]
          have hst : Dp.step (s.data.toList.drop i) = (Dp.rowOf (s.extract i (i + R)).data.toList).map fun k => (.fld k, s.data.toList.drop (i + R)) := by
            rw [htk, ← hdr, ← hR]
            rw [hdc, Dp.step_cons, if_neg h39, if_pos hl]
          have HS := Lib.hid hsc; have Hst := Lib.hid hst; have HL := Lib.hid hlc; have Hdc := Lib.hid hdc; have HG := Lib.hid hget; have HStop := Lib.hid hstop
          clear hsc hst hpp hxl hdc h39 hlc hl hget hstop htk hdr hR a0 a1 a2
          go_wp2_with fail
          refine (HS.out _).mono ?_
          rintro e w1 ⟨rfl, rfl⟩
          go_wp2_with fail
          refine (HL.out _).mono ?_
          rintro e w1 ⟨rfl, rfl⟩
          go_wp2_with fail
          obtain ⟨wo, hwo⟩ : ∃ wo : World, wo = w1 := ⟨_, rfl⟩
          subst hwo
          go_loopw [8] (fun v wr => ∃ (k : Nat), i ≤ k ∧ k ≤ i + R ∧ v = .int .i64 k ∧ Hid (∃ n, wr = wo.drewN n)) (fun v _ => s.size - (RowKit.intOf v).toNat)
          case atStart => exact ⟨i, by omega, by omega, rfl, ⟨0, rfl⟩⟩
          case round =>
            obtain ⟨q, hq0, hq1, rfl, ⟨n, rfl⟩⟩ := hrel
            by_cases hjl : q < s.size
            · have hjd : decide (q < s.size) = true := decide_eq_true hjl
              by_cases hjR : q < i + R
              · have hgq : s[q] = s[i] := by
                  obtain ⟨z, rfl⟩ : ∃ z, q = i + z := ⟨q - i, by omega⟩
                  exact HG.out z (by omega) hjl
                have heq : ((s[q].toNat : Int) == (s[i].toNat : Int)) = true := by rw [hgq]; simp
                clear hgq
                go_wp2_with fail
                go_quiet (fail)
                go_wp2_with fail
                go_roundw
                case rel => exact ⟨q + 1, by omega, by omega, by go_num, ⟨_, rfl⟩⟩
                case measure => simp [RowKit.intOf]; omega
              · have hjR' : q = i + R := by omega
                have heq : ((s[q].toNat : Int) == (s[i].toNat : Int)) = false := by
                  subst hjR'
                  rw [beq_eq_false_iff_ne]
                  intro e
                  exact HStop.out hjl (UInt8.toNat_inj.1 (by simpa using (Int.ofNat.inj e)))
                have HJR := Lib.hid hjR'; clear hjR'
                go_wp2_with fail
                go_quiet (fail)
                go_wp2_with fail
                have hst0 : Dp.step (s.data.toList.drop i) = (Dp.rowOf (s.extract i q).data.toList).map fun k => (.fld k, s.data.toList.drop q) := by rw [Hst.out, HJR.out]
                have HST := Lib.hid hst0; clear hst0
                have hqs : q ≤ s.size := by have := HJR.out; omega
                obtain ⟨k, hk⟩ : ∃ k, Dp.rowOf (s.extract i q).data.toList = k := ⟨_, rfl⟩
                obtain ⟨W0, hW0⟩ : ∃ W0, W0 = (wo.drewN n).drewN nq := ⟨_, rfl⟩
                have hbw : Below w.heap.size w W0 := by rw [hW0]; exact belowN (belowN HB.out _) _
                have htw : Tre W0 w.heap.size y m d := by rw [hW0]; exact (HT.out.keep (below0N _ _ _)).keep (below0N _ _ _)
                have k0 := cell_regrown htw.c0
                have k1 := cell_regrown htw.c1
                have k2 := cell_regrown htw.c2
                have HBW := Lib.hid hbw; have HTW := Lib.hid htw
                rw [← hW0]
                clear hbw htw hW0
                cases k with
                | none =>
                  have hst2 : Dp.step (s.data.toList.drop i) = none := by rw [HST.out, hk]; rfl
                  have hqq : Dp.pp s.data.toList = (ts, false) := by
                    rw [Hdc.out] at hst2
                    rw [← HQ.out, Hdc.out, Dp.pp_none hst2]; simp [Dp.add]
                  have HQ2 := Lib.hid hqq
                  have d1 : ∀ dr os, Calls Tryz.prog 18 #[.string (s.extract i q), .agg #[.int .i64 y, .int .i64 m, .int .i64 d]] (grow (redrawn W0 dr) os) (fun e w' => e = .returned (.tuple #[.string ⟨(rtext y m d 9).toArray⟩, .bool false]) ∧ ∃ p : Regrown, w' = grow (redrawn W0 p.d) p.os) :=
                    fun dr os => Calls.regrown_of (HFN.out _ _ hk)
                  have D1 := Lib.hid d1
                  clear d1 hst2 hqq hk
                  go_wp2_with fail
                  refine wp_region_quiet_below (by kernel_rfl) (by kernel_rfl) ?_
                  repeat (quiet_step (first | with_reducible exact D1.out _ _))
                  refine wpQuiet_nil ?_
                  intro _ hw'
                  obtain ⟨⟨dq, osq⟩, hw''⟩ := hw'
                  subst hw''
                  go_wp2_with fail
                  go_ret2
                  exact ⟨by rw [HQ2.out]; rfl, below_step HBW.out (below_regrown W0 dq osq)⟩
                | some k =>
                  have hst2 : Dp.step (s.data.toList.drop i) = some (.fld k, s.data.toList.drop q) := by rw [HST.out, hk]; rfl
                  have hqq : Dp.add (ts ++ [.fld k]) (Dp.pp (s.data.toList.drop q)) = Dp.pp s.data.toList := by
                    rw [← HQ.out, Dp.pp_some hst2, Dp.add_add]
                  have hrl := HRT.out k
                  have he : (⟨O.toArray⟩ : ByteArray) ++ ⟨(rtext y m d k).toArray⟩ = ⟨(Dp.out (rtext y m d) (ts ++ [.fld k])).toArray⟩ := by
                    apply str_ext; rw [app_data, out_snoc, HO.out]; rfl
                  have hel : (Dp.out (rtext y m d) (ts ++ [.fld k])).length ≤ 20 * q := by
                    rw [out_snoc, HO.out, List.length_append]; show O.length + (rtext y m d k).length ≤ _; omega
                  have d1 : ∀ dr os, Calls Tryz.prog 18 #[.string (s.extract i q), .agg #[.int .i64 y, .int .i64 m, .int .i64 d]] (grow (redrawn W0 dr) os) (fun e w' => e = .returned (.tuple #[.string ⟨(rtext y m d k).toArray⟩, .bool true]) ∧ ∃ p : Regrown, w' = grow (redrawn W0 p.d) p.os) :=
                    fun dr os => Calls.regrown_of (HFS.out _ _ _ hk)
                  have D1 := Lib.hid d1; have HQ2 := Lib.hid hqq; have HE := Lib.hid he; have HEL := Lib.hid hel
                  have hfs : (⟨(rtext y m d k).toArray⟩ : ByteArray).size = (rtext y m d k).length := sz_mk _
                  generalize rtext y m d k = F at D1 HE hfs hrl
                  clear d1 hst2 hqq hk he hel
                  go_wp2_with fail
                  refine wp_region_quiet_below (by kernel_rfl) (by kernel_rfl) ?_
                  repeat (quiet_step (first | with_reducible exact D1.out _ _))
                  refine wpQuiet_nil ?_
                  intro _ hw'
                  obtain ⟨⟨dq, osq⟩, hw''⟩ := hw'
                  subst hw''
                  go_wp2_with fail
                  go_roundw
                  case rel => exact ⟨q, _, rfl, by rw [HE.out], by omega, HEL.out, HQ2, below_step HBW.out (below_regrown W0 dq osq), HTW.out.keep (below_regrown W0 dq osq)⟩
                  case measure => simp [RowKit.intOf]; omega
            · have hjd : decide (q < s.size) = false := decide_eq_false hjl
              have hjR' : q = i + R := by omega
              have HJR := Lib.hid hjR'; clear hjR'
              go_wp2_with fail
              go_quiet (fail)
              go_wp2_with fail
              have hst0 : Dp.step (s.data.toList.drop i) = (Dp.rowOf (s.extract i q).data.toList).map fun k => (.fld k, s.data.toList.drop q) := by rw [Hst.out, HJR.out]
              have HST := Lib.hid hst0; clear hst0
              have hqs : q ≤ s.size := by have := HJR.out; omega
              obtain ⟨k, hk⟩ : ∃ k, Dp.rowOf (s.extract i q).data.toList = k := ⟨_, rfl⟩
              obtain ⟨W0, hW0⟩ : ∃ W0, W0 = (wo.drewN n).drewN nq := ⟨_, rfl⟩
              have hbw : Below w.heap.size w W0 := by rw [hW0]; exact belowN (belowN HB.out _) _
              have htw : Tre W0 w.heap.size y m d := by rw [hW0]; exact (HT.out.keep (below0N _ _ _)).keep (below0N _ _ _)
              have k0 := cell_regrown htw.c0
              have k1 := cell_regrown htw.c1
              have k2 := cell_regrown htw.c2
              have HBW := Lib.hid hbw; have HTW := Lib.hid htw
              rw [← hW0]
              clear hbw htw hW0
              cases k with
              | none =>
                have hst2 : Dp.step (s.data.toList.drop i) = none := by rw [HST.out, hk]; rfl
                have hqq : Dp.pp s.data.toList = (ts, false) := by
                  rw [Hdc.out] at hst2
                  rw [← HQ.out, Hdc.out, Dp.pp_none hst2]; simp [Dp.add]
                have HQ2 := Lib.hid hqq
                have d1 : ∀ dr os, Calls Tryz.prog 18 #[.string (s.extract i q), .agg #[.int .i64 y, .int .i64 m, .int .i64 d]] (grow (redrawn W0 dr) os) (fun e w' => e = .returned (.tuple #[.string ⟨(rtext y m d 9).toArray⟩, .bool false]) ∧ ∃ p : Regrown, w' = grow (redrawn W0 p.d) p.os) :=
                  fun dr os => Calls.regrown_of (HFN.out _ _ hk)
                have D1 := Lib.hid d1
                clear d1 hst2 hqq hk
                go_wp2_with fail
                refine wp_region_quiet_below (by kernel_rfl) (by kernel_rfl) ?_
                repeat (quiet_step (first | with_reducible exact D1.out _ _))
                refine wpQuiet_nil ?_
                intro _ hw'
                obtain ⟨⟨dq, osq⟩, hw''⟩ := hw'
                subst hw''
                go_wp2_with fail
                go_ret2
                exact ⟨by rw [HQ2.out]; rfl, below_step HBW.out (below_regrown W0 dq osq)⟩
              | some k =>
                have hst2 : Dp.step (s.data.toList.drop i) = some (.fld k, s.data.toList.drop q) := by rw [HST.out, hk]; rfl
                have hqq : Dp.add (ts ++ [.fld k]) (Dp.pp (s.data.toList.drop q)) = Dp.pp s.data.toList := by
                  rw [← HQ.out, Dp.pp_some hst2, Dp.add_add]
                have hrl := HRT.out k
                have he : (⟨O.toArray⟩ : ByteArray) ++ ⟨(rtext y m d k).toArray⟩ = ⟨(Dp.out (rtext y m d) (ts ++ [.fld k])).toArray⟩ := by
                  apply str_ext; rw [app_data, out_snoc, HO.out]; rfl
                have hel : (Dp.out (rtext y m d) (ts ++ [.fld k])).length ≤ 20 * q := by
                  rw [out_snoc, HO.out, List.length_append]; show O.length + (rtext y m d k).length ≤ _; omega
                have d1 : ∀ dr os, Calls Tryz.prog 18 #[.string (s.extract i q), .agg #[.int .i64 y, .int .i64 m, .int .i64 d]] (grow (redrawn W0 dr) os) (fun e w' => e = .returned (.tuple #[.string ⟨(rtext y m d k).toArray⟩, .bool true]) ∧ ∃ p : Regrown, w' = grow (redrawn W0 p.d) p.os) :=
                  fun dr os => Calls.regrown_of (HFS.out _ _ _ hk)
                have D1 := Lib.hid d1; have HQ2 := Lib.hid hqq; have HE := Lib.hid he; have HEL := Lib.hid hel
                have hfs : (⟨(rtext y m d k).toArray⟩ : ByteArray).size = (rtext y m d k).length := sz_mk _
                generalize rtext y m d k = F at D1 HE hfs hrl
                clear d1 hst2 hqq hk he hel
                go_wp2_with fail
                refine wp_region_quiet_below (by kernel_rfl) (by kernel_rfl) ?_
                repeat (quiet_step (first | with_reducible exact D1.out _ _))
                refine wpQuiet_nil ?_
                intro _ hw'
                obtain ⟨⟨dq, osq⟩, hw''⟩ := hw'
                subst hw''
                go_wp2_with fail
                go_roundw
                case rel => exact ⟨q, _, rfl, by rw [HE.out], by omega, HEL.out, HQ2, below_step HBW.out (below_regrown W0 dq osq), HTW.out.keep (below_regrown W0 dq osq)⟩
                case measure => simp [RowKit.intOf]; omega
    · have hie : i = s.size := by omega
      have hq : Dp.pp s.data.toList = (ts, true) := by
        rw [← HQ.out, List.drop_eq_nil_of_le (by rw [← Lib.size_eq]; omega), Dp.pp_nil]; simp [Dp.add]
      have Hq := Lib.hid hq
      clear hq hie
      go_wp2_with fail
      go_ret2
      refine ⟨?_, HB.out⟩
      rw [Hq.out]; show _ = Ending.returned (.tuple #[.string ⟨(Dp.out (rtext y m d) ts).toArray⟩, .bool true])
      rw [HO.out]; rfl
end Go.Proofs.YtmaccmhpcagcnaaGreatDoor
