/-
  The reference's find and CasesAt: the cases at a place of a text, by what the nodes at a later place are.
-/
import Derived.Test.YtgkphpjnfigjiaaGreatDoorPnod
import Derived.Test.YtgkphpjnfigjiaaGreatDoorGrow
import Derived.Test.YtgkphpjnfigjiaaGreatDoorStarts
import Derived.Test.YtgkphpjnfigjiaaGreatDoorBase
import Derived.Test.YtgkphpjnfigjiaaGreatDoorSize
namespace Go.Proofs.YtgkphpjnfigjiaaGreatDoor
open Go.RowKit Ms

theorem take_pre (l p : List UInt8) : (l.take p.length == p) = Lib.hasPrefix l p := by
  rw [Bool.eq_iff_iff, beq_iff_eq]
  unfold Lib.hasPrefix
  rw [List.isPrefixOf_iff_prefix, List.prefix_iff_eq_take]
  exact ⟨fun h => h.symm, fun h => h.symm⟩
theorem pre_short {p l : List UInt8} (h : l.length < p.length) : pre p l = none := by
  unfold pre
  rw [if_neg]
  intro hp
  rw [List.isPrefixOf_iff_prefix] at hp
  have := hp.length_le
  omega
theorem ext_end (S : ByteArray) (i : Nat) : (S.extract i S.size).data.toList = S.data.toList.drop i := by
  rw [Lib.extract_data, List.take_of_length_le]
  rw [List.length_drop, ← Lib.size_eq]; omega
theorem ext_part (S : ByteArray) (i j : Nat) : S.extract i j = ⟨((S.data.toList.drop i).take (j - i)).toArray⟩ := strOf (Lib.extract_data S i j)
theorem ext_two (S : ByteArray) (i : Nat) : ((S.extract i (i + 2)).toList == [32, 123]) = Lib.hasPrefix (S.data.toList.drop i) [32, 123] := by
  rw [Lib.toList_data, Lib.extract_data, Nat.add_sub_cancel_left]
  exact take_pre _ [32, 123]
theorem starts_at (S : ByteArray) (i : Nat) (p : ByteArray) (q : Bool) (h : Lib.hasPrefix (S.data.toList.drop i) p.data.toList = q) (W : World) :
    Calls Tryz.prog 56 #[.string (S.extract i S.size), .string p] W fun e w' => e = .returned (.bool q) ∧ w' = W := by
  have := starts_any (S.extract i S.size) p W
  rw [ext_end, h] at this; exact this
theorem pre_drop {p l : List UInt8} {i : Nat} (h : Lib.hasPrefix (l.drop i) p = true) : pre p (l.drop i) = some (l.drop (i + p.length)) := by
  rw [pre_of h, List.drop_drop]
theorem pre_room {p l : List UInt8} {i : Nat} (h : Lib.hasPrefix (l.drop i) p = true) (hp : 0 < p.length) : i + p.length ≤ l.length := by
  have := pre_len (pre_of h)
  simp only [List.length_drop] at this; omega

set_option maxHeartbeats 1000000 in
set_option maxRecDepth 100000 in
theorem rfind_any (S : ByteArray) (at' : Nat) (w : World) (ha : at' ≤ S.size) (hs : S.size ≤ 1000000000) :
    Calls Tryz.prog 85 #[.string S, .int .i64 at', .string ⟨#[32, 123]⟩] w fun e w' => ((∃ i : Nat, e = .returned (.int .i64 i) ∧ at' ≤ i ∧ i + 2 ≤ S.size ∧ pre [32, 123] (S.data.toList.drop i) = some (S.data.toList.drop (i + 2)) ∧ ∀ j, at' ≤ j → j < i → pre [32, 123] (S.data.toList.drop j) = none) ∨
      (e = .returned (.int .i64 (-1)) ∧ ∀ j, at' ≤ j → pre [32, 123] (S.data.toList.drop j) = none)) ∧ w' = w := by
  have Hl := Lib.hid (Lib.size_eq S).symm
  have h2 : (⟨#[32, 123]⟩ : ByteArray).size = 2 := rfl
  go_enter Tryz.func85, Tryz.ntmps85
  go_wp2_with fail
  go_loop [7] (fun p => ∃ i : Nat, p = .int .i64 i ∧ at' ≤ i ∧ i ≤ S.size ∧ Hid (∀ j, at' ≤ j → j < i → pre [32, 123] (S.data.toList.drop j) = none)) (fun p => S.size - (RowKit.intOf p).toNat)
  case atStart => exact ⟨at', rfl, Nat.le_refl _, ha, fun j h1 h2 => by omega⟩
  case round =>
    obtain ⟨i, rfl, hi1, hi2, HI⟩ := hrel
    by_cases hi : i + 2 ≤ S.size
    · have hx := ext_two S i
      cases hp : Lib.hasPrefix (S.data.toList.drop i) [32, 123] with
      | true =>
        rw [hp] at hx
        have HP := Lib.hid (pre_drop hp)
        clear hp
        go_wp2_with fail
        go_ret
        exact ⟨.inl ⟨i, rfl, hi1, hi, HP.out, HI.out⟩, rfl⟩
      | false =>
        rw [hp] at hx
        have HP := Lib.hid (pre_not hp)
        clear hp
        go_wp2_with fail
        go_round
        case rel =>
          refine ⟨i + 1, by go_num, by omega, by omega, fun j h1 h3 => ?_⟩
          by_cases hj : j = i
          · subst hj; exact HP.out
          · exact HI.out j h1 (by omega)
        case measure => simp [RowKit.intOf]; omega
    · go_wp2_with fail
      go_ret
      refine ⟨.inr ⟨rfl, fun j h1 => ?_⟩, rfl⟩
      by_cases hj : j < i
      · exact HI.out j h1 hj
      · refine pre_short ?_
        rw [List.length_drop, Hl.out]
        show _ < 2; omega

/-- what NodesAt hands back -/
def NodesAtOut (S : ByteArray) (at' deep : Nat) (mark : Bool) (w : World) (e : Ending) (w' : World) : Prop :=
  ((∃ (v : Value) (k : Nat) (t : T), e = .returned (.tuple #[v, .int .i64 k]) ∧ deep ≤ 6 ∧ at' ≤ k ∧ k ≤ S.size ∧ (k = S.size ∨ S.data.toList[k]? = some 125) ∧ SVP (fun b => w.heap.size ≤ b) w' v t ∧ isN t = true ∧ wt t + 6 * (S.size - k) ≤ 6 * (S.size - at') + 1 ∧ NN deep mark (S.data.toList.drop at') = gate t (S.data.toList.drop k)) ∨
    (e = .returned (.tuple #[.slice none 0 0, .int .i64 (-1)]) ∧ (deep ≤ 6 → NN deep mark (S.data.toList.drop at') = none))) ∧ Below w.heap.size w w'
/-- what CasesAt hands back -/
def CasesAtOut (S : ByteArray) (at' deep : Nat) (mark : Bool) (w : World) (e : Ending) (w' : World) : Prop :=
  ((∃ (v : Value) (k : Nat) (t : T), e = .returned (.tuple #[v, .int .i64 k]) ∧ at' < k ∧ k ≤ S.size ∧ SVP (fun b => w.heap.size ≤ b) w' v t ∧ isN.isC t = true ∧ wt t + 6 * (S.size - k) ≤ 6 * (S.size - at') + 1 ∧ CC deep mark (S.data.toList.drop at') = gate t (S.data.toList.drop k)) ∨
    (e = .returned (.tuple #[.slice none 0 0, .int .i64 (-1)]) ∧ CC deep mark (S.data.toList.drop at') = none)) ∧ Below w.heap.size w w'
def NodesAtIH (S : ByteArray) (n : Nat) : Prop := ∀ (at' deep : Nat) (mark : Bool) (w : World), S.size - at' < n → at' ≤ S.size → deep ≤ 7 → 0 < w.heap.size →
  Calls Tryz.prog 34 #[.string S, .int .i64 at', .bool mark, .int .i64 deep] w (NodesAtOut S at' deep mark w)
theorem app_isC : ∀ a b : T, isN.isC a = true → isN.isC b = true → isN.isC (app a b) = true
  | .nil, _, _, h => h
  | .node _ _ _ _ _, _, h, _ => by cases h
  | .case key body nx, b, h1, h2 => by
    obtain ⟨h3, h4⟩ := isC_case h1
    simp only [app, isN.isC, h3, app_isC nx b h4 h2, Bool.and_self]
theorem wt_case (acc body : T) (key : List UInt8) : wt (app acc (.case key body .nil)) = wt acc + (2 + key.length + wt body) := by
  have := app_wt acc (.case key body .nil)
  simp only [wt] at this; omega

set_option maxHeartbeats 4000000 in
set_option maxRecDepth 100000 in
theorem rcas_any (S : ByteArray) (n : Nat) (IH : NodesAtIH S n) (hs : S.size ≤ 1000000) (at' deep : Nat) (mark : Bool) (w : World) (hn : S.size - at' ≤ n) (ha : at' ≤ S.size) (hd : deep ≤ 6) (h0 : 0 < w.heap.size) :
    Calls Tryz.prog 57 #[.string S, .int .i64 at', .bool mark, .int .i64 deep] w (CasesAtOut S at' deep mark w) := by
  obtain ⟨i0, hi, hz0, hz1, hz2⟩ := info_parts infoCase
  have Hl := Lib.hid (Lib.size_eq S).symm
  have IH := Lib.hid IH
  have H0 := Lib.hid h0
  clear h0
  go_enter Tryz.func57, Tryz.ntmps57
  go_wp2_with fail
  go_loopw [1, 10] (fun p out wr => ∃ (i : Nat) (acc : T) (xs : List Value), p = .int .i64 i ∧ at' ≤ i ∧ i ≤ S.size ∧ len acc ≤ i ∧ Hid (isN.isC acc = true ∧ wt acc + 6 * (S.size - i) ≤ 6 * (S.size - at') + 1 ∧ CC deep mark (S.data.toList.drop at') = ahead acc (CC deep mark (S.data.toList.drop i))) ∧ Hid (Acc w 0 45 2 out acc xs wr.heap.size wr) ∧ Hid (Below w.heap.size w wr)) (fun p _ _ => S.size - (RowKit.intOf p).toNat)
  case atStart => exact ⟨at', .nil, [], rfl, Nat.le_refl _, ha, by simp [len], ⟨rfl, by simp only [wt]; omega, (ahead_nil _).symm⟩, Acc.start _ _ H0.out, Below.refl _ _⟩
  case round =>
    obtain ⟨i, acc, xs, rfl, hi1, hi2, hla, HE, HAc, HB⟩ := hrel
    cases hp : Lib.hasPrefix (S.data.toList.drop i) (⟨#[125]⟩ : ByteArray).data.toList with
    | true =>
      have HS := Lib.hid (starts_at S i ⟨#[125]⟩ true hp)
      have hroom := pre_room hp (by decide)
      rw [Hl.out] at hroom
      have hroom : i + 1 ≤ S.size := hroom
      have HC := Lib.hid (show CC deep mark (S.data.toList.drop at') = gate acc (S.data.toList.drop (i + 1)) by rw [HE.out.2.2, CC_end (pre_drop hp), ahead_end]; rfl)
      clear hp
      go_wp2_with fail
      refine (HS.out _).mono ?_
      rintro e w1 ⟨rfl, rfl⟩
      go_wp2_with fail
      go_ret2
      exact ⟨.inl ⟨_, i + 1, acc, rfl, by omega, hroom, HAc.out.done, HE.out.1, by have := HE.out.2.1; omega, HC.out⟩, HB.out⟩
    | false =>
      have HS := Lib.hid (starts_at S i ⟨#[125]⟩ false hp)
      have HP1 := Lib.hid (show pre [125] (S.data.toList.drop i) = none from pre_not hp)
      clear hp
      cases hp : Lib.hasPrefix (S.data.toList.drop i) (⟨#[32]⟩ : ByteArray).data.toList with
      | false =>
        have HS2 := Lib.hid (starts_at S i ⟨#[32]⟩ false hp)
        have HC := Lib.hid (show CC deep mark (S.data.toList.drop at') = none by rw [HE.out.2.2, CC_none HP1.out (pre_not hp), ahead_none])
        clear hp
        go_wp2_with fail
        refine (HS.out _).mono ?_
        rintro e w1 ⟨rfl, rfl⟩
        go_wp2_with fail
        refine (HS2.out _).mono ?_
        rintro e w1 ⟨rfl, rfl⟩
        go_wp2_with fail
        go_ret2
        exact ⟨.inr ⟨rfl, HC.out⟩, HB.out⟩
      | true =>
        have HS2 := Lib.hid (starts_at S i ⟨#[32]⟩ true hp)
        have hroom := pre_room hp (by decide)
        rw [Hl.out] at hroom
        have hroom : i + 1 ≤ S.size := hroom
        have HC := Lib.hid (show CC deep mark (S.data.toList.drop at') = ahead acc (caseC deep mark (S.data.toList.drop (i + 1))) by rw [HE.out.2.2, CC_case HP1.out (pre_drop hp)]; rfl)
        have HF := Lib.hid (show ∀ W, Calls Tryz.prog 85 #[.string S, .int .i64 ((i : Int) + 1), .string ⟨#[32, 123]⟩] W _ from fun W => rfind_any S (i + 1) W hroom (by omega))
        clear hp
        go_wp2_with fail
        refine (HS.out _).mono ?_
        rintro e w1 ⟨rfl, rfl⟩
        go_wp2_with fail
        refine (HS2.out _).mono ?_
        rintro e w1 ⟨rfl, rfl⟩
        go_wp2_with fail
        refine (HF.out _).mono ?_
        rintro e w1 ⟨h, rfl⟩
        rcases h with ⟨z, rfl, hz1', hz2', hpz, hfz⟩ | ⟨rfl, hno⟩
        · have hpz2 : pre [32, 123] ((S.data.toList.drop (i + 1)).drop (z - (i + 1))) = some (S.data.toList.drop (z + 2)) := by
            rw [List.drop_drop, show i + 1 + (z - (i + 1)) = z by omega]; exact hpz
          have hfz2 : ∀ j, j < z - (i + 1) → pre [32, 123] ((S.data.toList.drop (i + 1)).drop j) = none := fun j hj => by
            rw [List.drop_drop]; exact hfz (i + 1 + j) (by omega) (by omega)
          have HZ1 := Lib.hid hpz2; have HZ2 := Lib.hid hfz2
          have HNo := Lib.hid (show ∀ W, 0 < W.heap.size → Calls Tryz.prog 34 #[.string S, .int .i64 ((z : Int) + 2), .bool mark, .int .i64 ((deep : Int) + 1)] W (NodesAtOut S (z + 2) (deep + 1) mark W) from
            fun W hW => IH.out (z + 2) (deep + 1) mark W (by omega) hz2' (by omega) hW)
          clear hpz hfz hpz2 hfz2 HF HS HS2
          go_wp2_with fail
          refine (HNo.out _ (Nat.lt_of_lt_of_le H0.out HB.out.size)).mono ?_
          rintro e w2 ⟨h, hb2⟩
          have HB2 := Lib.hid (HB.out.trans (hb2.mono HB.out.size))
          have HAc2 := Lib.hid (HAc.out.below hb2)
          have hs2 : w1.heap.size ≤ w2.heap.size := hb2.size
          clear HNo hb2
          rcases h with ⟨v, k, body, rfl, hd6, hk1, hk2, hk3, hv, hnb, hwb, hN⟩ | ⟨rfl, hN⟩
          · obtain ⟨va, vn, vc, rfl⟩ := hv.form
            have HV := Lib.hid hv; have HN := Lib.hid hN; have HNb := Lib.hid hnb; have HWb := Lib.hid hwb
            clear hv hN hnb hwb
            by_cases hke : k = S.size
            · have HC3 := Lib.hid (show CC deep mark (S.data.toList.drop at') = none by
                rw [HC.out, caseC_bad HZ1.out HZ2.out (.inr (.inr ⟨body, by rw [HN.out, hke, ← Hl.out, List.drop_length]⟩)), ahead_none])
              subst hke
              go_wp2_with fail
              go_ret2
              exact ⟨.inr ⟨rfl, HC3.out⟩, HB2.out⟩
            · have hk4 : S.data.toList[k]? = some 125 := hk3.resolve_left hke
              obtain ⟨key, hkey⟩ : ∃ key, key = (S.data.toList.drop (i + 1)).take (z - (i + 1)) := ⟨_, rfl⟩
              have hx : S.extract (i + 1) z = ⟨key.toArray⟩ := by rw [hkey]; exact ext_part S (i + 1) z
              have hkl : key.length ≤ z - (i + 1) := by rw [hkey, List.length_take]; omega
              have HC3 := Lib.hid (show CC deep mark (S.data.toList.drop at') = ahead (app acc (.case key body .nil)) (CC deep mark (S.data.toList.drop (k + 1))) by
                rw [HC.out, caseC_step HZ1.out HZ2.out (by omega) HN.out (r5 := S.data.toList.drop (k + 1)) (by rw [Lx.drop_cons hk4]; exact pre_one _ _), ahead_ahead, hkey])
              have hkn : ((k : Int) == (S.size : Int)) = false := beq_eq_false_iff_ne.2 (by omega)
              clear hk3 hk4 hkey HZ1 HZ2 HC HN
              have hlen : len acc ≤ 1000000 := by omega
              have HO7 := Lib.hid HAc2.out.2.2.2.2.1
              have hsw : w.heap.size ≤ w2.heap.size := HB2.out.size
              go_wp2_with (at_builtin; refine wpList_append_lies _ rfl _ _ 33 rfl w.heap.size 45 i0 (.agg #[.string ⟨#[]⟩, .slice none 0 0]) 2 40 Tryz.underlying33 hi hz0 hz1 hz2 rfl (by decide) _ (len acc) xs rfl (HO7.out.alloc _) ⟨w2.heap.size, 0, none⟩ 1 1 [.string ⟨key.toArray⟩, .slice va vn vc] rfl rfl (World.news_of_block (Go.heap_alloc_new _ _)) (fun x hx => by simp at hx; rcases hx with rfl | rfl <;> rfl) (by decide) (by unfold maxLen; omega) (by omega) (by simp; omega) _ rfl ?_; intro g cap w8 hown8 hgrow8 hat8 _)
              all_goals
                have HAc8 := HAc2.out.more (el := .case key body .nil) (M := w1.heap.size) (Nat.le_refl _) HV.out (by rw [app_len]; rfl) (fun _ _ h1 h2 => RdX.case h1 acc xs h2) hown8 hgrow8 hat8
                have hB8 := below_grown (HB2.out.alloc HB2.out.size _) hgrow8 (fun k hk => (HO7.out.lt k hk).1) (by simp; omega)
                go_roundw
                case rel =>
                  refine ⟨k + 1, _, _, by go_num, by omega, by omega, ?_, ⟨app_isC _ _ HE.out.1 (by simp [isN.isC, HNb.out]), ?_, HC3.out⟩, HAc8, hB8⟩
                  · rw [app_len]; simp only [len]; omega
                  · rw [wt_case]; have h1 := HE.out.2.1; have h2 := HWb.out; omega
                case measure => simp [RowKit.intOf]; omega
          · have HC3 := Lib.hid (show CC deep mark (S.data.toList.drop at') = none by
              rw [HC.out, caseC_bad HZ1.out HZ2.out (by
                by_cases h6 : 6 ≤ deep
                · exact .inl h6
                · exact .inr (.inl (hN (by omega)))), ahead_none])
            clear hN
            go_wp2_with fail
            go_ret2
            exact ⟨.inr ⟨rfl, HC3.out⟩, HB2.out⟩
        · have HC3 := Lib.hid (show CC deep mark (S.data.toList.drop at') = none by
            rw [HC.out, caseC_none (fun j _ => by rw [List.drop_drop]; exact hno (i + 1 + j) (by omega)), ahead_none])
          clear hno
          go_wp2_with fail
          go_ret2
          exact ⟨.inr ⟨rfl, HC3.out⟩, HB.out⟩
end Go.Proofs.YtgkphpjnfigjiaaGreatDoor
