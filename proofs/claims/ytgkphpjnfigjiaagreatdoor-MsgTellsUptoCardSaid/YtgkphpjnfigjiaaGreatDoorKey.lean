/-
  msg.exact, msg.key: the numbers of exact keys, and the keys of cases.
-/
import Derived.Test.YtgkphpjnfigjiaaGreatDoorName
import Derived.Lib.ItoaLen
import Derived.Lib.QuietBelow
import Derived.Lib.AtoiAllCases
import Derived.Lib.AtoiTie
import Derived.Lib.SmallJoins
namespace Go.Proofs.YtgkphpjnfigjiaaGreatDoor
open Go.RowKit Ms
open Go.Lib (decDigits)
open Go.Sort in
theorem grow_drewN_below (w : World) (k : Nat) (os : Array Obj) : Below w.heap.size w (grow (w.drewN k) os) := by
  have h := Go.below_regrown w (w.drewN k).drawn os
  exact h

/-! ### plain: which number a text without its sign spells -/
def dd (n : Nat) : List UInt8 := if n < 10 then [UInt8.ofNat (48 + n)] else if n < 100 then [UInt8.ofNat (48 + n / 10), UInt8.ofNat (48 + n % 10)] else [UInt8.ofNat (48 + n / 100), UInt8.ofNat (48 + n / 10 % 10), UInt8.ofNat (48 + n % 10)]
theorem dec_dd (n : Nat) (h : n < 1000) : decDigits n = dd n := by
  unfold dd
  by_cases h1 : n < 10
  · rw [if_pos h1, Lib.decDigits_one h1]
  · rw [if_neg h1]
    by_cases h2 : n < 100
    · rw [if_pos h2, Lib.decDigits_two h1 h2]
    · rw [if_neg h2, decDigits, dif_neg h1, Lib.decDigits_two (by omega) (by omega)]
      rw [show n / 10 / 10 = n / 100 by omega]; rfl
set_option maxRecDepth 1000000 in
theorem atoi_dd : ∀ n : Fin 1000, Lib.atoiAll (dd n.1) = .ok (n.1 : Int) := by decide +kernel
theorem exact_not {c : UInt8} {r : List UInt8} (h : c ≠ 61) : exactN (c :: r) = -1 := by rw [exactN_cons, if_neg h]
/-- where Atoi tells no number of the rest, or another one -/
theorem exact_bad {r : List UInt8} (h : ∀ n : Nat, n < 1000 → Lib.atoiAll r = .ok (n : Int) → Lib.itoa (n : Int) ≠ r) : exactN (61 :: r) = -1 := by
  rw [exactN_cons, if_pos rfl]
  cases hf : numOf r with
  | none => rfl
  | some n =>
    exfalso
    unfold numOf at hf
    have h1 : decDigits n = r := by simpa using List.find?_some hf
    have h2 := List.mem_range.1 (List.mem_of_find?_eq_some hf)
    have h3 := atoi_dd ⟨n, h2⟩
    rw [← dec_dd n h2, h1] at h3
    exact h n h2 h3 (by rw [Lib.itoa_nonneg, h1])
theorem exact_good {r : List UInt8} {n : Nat} (hn : n < 1000) (h : Lib.itoa (n : Int) = r) : exactN (61 :: r) = n := by
  rw [Lib.itoa_nonneg] at h
  rw [exactN_cons, if_pos rfl]
  cases hf : numOf r with
  | none =>
    unfold numOf at hf
    have := List.find?_eq_none.1 hf n (List.mem_range.2 hn)
    rw [h] at this; simp at this
  | some m =>
    unfold numOf at hf
    have h1 : decDigits m = r := by simpa using List.find?_some hf
    have h2 := List.mem_range.1 (List.mem_of_find?_eq_some hf)
    have h3 := atoi_dd ⟨n, hn⟩; have h4 := atoi_dd ⟨m, h2⟩
    rw [← dec_dd _ hn, h] at h3
    rw [← dec_dd _ h2, h1, h3] at h4
    have h5 := Lib.NumEnd.ok.inj h4
    simp only at h5
    have : n = m := by omega
    subst this; rfl

/-! ### what the world must hold -/
def Pow10At (w : World) : Prop := Lib.TabIs Tryz.prog w "internal/strconv.uint64pow10" .u64 Lib.pow10Tab
theorem Tryz.itoa (n : Int) (h0 : -9223372036854775808 ≤ n) (h1 : n ≤ 9223372036854775807) (w : World) (h : Pow10At w) :
    Calls Tryz.prog 76 #[.int .i64 n] w fun e w' => e = .returned (.string ⟨(Lib.itoa n).toArray⟩) ∧ Below w.heap.size w w' :=
  (Tryz.strconv_Itoa n h0 h1 w h).mono fun e w' hh => ⟨hh.1, by obtain ⟨k, os, rfl⟩ := hh.2; exact grow_drewN_below w k os⟩
def kindsB : List ByteArray := kindsL.map fun l => ⟨l.toArray⟩
/-- a variable of an interface type: some interface value -/
def IfAt (w : World) (g : Nat) : Prop := ∃ ev, w.cell? ⟨g, 0, none⟩ = some ev ∧ (ev = .nilIface ∨ ∃ te pe, ev = .iface te pe)
structure MW (w : World) : Prop where
  pow : Pow10At w
  syn : IfAt w 9
  ran : IfAt w 10
  kinds : ∃ b o c, w.cell? ⟨1, 0, none⟩ = some (.slice (some ⟨b, o, none⟩) 6 c) ∧ 6 ≤ c ∧ ∀ j, j < 6 → w.cell? ⟨b, o + j, none⟩ = some (.string (kindsB.getD j ByteArray.empty))
theorem pow_named : Tryz.prog.globalNamed "internal/strconv.uint64pow10" = some 6 := by kernel_rfl
theorem MW.below {w w' : World} (h : MW w) (hb : Below w.heap.size w w') : MW w' := by
  have kc := keepCells hb
  refine ⟨Go.Joins.tab_stays pow_named h.pow hb (Nat.le_refl _), ?_, ?_, ?_⟩
  · obtain ⟨ev, h1, h2⟩ := h.syn; exact ⟨ev, kc _ _ _ h1, h2⟩
  · obtain ⟨ev, h1, h2⟩ := h.ran; exact ⟨ev, kc _ _ _ h1, h2⟩
  · obtain ⟨b, o, c, h1, h2, h3⟩ := h.kinds; exact ⟨b, o, c, kc _ _ _ h1, h2, fun j hj => kc _ _ _ (h3 j hj)⟩

/-- strconv.Atoi, whatever text -/
theorem Tryz.atoi (s : ByteArray) (w : World) (hs : s.size ≤ 2000000) (hw : MW w) :
    Calls Tryz.prog 132 #[.string s] w fun e w' => (∃ (v : Int) (er : Value), e = .returned (.tuple #[.int .i64 v, er]) ∧ ((er = .nilIface ∧ Lib.atoiAll s.data.toList = .ok v) ∨ (∃ te pe, er = .iface te pe) ∧ ∀ n : Int, Lib.atoiAll s.data.toList ≠ .ok n)) ∧ Below w.heap.size w w' := by
  rcases h : Lib.atoiAll s.data.toList with v | _ | _
  · refine (Tryz.strconv_Atoi_ok s (by omega) v h w).mono ?_
    rintro e w' ⟨rfl, hb⟩
    refine ⟨⟨v, .nilIface, rfl, .inl ⟨rfl, rfl⟩⟩, ?_⟩
    rcases hb with rfl | ⟨t, rfl⟩
    · exact Below.refl _ _
    · exact Go.Joins.below_bytesWorld _ _ _ _ (Nat.le_refl _)
  · obtain ⟨ev, h1, h2⟩ := hw.syn
    refine (show Calls Tryz.prog 132 #[.string s] w _ from Any.strconv_Atoi_syntax Tryz.laysC172 s (by omega) h ev w h1 h2).mono ?_
    rintro e w' ⟨N, rfl, _, _, hb⟩
    exact ⟨⟨_, _, rfl, .inr ⟨⟨_, _, rfl⟩, fun n h => by cases h⟩⟩, hb⟩
  · obtain ⟨ev, h1, h2⟩ := hw.ran
    refine (Tryz.strconv_Atoi_range s (by omega) h ev w h1 h2).mono ?_
    rintro e w' ⟨N, rfl, _, _, hb⟩
    exact ⟨⟨_, _, rfl, .inr ⟨⟨_, _, rfl⟩, fun n h => by cases h⟩⟩, hb⟩

theorem strOf {x : ByteArray} {l : List UInt8} (h : x.data.toList = l) : x = ⟨l.toArray⟩ := by subst h; exact (strOf_ext x).symm
set_option maxHeartbeats 1000000 in
set_option maxRecDepth 100000 in
theorem exact_any (x : ByteArray) (w : World) (hx : x.size ≤ 2000000) (hw : MW w) :
    Calls Tryz.prog 107 #[.string x] w fun e w' => e = .returned (.int .i64 (exactN x.data.toList)) ∧ Below w.heap.size w w' := by
  have HW := Lib.hid hw; clear hw
  by_cases hp : Lib.hasPrefix x.data.toList [61] = true
  · obtain ⟨r, hr⟩ : ∃ r, x.data.toList = 61 :: r := by
      cases h : x.data.toList with
      | nil => rw [h] at hp; cases hp
      | cons a r =>
        rw [h] at hp
        have : 61 = a := by simpa [Lib.hasPrefix] using hp
        exact ⟨r, by rw [← this]⟩
    have ht : Lib.trimPrefix x.data.toList [61] = r := by rw [hr]; simp [Lib.trimPrefix, Lib.hasPrefix]
    have hl : (⟨r.toArray⟩ : ByteArray).size ≤ 2000000 := by
      have h1 := Lib.size_eq x; rw [hr, List.length_cons] at h1
      have h2 := Lib.size_eq (⟨r.toArray⟩ : ByteArray)
      simp only at h2; omega
    rw [hr]
    go_enter Tryz.func107, Tryz.ntmps107
    go_wp2_with fail
    refine (Tryz.strings_CutPrefix x ⟨#[61]⟩ _).mono ?_
    rintro e w1 ⟨rfl, rfl⟩
    have e1 : (⟨(Lib.trimPrefix x.data.toList (⟨#[61]⟩ : ByteArray).data.toList).toArray⟩ : ByteArray) = ⟨r.toArray⟩ := by rw [← ht]
    have e2 : Lib.hasPrefix x.data.toList (⟨#[61]⟩ : ByteArray).data.toList = true := hp
    rw [e1, e2]
    clear e1 e2 hp ht hr
    go_wp2_with fail
    refine (Tryz.atoi ⟨r.toArray⟩ _ hl HW.out).mono ?_
    rintro e w2 ⟨⟨v, er, rfl, hv⟩, hb⟩
    have HB := Lib.hid hb; clear hb
    rcases hv with ⟨rfl, hv⟩ | ⟨⟨te, pe, rfl⟩, hv⟩
    · by_cases hv0 : v < 0
      · have hx : exactN (61 :: r) = -1 := exact_bad fun n _ h => by rw [hv] at h; have := Lib.NumEnd.ok.inj h; omega
        have HX := Lib.hid hx; clear hx hv
        go_wp2_with fail
        go_ret
        exact ⟨by rw [HX.out] <;> rfl, HB.out⟩
      · by_cases hv9 : 999 < v
        · have hx : exactN (61 :: r) = -1 := exact_bad fun n _ h => by rw [hv] at h; have := Lib.NumEnd.ok.inj h; omega
          have HX := Lib.hid hx; clear hx hv
          go_wp2_with fail
          go_ret
          exact ⟨by rw [HX.out] <;> rfl, HB.out⟩
        · have HV := Lib.hid hv; clear hv
          have hi := Tryz.itoa v (by omega) (by omega) w2 (HW.out.below HB.out).pow
          have HI := Lib.hid hi; clear hi
          obtain ⟨m, rfl⟩ : ∃ m : Nat, v = m := ⟨v.toNat, by omega⟩
          go_wp2_with fail
          refine HI.out.mono ?_
          rintro e w3 ⟨rfl, hb3⟩
          have HB3 := Lib.hid (HB.out.trans (hb3.mono HB.out.size)); clear hb3
          by_cases hq : Lib.itoa (m : Int) = r
          · have hx : exactN (61 :: r) = m := exact_good (by omega) hq
            have HX := Lib.hid hx; clear hx
            rw [hq]
            clear HI hq
            go_wp2_with fail
            go_ret
            exact ⟨by rw [HX.out] <;> rfl, HB3.out⟩
          · have hx : exactN (61 :: r) = -1 := exact_bad fun n _ h => by rw [HV.out] at h; have := Lib.NumEnd.ok.inj h; rw [← this]; exact hq
            have HX := Lib.hid hx; clear hx
            go_wp2_with fail
            · go_ret
              exact ⟨by rw [HX.out] <;> rfl, HB3.out⟩
            · rename_i hh
              exfalso; have := hh.2; simp [hq] at this
    · have hx : exactN (61 :: r) = -1 := exact_bad fun n _ h => absurd h (hv n)
      have HX := Lib.hid hx; clear hx hv
      go_wp2_with fail
      go_ret
      exact ⟨by rw [HX.out] <;> rfl, HB.out⟩
  · have hp' : Lib.hasPrefix x.data.toList [61] = false := by simpa using hp
    have hx2 : exactN x.data.toList = -1 := by
      cases h : x.data.toList with
      | nil => rfl
      | cons a r =>
        refine exact_not fun ha => ?_
        rw [h, ha] at hp'
        simp [Lib.hasPrefix] at hp'
    have ht : Lib.trimPrefix x.data.toList [61] = x.data.toList := by unfold Lib.trimPrefix; rw [hp']; rfl
    have HX := Lib.hid hx2; clear hx2 hp
    go_enter Tryz.func107, Tryz.ntmps107
    go_wp2_with fail
    refine (Tryz.strings_CutPrefix x ⟨#[61]⟩ _).mono ?_
    rintro e w1 ⟨rfl, rfl⟩
    have e1 : (⟨(Lib.trimPrefix x.data.toList (⟨#[61]⟩ : ByteArray).data.toList).toArray⟩ : ByteArray) = x := by
      show (⟨(Lib.trimPrefix x.data.toList [61]).toArray⟩ : ByteArray) = x
      rw [ht]
    have e2 : Lib.hasPrefix x.data.toList (⟨#[61]⟩ : ByteArray).data.toList = false := hp'
    rw [e1, e2]
    clear e1 e2 hp' ht
    go_wp2_with fail
    refine (Tryz.atoi x _ hx HW.out).mono ?_
    rintro e w2 ⟨⟨v, er, rfl, hv⟩, hb⟩
    have HB := Lib.hid hb; clear hb hv
    go_wp2_with fail
    go_ret
    exact ⟨by rw [HX.out] <;> rfl, HB.out⟩

theorem mem_bytes (L : List (List UInt8)) (x : ByteArray) : x ∈ L.map (fun l => (⟨l.toArray⟩ : ByteArray)) ↔ x.data.toList ∈ L := by
  rw [List.mem_map]
  constructor
  · rintro ⟨l, hl, rfl⟩; simpa using hl
  · intro h; exact ⟨_, h, strOf_ext x⟩
theorem contains_bytes (L : List (List UInt8)) (x : ByteArray) : Lib.containsS (L.map (fun l => (⟨l.toArray⟩ : ByteArray))) x = L.contains x.data.toList := by
  rw [Bool.eq_iff_iff, Lib.containsS_iff, mem_bytes]; simp
theorem kinds_take (x : ByteArray) : Lib.containsS (kindsB.take 6) x = kindsL.contains x.data.toList := contains_bytes kindsL x
set_option maxHeartbeats 1000000 in
set_option maxRecDepth 100000 in
theorem key_any (k f : Int) (t : ByteArray) (v : Value) (x : ByteArray) (w : World) (hx : x.size ≤ 2000000) (hw : MW w) :
    Calls Tryz.prog 83 #[.agg #[.int .i64 k, .string t, .int .i64 f, v], .string x] w fun e w' => e = .returned (.bool (keyB k x.data.toList)) ∧ Below w.heap.size w w' := by
  have HB0 := Lib.hid ((Below.refl w.heap.size w).alloc (Nat.le_refl _) (.cells #[.int .i64 k, .string t, .int .i64 f, v] 35))
  have HW := Lib.hid (hw.below HB0.out)
  clear hw
  by_cases h5 : k = 5
  · subst h5
    have hk : keyB 5 x.data.toList = nameB x.data.toList := rfl
    have HK := Lib.hid hk; clear hk
    go_enter Tryz.func83, Tryz.ntmps83
    go_wp2_with fail
    refine (name_any x _ hx).mono ?_
    rintro e w1 ⟨rfl, hb⟩
    have HB := Lib.hid (HB0.out.trans (hb.mono HB0.out.size)); clear hb
    go_wp2_with fail
    go_ret
    exact ⟨by rw [HK.out] <;> rfl, HB.out⟩
  · have hk : keyB k x.data.toList = (kindsL.contains x.data.toList || decide (0 ≤ exactN x.data.toList)) := by unfold keyB; rw [if_neg h5]
    obtain ⟨b, o, c, hv, hc6, hc⟩ := HW.out.kinds
    have hcon := fun W => Tryz.slices_Contains_string b o 6 c kindsB x W (by decide) (by decide)
    have HK := Lib.hid hk; have HC := Lib.hid hcon; have HCC := Lib.hid hc
    clear hk hcon hc
    go_enter Tryz.func83, Tryz.ntmps83
    go_wp2_with fail
    refine (HC.out _ HCC.out).mono ?_
    rintro e w1 ⟨rfl, rfl⟩
    rw [kinds_take]
    cases hin : kindsL.contains x.data.toList with
    | true =>
      have HIN := Lib.hid hin; clear hin
      go_wp2_with fail
      go_ret
      exact ⟨by rw [HK.out, HIN.out] <;> rfl, HB0.out⟩
    | false =>
      have HIN := Lib.hid hin; clear hin
      go_wp2_with fail
      refine (exact_any x _ hx HW.out).mono ?_
      rintro e w2 ⟨rfl, hb⟩
      have HB := Lib.hid (HB0.out.trans (hb.mono HB0.out.size)); clear hb
      go_wp2_with fail
      go_ret
      exact ⟨by rw [HK.out, HIN.out] <;> rfl, HB.out⟩
end Go.Proofs.YtgkphpjnfigjiaaGreatDoor
