/-
  msg.Name, msg.exact, msg.key: names and keys.
  msg.exact, msg.key: the numbers of exact keys, and the keys of cases.
  msg.fine: is a node fine, but for its offset and its cases?
-/
import Derived.Test.YtnefcilopgcdpaaGreatDoorBase
import Derived.Test.YtnefcilopgcdpaaGreatDoorShelf
import Derived.Shelf.Strings.SlTrimAscii
import Derived.Shelf.Strconv.Itoa4
import Derived.Lib.ItoaLen
import Derived.Lib.QuietBelow
import Derived.Lib.AtoiAllCases
import Derived.Lib.AtoiTie
import Derived.Lib.SmallJoins
namespace Go.Proofs.YtnefcilopgcdpaaGreatDoor
open Go.RowKit Ms

def nameSet : List UInt8 := [97, 98, 99, 100, 101, 102, 103, 104, 105, 106, 107, 108, 109, 110, 111, 112, 113, 114, 115, 116, 117, 118, 119, 120, 121, 122, 48, 49, 50, 51, 52, 53, 54, 55, 56, 57, 95]
def lowSet : List UInt8 := [97, 98, 99, 100, 101, 102, 103, 104, 105, 106, 107, 108, 109, 110, 111, 112, 113, 114, 115, 116, 117, 118, 119, 120, 121, 122]
set_option maxRecDepth 100000 in
theorem nameSet_is (c : UInt8) : nameSet.contains c = namec c := by
  have h : ∀ n : Fin 256, nameSet.contains (UInt8.ofNat n.1) = namec (UInt8.ofNat n.1) := by decide +kernel
  have := h ⟨c.toNat, c.toNat_lt⟩
  simpa using this
set_option maxRecDepth 100000 in
theorem lowSet_is (c : UInt8) : decide (0 ≤ Lib.indexByte lowSet c) = low c := by
  have h : ∀ n : Fin 256, decide (0 ≤ Lib.indexByte lowSet (UInt8.ofNat n.1)) = low (UInt8.ofNat n.1) := by decide +kernel
  have := h ⟨c.toNat, c.toNat_lt⟩
  simpa using this
theorem dropWhile_nil {p : UInt8 → Bool} : ∀ l : List UInt8, (l.dropWhile p = [] ↔ l.all p = true)
  | [] => by simp
  | a :: l => by
    cases h : p a
    · simp [List.dropWhile, h]
    · simp only [List.dropWhile, h, List.all_cons, Bool.true_and]; exact dropWhile_nil l
theorem dropWhile_head {p : UInt8 → Bool} : ∀ (l : List UInt8) (a : UInt8) (r : List UInt8), l.dropWhile p = a :: r → p a = false
  | [], _, _, h => by cases h
  | b :: l, a, r, h => by
    cases hb : p b
    · simp only [List.dropWhile, hb] at h; cases h; exact hb
    · simp only [List.dropWhile, hb] at h; exact dropWhile_head l a r h
theorem trim_nil (l cs : List UInt8) : (Lib.trimS l cs).isEmpty = l.all cs.contains := by
  have e : (Lib.trimS l cs).isEmpty = true ↔ l.all cs.contains = true := by
    rw [List.isEmpty_iff]
    show (((l.reverse.dropWhile (cs.contains ·)).reverse).dropWhile (cs.contains ·)) = [] ↔ _
    rw [dropWhile_nil, List.all_reverse]
    constructor
    · intro h
      cases hd : l.reverse.dropWhile (cs.contains ·) with
      | nil => have := (dropWhile_nil _).1 hd; rwa [List.all_reverse] at this
      | cons a r =>
        have h1 := dropWhile_head _ _ _ hd
        rw [hd] at h
        simp only [List.all_cons, Bool.and_eq_true] at h
        rw [h1] at h; cases h.1
    · intro h
      have : l.reverse.dropWhile (cs.contains ·) = [] := (dropWhile_nil _).2 (by rw [List.all_reverse]; exact h)
      rw [this]; rfl
  cases h1 : (Lib.trimS l cs).isEmpty <;> cases h2 : l.all cs.contains
  · rfl
  · exact absurd (e.2 h2) (by rw [h1]; simp)
  · exact absurd (e.1 h1) (by rw [h2]; simp)
  · rfl
theorem Tryz.trim (s cut : ByteArray) (w : World) (hs : s.size ≤ 9223372036854775807) (hc : cut.size < 4294967281) (hascii : ∀ (j : Nat) b, cut.data.toList[j]? = some b → b.toNat < 128) :
    Calls Tryz.prog 41 #[.string s, .string cut] w fun e w' => e = .returned (.string ⟨(Lib.trimS s.data.toList cut.data.toList).toArray⟩) ∧ Below w.heap.size w w' :=
  Any.strings_Trim_laid Tryz.lays160 (by kernel_rfl) s cut w hs hc hascii

set_option maxHeartbeats 1000000 in
set_option maxRecDepth 100000 in
theorem name_any (x : ByteArray) (w : World) (hx : x.size ≤ 2100000) :
    Calls Tryz.prog 27 #[.string x] w fun e w' => e = .returned (.bool (nameB x.data.toList)) ∧ Below w.heap.size w w' := by
  by_cases h0 : x.size = 0
  · have hn : nameB x.data.toList = false := by rw [nil_of_size h0]; rfl
    have he := emp_true h0
    have HN := Lib.hid hn; clear hn
    go_enter Tryz.func27, Tryz.ntmps27
    go_wp2_with fail
    go_ret
    exact ⟨by rw [HN.out]; rfl, Below.refl _ _⟩
  · have he := emp_false h0
    obtain ⟨c, r, hcr⟩ : ∃ c r, x.data.toList = c :: r := by
      cases h : x.data.toList with
      | nil => exact absurd (by have := Lib.size_eq x; rw [h] at this; exact this) h0
      | cons c r => exact ⟨c, r, rfl⟩
    have hlen : (c :: r).length = x.size := by rw [← hcr, ← Lib.size_eq]
    by_cases h20 : x.size ≤ 20
    · have ht : (⟨(Lib.trimS x.data.toList nameSet).toArray⟩ : ByteArray).toList.isEmpty = (c :: r).all namec := by
        rw [Lib.toList_data]
        show (Lib.trimS x.data.toList nameSet).isEmpty = _
        rw [trim_nil, hcr]
        exact congrArg (List.all (c :: r)) (funext nameSet_is)
      have hn : nameB x.data.toList = ((c :: r).all namec && low c) := by
        rw [hcr]; simp only [nameB]; rw [hlen, decide_eq_true h20, Bool.true_and]
      have h00 : 0 < x.size := by omega
      have hg : x[0]'h00 = c := by
        have : x.data.toList[0]? = some c := by rw [hcr]; rfl
        have h2 : x.data.toList[0]? = some (x[0]'h00) := by
          rw [List.getElem?_eq_getElem (by rw [← Lib.size_eq]; exact h00)]; rfl
        rw [h2] at this; exact Option.some.inj this
      have hlo := lowSet_is c
      have HT := Lib.hid ht; have HN := Lib.hid hn; have HG := Lib.hid hg; have HLO := Lib.hid hlo
      clear ht hn hg hlo hcr hlen
      cases hall : (c :: r).all namec with
      | false =>
        have ht2 : (⟨(Lib.trimS x.data.toList nameSet).toArray⟩ : ByteArray).toList.isEmpty = false := by rw [HT.out, hall]
        have HA := Lib.hid hall; clear hall
        go_enter Tryz.func27, Tryz.ntmps27
        go_wp2_with fail
        refine (Tryz.trim x ⟨nameSet.toArray⟩ _ (by omega) (by decide) (ascii_of_all (by decide))).mono ?_
        rintro e w1 ⟨rfl, hb⟩
        generalize (⟨(Lib.trimS x.data.toList nameSet).toArray⟩ : ByteArray) = tt at ht2
        have HB := Lib.hid hb; clear hb
        go_wp2_with fail
        go_ret
        exact ⟨by rw [HN.out, HA.out]; rfl, HB.out⟩
      | true =>
        have ht2 : (⟨(Lib.trimS x.data.toList nameSet).toArray⟩ : ByteArray).toList.isEmpty = true := by rw [HT.out, hall]
        have HA := Lib.hid hall; clear hall
        go_enter Tryz.func27, Tryz.ntmps27
        go_wp2_with fail
        refine (Tryz.trim x ⟨nameSet.toArray⟩ _ (by omega) (by decide) (ascii_of_all (by decide))).mono ?_
        rintro e w1 ⟨rfl, hb⟩
        generalize (⟨(Lib.trimS x.data.toList nameSet).toArray⟩ : ByteArray) = tt at ht2
        have HB := Lib.hid hb; clear hb
        go_wp2_with fail
        refine (Tryz.strings_IndexByte ⟨lowSet.toArray⟩ (x[0]'h00).toNat w1).mono ?_
        rintro e w2 ⟨rfl, rfl⟩
        have hk : decide (0 ≤ Lib.indexByte lowSet (((x[0]'h00).toNat : Int).toNat.toUInt8)) = low c := by
          rw [← HLO.out]
          have : (((x[0]'h00).toNat : Int).toNat.toUInt8) = c := by rw [HG.out]; simp
          rw [this]; rfl
        generalize hj : Lib.indexByte lowSet (((x[0]'h00).toNat : Int).toNat.toUInt8) = j at hk
        show _
        have hj2 : Lib.indexByte (⟨lowSet.toArray⟩ : ByteArray).data.toList (((x[0]'h00).toNat : Int).toNat.toUInt8) = j := hj
        simp only []
        clear hj hj2
        by_cases hjn : 0 ≤ j
        · have HL : Hid (low c = true) := by rw [← hk]; exact decide_eq_true hjn
          clear hk
          go_wp2_with fail
          go_ret
          exact ⟨by rw [HN.out, HA.out, HL.out]; rfl, HB.out⟩
        · have HL : Hid (low c = false) := by rw [← hk]; exact decide_eq_false hjn
          clear hk
          go_wp2_with fail
          go_ret
          exact ⟨by rw [HN.out, HA.out, HL.out]; rfl, HB.out⟩
    · have hn : nameB x.data.toList = false := by
        rw [hcr]; simp only [nameB]; rw [hlen, decide_eq_false h20]; rfl
      have HN := Lib.hid hn; clear hn hcr hlen
      go_enter Tryz.func27, Tryz.ntmps27
      go_wp2_with fail
      go_ret
      exact ⟨by rw [HN.out]; rfl, Below.refl _ _⟩
end Go.Proofs.YtnefcilopgcdpaaGreatDoor
namespace Go.Proofs.YtnefcilopgcdpaaGreatDoor
open Go.RowKit Ms
open Go.Lib (decDigits)
open Go.Sort in
theorem grow_drewN_below (w : World) (k : Nat) (os : Array Obj) : Below w.heap.size w (grow (w.drewN k) os) := by
  have h := Go.below_regrown w (w.drewN k).drawn os
  exact h

/-! ### plain: which number a text without its sign spells -/
def dd (n : Nat) : List UInt8 := if n < 10 then [UInt8.ofNat (48 + n)] else if n < 100 then [UInt8.ofNat (48 + n / 10), UInt8.ofNat (48 + n % 10)] else [UInt8.ofNat (48 + n / 100), UInt8.ofNat (48 + n / 10 % 10), UInt8.ofNat (48 + n % 10)]
theorem dec_dd (n : Nat) (h : n < 1000) : decDigits n = dd n := by
  unfold dd
  by_cases h1 : n < 10
  · rw [if_pos h1, Lib.decDigits_one h1]
  · rw [if_neg h1]
    by_cases h2 : n < 100
    · rw [if_pos h2, Lib.decDigits_two h1 h2]
    · rw [if_neg h2, decDigits, dif_neg h1, Lib.decDigits_two (by omega) (by omega)]
      rw [show n / 10 / 10 = n / 100 by omega]; rfl
set_option maxRecDepth 1000000 in
theorem atoi_dd : ∀ n : Fin 1000, Lib.atoiAll (dd n.1) = .ok (n.1 : Int) := by decide +kernel
theorem exact_not {c : UInt8} {r : List UInt8} (h : c ≠ 61) : exactN (c :: r) = -1 := by rw [exactN_cons, if_neg h]
/-- where Atoi tells no number of the rest, or another one -/
theorem exact_bad {r : List UInt8} (h : ∀ n : Nat, n < 1000 → Lib.atoiAll r = .ok (n : Int) → Lib.itoa (n : Int) ≠ r) : exactN (61 :: r) = -1 := by
  rw [exactN_cons, if_pos rfl]
  cases hf : numOf r with
  | none => rfl
  | some n =>
    exfalso
    unfold numOf at hf
    have h1 : decDigits n = r := by simpa using List.find?_some hf
    have h2 := List.mem_range.1 (List.mem_of_find?_eq_some hf)
    have h3 := atoi_dd ⟨n, h2⟩
    rw [← dec_dd n h2, h1] at h3
    exact h n h2 h3 (by rw [Lib.itoa_nonneg, h1])
theorem exact_good {r : List UInt8} {n : Nat} (hn : n < 1000) (h : Lib.itoa (n : Int) = r) : exactN (61 :: r) = n := by
  rw [Lib.itoa_nonneg] at h
  rw [exactN_cons, if_pos rfl]
  cases hf : numOf r with
  | none =>
    unfold numOf at hf
    have := List.find?_eq_none.1 hf n (List.mem_range.2 hn)
    rw [h] at this; simp at this
  | some m =>
    unfold numOf at hf
    have h1 : decDigits m = r := by simpa using List.find?_some hf
    have h2 := List.mem_range.1 (List.mem_of_find?_eq_some hf)
    have h3 := atoi_dd ⟨n, hn⟩; have h4 := atoi_dd ⟨m, h2⟩
    rw [← dec_dd _ hn, h] at h3
    rw [← dec_dd _ h2, h1, h3] at h4
    have h5 := Lib.NumEnd.ok.inj h4
    simp only at h5
    have : n = m := by omega
    subst this; rfl

/-! ### what the world must hold -/
def Pow10At (w : World) : Prop := Lib.TabIs Tryz.prog w "internal/strconv.uint64pow10" .u64 Lib.pow10Tab
theorem Tryz.itoa (n : Int) (h0 : -9223372036854775808 ≤ n) (h1 : n ≤ 9223372036854775807) (w : World) (h : Pow10At w) :
    Calls Tryz.prog 51 #[.int .i64 n] w fun e w' => e = .returned (.string ⟨(Lib.itoa n).toArray⟩) ∧ Below w.heap.size w w' :=
  (Tryz.strconv_Itoa n h0 h1 w h).mono fun e w' hh => ⟨hh.1, by obtain ⟨k, os, rfl⟩ := hh.2; exact grow_drewN_below w k os⟩
def kindsB : List ByteArray := kindsL.map fun l => ⟨l.toArray⟩
/-- a variable of an interface type: some interface value -/
def IfAt (w : World) (g : Nat) : Prop := ∃ ev, w.cell? ⟨g, 0, none⟩ = some ev ∧ (ev = .nilIface ∨ ∃ te pe, ev = .iface te pe)
structure MW (w : World) : Prop where
  pow : Pow10At w
  syn : IfAt w 9
  ran : IfAt w 10
  kinds : ∃ b o c, w.cell? ⟨2, 0, none⟩ = some (.slice (some ⟨b, o, none⟩) 6 c) ∧ 6 ≤ c ∧ ∀ j, j < 6 → w.cell? ⟨b, o + j, none⟩ = some (.string (kindsB.getD j ByteArray.empty))
theorem pow_named : Tryz.prog.globalNamed "internal/strconv.uint64pow10" = some 8 := by kernel_rfl
theorem MW.below {w w' : World} (h : MW w) (hb : Below w.heap.size w w') : MW w' := by
  have kc := keepCells hb
  refine ⟨Go.Joins.tab_stays pow_named h.pow hb (Nat.le_refl _), ?_, ?_, ?_⟩
  · obtain ⟨ev, h1, h2⟩ := h.syn; exact ⟨ev, kc _ _ _ h1, h2⟩
  · obtain ⟨ev, h1, h2⟩ := h.ran; exact ⟨ev, kc _ _ _ h1, h2⟩
  · obtain ⟨b, o, c, h1, h2, h3⟩ := h.kinds; exact ⟨b, o, c, kc _ _ _ h1, h2, fun j hj => kc _ _ _ (h3 j hj)⟩

/-- strconv.Atoi, whatever text -/
theorem Tryz.atoi (s : ByteArray) (w : World) (hs : s.size ≤ 2100000) (hw : MW w) :
    Calls Tryz.prog 108 #[.string s] w fun e w' => (∃ (v : Int) (er : Value), e = .returned (.tuple #[.int .i64 v, er]) ∧ ((er = .nilIface ∧ Lib.atoiAll s.data.toList = .ok v) ∨ (∃ te pe, er = .iface te pe) ∧ ∀ n : Int, Lib.atoiAll s.data.toList ≠ .ok n)) ∧ Below w.heap.size w w' := by
  rcases h : Lib.atoiAll s.data.toList with v | _ | _
  · refine (Tryz.strconv_Atoi_ok s (by omega) v h w).mono ?_
    rintro e w' ⟨rfl, hb⟩
    refine ⟨⟨v, .nilIface, rfl, .inl ⟨rfl, rfl⟩⟩, ?_⟩
    rcases hb with rfl | ⟨t, rfl⟩
    · exact Below.refl _ _
    · exact Go.Joins.below_bytesWorld _ _ _ _ (Nat.le_refl _)
  · obtain ⟨ev, h1, h2⟩ := hw.syn
    refine (show Calls Tryz.prog 108 #[.string s] w _ from Any.strconv_Atoi_syntax Tryz.laysC172 s (by omega) h ev w h1 h2).mono ?_
    rintro e w' ⟨N, rfl, _, _, hb⟩
    exact ⟨⟨_, _, rfl, .inr ⟨⟨_, _, rfl⟩, fun n h => by cases h⟩⟩, hb⟩
  · obtain ⟨ev, h1, h2⟩ := hw.ran
    refine (Tryz.strconv_Atoi_range s (by omega) h ev w h1 h2).mono ?_
    rintro e w' ⟨N, rfl, _, _, hb⟩
    exact ⟨⟨_, _, rfl, .inr ⟨⟨_, _, rfl⟩, fun n h => by cases h⟩⟩, hb⟩

theorem strOf {x : ByteArray} {l : List UInt8} (h : x.data.toList = l) : x = ⟨l.toArray⟩ := by subst h; exact (strOf_ext x).symm
set_option maxHeartbeats 1000000 in
set_option maxRecDepth 100000 in
theorem exact_any (x : ByteArray) (w : World) (hx : x.size ≤ 2100000) (hw : MW w) :
    Calls Tryz.prog 81 #[.string x] w fun e w' => e = .returned (.int .i64 (exactN x.data.toList)) ∧ Below w.heap.size w w' := by
  have HW := Lib.hid hw; clear hw
  by_cases hp : Lib.hasPrefix x.data.toList [61] = true
  · obtain ⟨r, hr⟩ : ∃ r, x.data.toList = 61 :: r := by
      cases h : x.data.toList with
      | nil => rw [h] at hp; cases hp
      | cons a r =>
        rw [h] at hp
        have : 61 = a := by simpa [Lib.hasPrefix] using hp
        exact ⟨r, by rw [← this]⟩
    have ht : Lib.trimPrefix x.data.toList [61] = r := by rw [hr]; simp [Lib.trimPrefix, Lib.hasPrefix]
    have hl : (⟨r.toArray⟩ : ByteArray).size ≤ 2100000 := by
      have h1 := Lib.size_eq x; rw [hr, List.length_cons] at h1
      have h2 := Lib.size_eq (⟨r.toArray⟩ : ByteArray)
      simp only at h2; omega
    rw [hr]
    go_enter Tryz.func81, Tryz.ntmps81
    go_wp2_with fail
    refine (Tryz.strings_CutPrefix x ⟨#[61]⟩ _).mono ?_
    rintro e w1 ⟨rfl, rfl⟩
    have e1 : (⟨(Lib.trimPrefix x.data.toList (⟨#[61]⟩ : ByteArray).data.toList).toArray⟩ : ByteArray) = ⟨r.toArray⟩ := by rw [← ht]
    have e2 : Lib.hasPrefix x.data.toList (⟨#[61]⟩ : ByteArray).data.toList = true := hp
    rw [e1, e2]
    clear e1 e2 hp ht hr
    go_wp2_with fail
    refine (Tryz.atoi ⟨r.toArray⟩ _ hl HW.out).mono ?_
    rintro e w2 ⟨⟨v, er, rfl, hv⟩, hb⟩
    have HB := Lib.hid hb; clear hb
    rcases hv with ⟨rfl, hv⟩ | ⟨⟨te, pe, rfl⟩, hv⟩
    · by_cases hv0 : v < 0
      · have hx : exactN (61 :: r) = -1 := exact_bad fun n _ h => by rw [hv] at h; have := Lib.NumEnd.ok.inj h; omega
        have HX := Lib.hid hx; clear hx hv
        go_wp2_with fail
        go_ret
        exact ⟨by rw [HX.out] <;> rfl, HB.out⟩
      · by_cases hv9 : 999 < v
        · have hx : exactN (61 :: r) = -1 := exact_bad fun n _ h => by rw [hv] at h; have := Lib.NumEnd.ok.inj h; omega
          have HX := Lib.hid hx; clear hx hv
          go_wp2_with fail
          go_ret
          exact ⟨by rw [HX.out] <;> rfl, HB.out⟩
        · have HV := Lib.hid hv; clear hv
          have hi := Tryz.itoa v (by omega) (by omega) w2 (HW.out.below HB.out).pow
          have HI := Lib.hid hi; clear hi
          obtain ⟨m, rfl⟩ : ∃ m : Nat, v = m := ⟨v.toNat, by omega⟩
          go_wp2_with fail
          refine HI.out.mono ?_
          rintro e w3 ⟨rfl, hb3⟩
          have HB3 := Lib.hid (HB.out.trans (hb3.mono HB.out.size)); clear hb3
          by_cases hq : Lib.itoa (m : Int) = r
          · have hx : exactN (61 :: r) = m := exact_good (by omega) hq
            have HX := Lib.hid hx; clear hx
            rw [hq]
            clear HI hq
            go_wp2_with fail
            go_ret
            exact ⟨by rw [HX.out] <;> rfl, HB3.out⟩
          · have hx : exactN (61 :: r) = -1 := exact_bad fun n _ h => by rw [HV.out] at h; have := Lib.NumEnd.ok.inj h; rw [← this]; exact hq
            have HX := Lib.hid hx; clear hx
            go_wp2_with fail
            · go_ret
              exact ⟨by rw [HX.out] <;> rfl, HB3.out⟩
            · rename_i hh
              exfalso; have := hh.2; simp [hq] at this
    · have hx : exactN (61 :: r) = -1 := exact_bad fun n _ h => absurd h (hv n)
      have HX := Lib.hid hx; clear hx hv
      go_wp2_with fail
      go_ret
      exact ⟨by rw [HX.out] <;> rfl, HB.out⟩
  · have hp' : Lib.hasPrefix x.data.toList [61] = false := by simpa using hp
    have hx2 : exactN x.data.toList = -1 := by
      cases h : x.data.toList with
      | nil => rfl
      | cons a r =>
        refine exact_not fun ha => ?_
        rw [h, ha] at hp'
        simp [Lib.hasPrefix] at hp'
    have ht : Lib.trimPrefix x.data.toList [61] = x.data.toList := by unfold Lib.trimPrefix; rw [hp']; rfl
    have HX := Lib.hid hx2; clear hx2 hp
    go_enter Tryz.func81, Tryz.ntmps81
    go_wp2_with fail
    refine (Tryz.strings_CutPrefix x ⟨#[61]⟩ _).mono ?_
    rintro e w1 ⟨rfl, rfl⟩
    have e1 : (⟨(Lib.trimPrefix x.data.toList (⟨#[61]⟩ : ByteArray).data.toList).toArray⟩ : ByteArray) = x := by
      show (⟨(Lib.trimPrefix x.data.toList [61]).toArray⟩ : ByteArray) = x
      rw [ht]
    have e2 : Lib.hasPrefix x.data.toList (⟨#[61]⟩ : ByteArray).data.toList = false := hp'
    rw [e1, e2]
    clear e1 e2 hp' ht
    go_wp2_with fail
    refine (Tryz.atoi x _ hx HW.out).mono ?_
    rintro e w2 ⟨⟨v, er, rfl, hv⟩, hb⟩
    have HB := Lib.hid hb; clear hb hv
    go_wp2_with fail
    go_ret
    exact ⟨by rw [HX.out] <;> rfl, HB.out⟩

theorem mem_bytes (L : List (List UInt8)) (x : ByteArray) : x ∈ L.map (fun l => (⟨l.toArray⟩ : ByteArray)) ↔ x.data.toList ∈ L := by
  rw [List.mem_map]
  constructor
  · rintro ⟨l, hl, rfl⟩; simpa using hl
  · intro h; exact ⟨_, h, strOf_ext x⟩
theorem contains_bytes (L : List (List UInt8)) (x : ByteArray) : Lib.containsS (L.map (fun l => (⟨l.toArray⟩ : ByteArray))) x = L.contains x.data.toList := by
  rw [Bool.eq_iff_iff, Lib.containsS_iff, mem_bytes]; simp
theorem kinds_take (x : ByteArray) : Lib.containsS (kindsB.take 6) x = kindsL.contains x.data.toList := contains_bytes kindsL x
set_option maxHeartbeats 1000000 in
set_option maxRecDepth 100000 in
theorem key_any (k f : Int) (t : ByteArray) (v : Value) (x : ByteArray) (w : World) (hx : x.size ≤ 2100000) (hw : MW w) :
    Calls Tryz.prog 54 #[.agg #[.int .i64 k, .string t, .int .i64 f, v], .string x] w fun e w' => e = .returned (.bool (keyB k x.data.toList)) ∧ Below w.heap.size w w' := by
  have HB0 := Lib.hid ((Below.refl w.heap.size w).alloc (Nat.le_refl _) (.cells #[.int .i64 k, .string t, .int .i64 f, v] 60))
  have HW := Lib.hid (hw.below HB0.out)
  clear hw
  by_cases h5 : k = 5
  · subst h5
    have hk : keyB 5 x.data.toList = nameB x.data.toList := rfl
    have HK := Lib.hid hk; clear hk
    go_enter Tryz.func54, Tryz.ntmps54
    go_wp2_with fail
    refine (name_any x _ hx).mono ?_
    rintro e w1 ⟨rfl, hb⟩
    have HB := Lib.hid (HB0.out.trans (hb.mono HB0.out.size)); clear hb
    go_wp2_with fail
    go_ret
    exact ⟨by rw [HK.out] <;> rfl, HB.out⟩
  · have hk : keyB k x.data.toList = (kindsL.contains x.data.toList || decide (0 ≤ exactN x.data.toList)) := by unfold keyB; rw [if_neg h5]
    obtain ⟨b, o, c, hv, hc6, hc⟩ := HW.out.kinds
    have hcon := fun W => Tryz.slices_Contains_string b o 6 c kindsB x W (by decide) (by decide)
    have HK := Lib.hid hk; have HC := Lib.hid hcon; have HCC := Lib.hid hc
    clear hk hcon hc
    go_enter Tryz.func54, Tryz.ntmps54
    go_wp2_with fail
    refine (HC.out _ HCC.out).mono ?_
    rintro e w1 ⟨rfl, rfl⟩
    rw [kinds_take]
    cases hin : kindsL.contains x.data.toList with
    | true =>
      have HIN := Lib.hid hin; clear hin
      go_wp2_with fail
      go_ret
      exact ⟨by rw [HK.out, HIN.out] <;> rfl, HB0.out⟩
    | false =>
      have HIN := Lib.hid hin; clear hin
      go_wp2_with fail
      refine (exact_any x _ hx HW.out).mono ?_
      rintro e w2 ⟨rfl, hb⟩
      have HB := Lib.hid (HB0.out.trans (hb.mono HB0.out.size)); clear hb
      go_wp2_with fail
      go_ret
      exact ⟨by rw [HK.out, HIN.out] <;> rfl, HB.out⟩
end Go.Proofs.YtnefcilopgcdpaaGreatDoor
namespace Go.Proofs.YtnefcilopgcdpaaGreatDoor
open Go.RowKit Ms

theorem isEmpty_of_size {x : ByteArray} (h : x.size = 0) : x.data.toList.isEmpty = true := by rw [nil_of_size h]; rfl
theorem not_isEmpty_of_size {x : ByteArray} (h : ¬ x.size = 0) : x.data.toList.isEmpty = false := by
  have := emp_false h
  rw [Lib.toList_data] at this; simpa using this
/-- is the node ahead one of words? -/
def Pw (w : World) (b o n : Nat) (pw : Bool) : Prop := (n = 0 ∧ pw = false) ∨ ∃ n' kp, n = n' + 1 ∧ w.cell? ⟨b, o + n' * 4, none⟩ = some (.int .i64 kp) ∧ pw = (kp == 1)

set_option maxHeartbeats 1000000 in
set_option maxRecDepth 100000 in
theorem fine_any (k f : Int) (x : ByteArray) (v : Value) (b o n c : Nat) (mark pw : Bool) (w : World) (hx : x.size ≤ 2100000) (hn : n ≤ 2100000) (hp : Pw w b o n pw) :
    Calls Tryz.prog 36 #[.agg #[.int .i64 k, .string x, .int .i64 f, v], .slice (some ⟨b, o, none⟩) n c, .bool mark] w fun e w' => e = .returned (.bool (fine k x.data.toList mark pw)) ∧ Below w.heap.size w w' := by
  have HB0 := Lib.hid ((Below.refl w.heap.size w).alloc (Nat.le_refl _) (.cells #[.int .i64 k, .string x, .int .i64 f, v] 60))
  by_cases h1 : k = 1
  · subst h1
    by_cases h0 : x.size = 0
    · have he := emp_true h0
      have hr : fine 1 x.data.toList mark pw = false := by simp [fine, isEmpty_of_size h0]
      have HR := Lib.hid hr; clear hr hp
      go_enter Tryz.func36, Tryz.ntmps36
      go_wp2_with fail
      go_ret
      exact ⟨by rw [HR.out] <;> rfl, HB0.out⟩
    · have he := emp_false h0
      have hr : fine 1 x.data.toList mark pw = !pw := by simp [fine, not_isEmpty_of_size h0]
      have HR := Lib.hid hr; clear hr
      rcases hp with ⟨rfl, rfl⟩ | ⟨n', kp, rfl, hc, rfl⟩
      · go_enter Tryz.func36, Tryz.ntmps36
        go_wp2_with fail
        go_ret
        exact ⟨by rw [HR.out] <;> rfl, HB0.out⟩
      · have hcc := keepCells HB0.out _ _ _ hc
        clear hc
        go_enter Tryz.func36, Tryz.ntmps36
        go_wp2_with fail
        go_ret
        refine ⟨?_, HB0.out⟩
        rw [HR.out]
        show Ending.returned (.bool ((n' : Int) + 1 == 0 || kp != 1)) = Ending.returned (.bool (!(kp == 1)))
        rw [show ((n' : Int) + 1 == 0) = false from beq_eq_false_iff_ne.2 (by omega)]
        rfl
  · clear hp
    by_cases h25 : k = 2 ∨ k = 3 ∨ k = 4 ∨ k = 5
    · have hr : fine k x.data.toList mark pw = nameB x.data.toList := by unfold fine; rw [if_neg h1, if_pos h25]
      have HR := Lib.hid hr; clear hr
      have HN := Lib.hid (fun W => name_any x W hx)
      rcases h25 with rfl | rfl | rfl | rfl
      all_goals
        go_enter Tryz.func36, Tryz.ntmps36
        go_wp2_with fail
        refine (HN.out _).mono ?_
        rintro e w1 ⟨rfl, hb⟩
        have HB := Lib.hid (HB0.out.trans (hb.mono HB0.out.size)); clear hb
        go_wp2_with fail
        go_ret
        exact ⟨by rw [HR.out] <;> rfl, HB.out⟩
    · have hr : fine k x.data.toList mark pw = (k == 6 && mark) := by unfold fine; rw [if_neg h1, if_neg h25]
      have HR := Lib.hid hr; clear hr
      have h2 : ¬ k = 2 := fun h => h25 (.inl h)
      have h3 : ¬ k = 3 := fun h => h25 (.inr (.inl h))
      have h4 : ¬ k = 4 := fun h => h25 (.inr (.inr (.inl h)))
      have h5 : ¬ k = 5 := fun h => h25 (.inr (.inr (.inr h)))
      clear h25
      by_cases h6 : k = 6
      · subst h6
        go_enter Tryz.func36, Tryz.ntmps36
        go_wp2_with fail
        go_ret
        exact ⟨by rw [HR.out] <;> rfl, HB0.out⟩
      · have h66 : (k == 6) = false := by simpa using h6
        rw [h66] at HR
        go_enter Tryz.func36, Tryz.ntmps36
        go_wp2_with fail
        go_ret
        exact ⟨by rw [HR.out] <;> rfl, HB0.out⟩
end Go.Proofs.YtnefcilopgcdpaaGreatDoor
