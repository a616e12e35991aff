/-
  group.Put: digits by threes.
-/
import Derived.Test.YtnefcilopgcdpaaGreatDoorPdec
import Derived.Test.YtnefcilopgcdpaaGreatDoorShelf
import Derived.Test.YtnefcilopgcdpaaGreatDoorKey
import Derived.Test.YtnefcilopgcdpaaGreatDoorChk
import Derived.Test.YtnefcilopgcdpaaGreatDoorSpl
import Derived.Lib.RowBridge
import Derived.Laws.IdiomCopy
import Derived.Laws.BytesArg
namespace Go.Proofs.YtnefcilopgcdpaaGreatDoor
open Go.RowKit Ms

def digitSet : List UInt8 := [48, 49, 50, 51, 52, 53, 54, 55, 56, 57]
set_option maxRecDepth 100000 in
theorem digitSet_is (c : UInt8) : digitSet.contains c = digit c := by
  have h : ∀ n : Fin 256, digitSet.contains (UInt8.ofNat n.1) = digit (UInt8.ofNat n.1) := by decide +kernel
  have := h ⟨c.toNat, c.toNat_lt⟩
  simpa using this
theorem gdigits_any (s : List UInt8) (w : World) (hs : s.length ≤ 1000) :
    Calls Tryz.prog 146 #[.string ⟨s.toArray⟩] w fun e w' => e = .returned (.bool (digits s)) ∧ Below w.heap.size w w' := by
  cases s with
  | nil =>
    go_enter Tryz.func146, Tryz.ntmps146
    go_wp2_with fail
    go_ret
    exact ⟨rfl, Below.refl _ _⟩
  | cons c r =>
    obtain ⟨x, hx⟩ : ∃ x : ByteArray, x = ⟨(c :: r).toArray⟩ := ⟨_, rfl⟩
    have hxl : x.data.toList = c :: r := by rw [hx]
    have hsz : x.size = (c :: r).length := by rw [← hxl, ← Lib.size_eq]
    have he := emp_false (r := x) (by rw [hsz]; simp)
    have ht : (⟨(Lib.trimS x.data.toList digitSet).toArray⟩ : ByteArray).toList.isEmpty = (c :: r).all digit := by
      rw [Lib.toList_data]
      show (Lib.trimS x.data.toList digitSet).isEmpty = _
      rw [trim_nil, hxl]
      exact congrArg (List.all (c :: r)) (funext digitSet_is)
    have hn : digits (c :: r) = (c :: r).all digit := rfl
    rw [hn, ← hx]
    clear hx hn hxl
    have hs2 : x.size ≤ 1000 := by omega
    clear hsz
    have he2 : x.toList.isEmpty = false := by simpa using he
    have he3 : ¬ x.toList = [] := by simpa using he2
    generalize (c :: r).all digit = b at *
    have HT := Lib.hid ht; clear ht
    cases b with
    | true =>
      go_enter Tryz.func146, Tryz.ntmps146
      go_wp2_with fail
      refine (Tryz.trim x ⟨digitSet.toArray⟩ _ (by omega) (by decide) (ascii_of_all (by decide))).mono ?_
      rintro e w1 ⟨rfl, hb⟩
      have ht2 := HT.out
      generalize (⟨(Lib.trimS x.data.toList digitSet).toArray⟩ : ByteArray) = tt at ht2
      have HB := Lib.hid hb; clear hb HT
      go_wp2_with fail
      go_ret
      exact ⟨rfl, HB.out⟩
    | false =>
      go_enter Tryz.func146, Tryz.ntmps146
      go_wp2_with fail
      refine (Tryz.trim x ⟨digitSet.toArray⟩ _ (by omega) (by decide) (ascii_of_all (by decide))).mono ?_
      rintro e w1 ⟨rfl, hb⟩
      have ht2 := HT.out
      generalize (⟨(Lib.trimS x.data.toList digitSet).toArray⟩ : ByteArray) = tt at ht2
      have HB := Lib.hid hb; clear hb HT
      go_wp2_with fail
      go_ret
      exact ⟨rfl, HB.out⟩
theorem gcheck_any (w : World) :
    Calls Tryz.prog 147 #[.int .i64 3, .int .i64 0, .int .u8 44] w fun e w' => e = .returned .nilIface ∧ w = w' := by
  go_enter Tryz.func147, Tryz.ntmps147
  go_wp2_with fail
  go_ret
  exact ⟨rfl, rfl⟩

theorem triples_stop {t : List UInt8} (h : ¬ 3 < t.length) (n : Nat) : triples n t = [t] := by
  cases n with
  | zero => rfl
  | succ n => unfold triples; rw [if_neg h]
theorem triples_step {t : List UInt8} (h : 3 < t.length) (n : Nat) : triples (n + 1) t = t.drop (t.length - 3) :: triples n (t.take (t.length - 3)) := by
  show (if 3 < t.length then _ else _) = _
  rw [if_pos h]
theorem triples_len : ∀ (n : Nat) (t : List UInt8), t.length ≤ n → (triples n t).length ≤ t.length + 1
  | 0, t, _ => by simp [triples]
  | n + 1, t, h => by
    by_cases h3 : 3 < t.length
    · rw [triples_step h3]
      have := triples_len n (t.take (t.length - 3)) (by rw [List.length_take]; omega)
      rw [List.length_take] at this
      simp only [List.length_cons]; omega
    · rw [triples_stop h3]; simp
theorem triples_ne (n : Nat) (t : List UInt8) : triples n t ≠ [] := by
  cases n with
  | zero => simp [triples]
  | succ n => by_cases h3 : 3 < t.length
              · rw [triples_step h3]; simp
              · rw [triples_stop h3]; simp
theorem triples_each : ∀ (n : Nat) (t : List UInt8), t.length ≤ n → ∀ x ∈ triples n t, x.length ≤ 3
  | 0, t, h => by intro x hx; simp [triples] at hx; subst hx; omega
  | n + 1, t, h => by
    intro x hx
    by_cases h3 : 3 < t.length
    · rw [triples_step h3] at hx
      rcases List.mem_cons.1 hx with rfl | hx
      · rw [List.length_drop]; omega
      · exact triples_each n (t.take (t.length - 3)) (by rw [List.length_take]; omega) x hx
    · rw [triples_stop h3] at hx
      simp at hx; subst hx; omega
theorem joinTail_len (sep : List UInt8) (k : Nat) : ∀ r : List (List UInt8), (∀ x ∈ r, x.length ≤ k) → (Lib.joinTail sep r).length ≤ r.length * (sep.length + k)
  | [], _ => by simp [Lib.joinTail]
  | x :: r, h => by
    have h1 := joinTail_len sep k r (fun y hy => h y (.tail _ hy))
    have h2 := h x (.head _)
    have : Lib.joinTail sep (x :: r) = sep ++ x ++ Lib.joinTail sep r := by simp [Lib.joinTail]
    rw [this]
    simp only [List.length_append, List.length_cons, Nat.add_mul, Nat.one_mul]
    omega
theorem join_len (sep : List UInt8) (k : Nat) (r : List (List UInt8)) (h : ∀ x ∈ r, x.length ≤ k) : (Lib.join r sep).length ≤ r.length * (sep.length + k) := by
  cases r with
  | nil => simp [Lib.join_nil]
  | cons x r =>
    rw [Lib.join_cons]
    have h1 := joinTail_len sep k r (fun y hy => h y (.tail _ hy))
    have h2 := h x (.head _)
    simp only [List.length_append, List.length_cons, Nat.add_mul, Nat.one_mul]
    omega
theorem putD_len (s : List UInt8) : (putD s).length ≤ 4 * (s.length + 1) := by
  unfold putD
  have h1 := triples_len s.length s (Nat.le_refl _)
  have h2 := join_len [44] 3 (triples s.length s).reverse (fun x hx => triples_each _ _ (Nat.le_refl _) x (List.mem_reverse.1 hx))
  rw [List.length_reverse] at h2
  have h3 : (triples s.length s).length * ([44].length + 3) = 4 * (triples s.length s).length := by simp; omega
  omega
theorem size_setCells (b : Nat) : ∀ (vs : List Value) (o : Nat) (w : World), (w.setCells b o vs).heap.size = w.heap.size
  | [], _, _ => rfl
  | v :: r, o, w => (size_setCells b r (o + 1) (w.setCell ⟨b, o, none⟩ v)).trans (by simp)
theorem below_setCells {B b : Nat} {a : World} (hb : B ≤ b) : ∀ (vs : List Value) (o : Nat) (w : World), Below B a w → Below B a (w.setCells b o vs)
  | [], _, _, h => h
  | v :: r, o, w, h => below_setCells hb r (o + 1) (w.setCell ⟨b, o, none⟩ v) (h.setCell (show B ≤ (⟨b, o, none⟩ : Addr).block from hb) v)

set_option maxRecDepth 100000 in
set_option maxHeartbeats 2000000 in
theorem put_bad (s : List UInt8) (w : World) (hs : s.length ≤ 1000) (hd : digits s = false) :
    Calls Tryz.prog 115 #[.string ⟨s.toArray⟩, .int .i64 3, .int .i64 0, .int .u8 44] w fun e w' => e = .returned (.tuple #[.string ⟨#[]⟩, .iface 56 (.int .i64 3)]) ∧ Below w.heap.size w w' := by
  have HD := Lib.hid (fun w => gdigits_any s w hs)
  rw [hd] at HD
  clear hd hs
  go_enter Tryz.func115, Tryz.ntmps115
  go_wp2_with fail
  refine (HD.out _).mono ?_
  rintro e w1 ⟨rfl, hb⟩
  have HB := Lib.hid hb; clear hb
  go_wp2_with fail
  go_ret2
  exact ⟨rfl, HB.out⟩
set_option maxRecDepth 100000 in
set_option maxHeartbeats 4000000 in
theorem put_any (s : List UInt8) (w : World) (hs : s.length ≤ 1000) (hd : digits s = true) :
    Calls Tryz.prog 115 #[.string ⟨s.toArray⟩, .int .i64 3, .int .i64 0, .int .u8 44] w fun e w' => e = .returned (.tuple #[.string ⟨(putD s).toArray⟩, .nilIface]) ∧ Below w.heap.size w w' := by
  have HD := Lib.hid (fun w => gdigits_any s w hs)
  rw [hd] at HD
  obtain ⟨i0, hi, hz0, hz1, hz2⟩ := info_parts infoStr
  obtain ⟨R, hR⟩ : ∃ R, R = putD s := ⟨_, rfl⟩
  rw [← hR]
  have HR := Lib.hid hR
  have hRl := putD_len s
  rw [← hR] at hRl
  have hAl := triples_len s.length s (Nat.le_refl _)
  have hAn := triples_ne s.length s
  have HAn := Lib.hid hAn
  clear hd hR hAn
  go_enter Tryz.func115, Tryz.ntmps115
  go_wp2_with fail
  refine (HD.out _).mono ?_
  rintro e w1 ⟨rfl, hb⟩
  have HB := Lib.hid hb; clear hb
  go_wp2_with fail
  refine (gcheck_any _).mono ?_
  rintro e w2 ⟨rfl, rfl⟩
  go_wp2_with fail
  go_loopw [0, 11, 12] (fun s0 v s12 wr => ∃ (t : List UInt8) (n : Nat) (acc : List (List UInt8)), s0 = .string ⟨t.toArray⟩ ∧ s12 = .int .i64 3 ∧ t.length ≤ n ∧ t.length ≤ 1000 ∧ acc.length + t.length ≤ s.length ∧ Hid (acc ++ triples n t = triples s.length s) ∧
    Hid (wr.ownsRow w.heap.size 9 1 v acc.length (keysV acc)) ∧ Hid (Below w.heap.size w wr)) (fun s0 _ _ _ => strLen s0)
  case atStart => exact ⟨s, s.length, [], rfl, rfl, Nat.le_refl _, hs, by simp, Lib.hid rfl, Lib.hid (World.ownsRow_nil _ _ _ _), HB⟩
  case round =>
    obtain ⟨t, n, acc, rfl, rfl, htn, ht1, hat, HA, HO, HBr⟩ := hrel
    clear HB
    have hsz : (⟨t.toArray⟩ : ByteArray).size = t.length := by have := Lib.size_eq (⟨t.toArray⟩ : ByteArray); simpa using this
    have hBr := HBr.out.size
    by_cases h3 : 3 < t.length
    · have hk : ((t.length : Int) - 3) = ((t.length - 3 : Nat) : Int) := by omega
      obtain ⟨k, hke⟩ : ∃ k, k = t.length - 3 := ⟨_, rfl⟩
      have hs1 : ∀ wx, (Instr.slice 9 (.string ⟨t.toArray⟩) none (some (.int .i64 (k : Int))) none).run Tryz.prog wx = .ok (.string ⟨(t.take k).toArray⟩) wx := fun wx => by
        rw [run_slice_string_h wx 9 ⟨t.toArray⟩ rfl .i64 k (by omega) (by rw [hsz]; omega)]
        rw [show (k : Int).toNat = k from rfl, extract_take]
      have hs2 : ∀ wx, (Instr.slice 9 (.string ⟨t.toArray⟩) (some (.int .i64 (k : Int))) none none).run Tryz.prog wx = .ok (.string ⟨(t.drop k).toArray⟩) wx := fun wx => by
        rw [run_slice_string_l wx 9 ⟨t.toArray⟩ rfl .i64 k (by omega) (by rw [hsz]; omega)]
        rw [show (k : Int).toNat = k from rfl, extract_drop]
      have hk2 : (t.length : Int) - 3 = k := by omega
      have hal : acc.length ≤ 1000 := by omega
      have HKE := Lib.hid hke
      have HK := Lib.hid hk2
      clear hk hke hsz
      go_wp2_with (at_builtin; refine wpList_append_own _ rfl _ _ 116 rfl w.heap.size 9 i0 (.string ⟨#[]⟩) 1 16 Tryz.underlying116 hi hz0 hz1 hz2 rfl (by decide) _ _ _ rfl (HO.out.alloc _) ⟨wr.heap.size, 0, none⟩ 1 1 [.string ⟨(t.drop k).toArray⟩] rfl rfl (cell_one_new _ _ _) (fun x hx => by simp at hx; subst hx; rfl) (by unfold maxLen; omega) (by omega) (by simp; omega) ?_; intro v' w3 hown3 hgrow3 _; have HG3 := Lib.hid hgrow3; have HO3 := Lib.hid hown3; clear hgrow3 hown3)
      go_roundw
      case rel =>
        refine ⟨t.take k, n - 1, acc ++ [t.drop k], rfl, rfl, ?_, ?_, ?_, Lib.hid ?_, Lib.hid ?_, Lib.hid ?_⟩
        · have := HKE.out; rw [List.length_take]; omega
        · rw [List.length_take]; omega
        · have := HKE.out; rw [List.length_take, List.length_append]; simp only [List.length_cons, List.length_nil]; omega
        · rw [← HA.out, List.append_assoc]
          have e := triples_step h3 (n - 1)
          rw [show n - 1 + 1 = n by omega, ← HKE.out] at e
          rw [e]; rfl
        · have := HO3.out
          rw [List.length_append]
          rw [show keysV (acc ++ [t.drop k]) = keysV acc ++ [.string ⟨(t.drop k).toArray⟩] by simp [keysV]]
          exact this
        · exact step_below HBr.out (by omega) HG3.out HO.out (Nat.le_refl _)
      case measure =>
        have := HKE.out
        have e := Lib.size_eq (⟨(t.take k).toArray⟩ : ByteArray)
        have e2 := Lib.size_eq (⟨t.toArray⟩ : ByteArray)
        simp only [List.length_take] at e e2
        show (⟨(t.take k).toArray⟩ : ByteArray).size < (⟨t.toArray⟩ : ByteArray).size
        omega
    · have hal : acc.length ≤ 1000 := by omega
      have htr := triples_stop h3 n
      obtain ⟨ALL, hALL⟩ : ∃ ALL, ALL = triples s.length s := ⟨_, rfl⟩
      rw [← hALL] at HA hAl HAn
      have hacc : acc ++ [t] = ALL := by rw [← HA.out, htr]
      have HAC := Lib.hid hacc; have HALL := Lib.hid hALL
      clear htr hALL hacc HA
      go_wp2_with (at_builtin; refine wpList_append_own _ rfl _ _ 116 rfl w.heap.size 9 i0 (.string ⟨#[]⟩) 1 16 Tryz.underlying116 hi hz0 hz1 hz2 rfl (by decide) _ _ _ rfl (HO.out.alloc _) ⟨wr.heap.size, 0, none⟩ 1 1 [.string ⟨t.toArray⟩] rfl rfl (cell_one_new _ _ _) (fun x hx => by simp at hx; subst hx; rfl) (by unfold maxLen; omega) (by omega) (by simp; omega) ?_; intro v' w3 hown3 hgrow3 _; have HG3 := Lib.hid hgrow3; have HO3 := Lib.hid hown3; clear hgrow3 hown3)
      have hO := HO3.out
      have hlen : acc.length + 1 = ALL.length := by rw [← HAC.out]; simp
      rw [hlen, show keysV acc ++ [.string ⟨t.toArray⟩] = keysV ALL by rw [← HAC.out]; simp [keysV]] at hO
      have HLEN := Lib.hid hlen
      have HB3 := Lib.hid (step_below HBr.out (by omega) HG3.out HO.out (Nat.le_refl _))
      rcases hO.2 with ⟨rfl, h0⟩ | ⟨g, cap, cur, rfl, hg, hblk, hn, hcap, hcs, htk⟩
      · rw [← hlen] at h0; omega
      · have hcell : ∀ j, j < ALL.length → w3.cell? ⟨g, 0 + j, none⟩ = some (.string ⟨(ALL.getD j []).toArray⟩) := by
          intro j hj
          have h := hO.cells (g := g) rfl j (.string ⟨(ALL.getD j []).toArray⟩) (by simp [keysV, List.getD, hj])
          have ha : (⟨g, 0, none⟩ : Addr).add j = ⟨g, 0 + j, none⟩ := by rw [Nat.zero_add]; unfold Addr.add; split <;> simp_all
          rwa [ha] at h
        have hfz : ∀ j, j < ALL.length → w3.frozen? ⟨g, 0 + j, none⟩ = false := fun j _ => by simp [World.frozen?, hblk]
        have hst : Lib.strsOf (fun j => ⟨(ALL.getD j []).toArray⟩) ALL.length = ALL := by
          unfold Lib.strsOf
          apply List.ext_getElem
          · simp
          · intro j h1 h2; simp [List.getD, h2]
        have hrev := Tryz.slices_Reverse_string_cells g 0 ALL.length cap (fun j => ⟨(ALL.getD j []).toArray⟩) w3 (by omega) hcell hfz
        rw [hst] at hrev
        have hgl : g < w3.heap.size := (Array.getElem?_eq_some_iff.1 hblk).1
        refine hrev.mono ?_
        rintro e w4 ⟨rfl, q, rfl⟩
        have hB4 := below_setCells (B := w.heap.size) hg (ALL.reverse.map encStr) 0 _ (belowN HB3.out q)
        have hgl4 : g < ((w3.drewN q).setCells g 0 (ALL.reverse.map encStr)).heap.size := by rw [size_setCells]; exact hgl
        have hc4 : ∀ (j : Nat) x, (ALL.reverse.map fun l => (⟨l.toArray⟩ : ByteArray))[j]? = some x → ((w3.drewN q).setCells g 0 (ALL.reverse.map encStr)).cell? ⟨g, 0 + j, none⟩ = some (.string x) := by
          intro j x hx
          have hj : j < (ALL.reverse.map encStr).length := by
            have := (List.getElem?_eq_some_iff.1 hx).1
            simpa using this
          have h := World.cell?_setCells_in g (ALL.reverse.map encStr) 0 (w3.drewN q) (fun i hi' => by
            show (w3.cell? _).isSome = true
            rw [hcell i (by simpa using hi')]; rfl) j hj
          rw [h]
          rw [List.getElem?_map] at hx
          rw [List.getElem_map]
          have hj2 : j < ALL.reverse.length := by simpa using hj
          rw [List.getElem?_eq_getElem hj2] at hx
          simp only [Option.map_some, Option.some.injEq] at hx
          rw [← hx]
        have H4 := Lib.hid hc4; have HB4 := Lib.hid hB4
        generalize (w3.drewN q).setCells g 0 (ALL.reverse.map encStr) = w4 at *
        clear hrev hst hfz hcell hc4 hB4 hcs htk hblk hO
        have hcv := run_convert_bytes_arg (P := Tryz.prog) (w4.alloc (Obj.cells #[Value.int IntKind.u8 44] 5)) 43 5 Tryz.underlying43 Tryz.underlying5 w4.heap.size 0 1 1 [44] rfl (by
          intro i hi
          obtain rfl : i = 0 := by omega
          exact block_cell (Go.heap_alloc_new w4 _) rfl) 9 Tryz.underlying9
        rw [show strOfNums [44] = ⟨#[44]⟩ from rfl] at hcv
        have hjm : (ALL.reverse.map fun l => (⟨l.toArray⟩ : ByteArray)).map (·.data.toList) = ALL.reverse := by simp [List.map_map, Function.comp_def]
        have hRe : R = Lib.join ALL.reverse [44] := by rw [HR.out, HALL.out]; rfl
        have HJ := Lib.hid (fun (W : World) (hW : Below w4.heap.size w4 W) => Tryz.strings_Join g 0 cap (ALL.reverse.map fun l => (⟨l.toArray⟩ : ByteArray)) ⟨#[44]⟩ W (fun j x hx => by
            have h := H4.out j x hx
            exact (hW.cell (p := ⟨g, 0 + j, none⟩) hgl4).trans h) (Nat.lt_of_lt_of_le hgl4 hW.size) (by simp; omega) (by simp; omega) (by rw [hjm, show (⟨#[44]⟩ : ByteArray).data.toList = [44] from rfl, ← hRe]; omega))
        rw [hjm, show (⟨#[44]⟩ : ByteArray).data.toList = [44] from rfl, ← hRe] at HJ
        simp only [List.length_map, List.length_reverse] at HJ
        clear hjm hRe hn hlen
        go_wp2_with fail
        refine (HJ.out _ ((Below.refl _ w4).alloc (Nat.le_refl _) _)).mono ?_
        rintro e w5 ⟨rfl, hb5⟩
        have HB5 := Lib.hid ((HB4.out.alloc (by have := HB4.out.size; exact this) (Obj.cells #[Value.int IntKind.u8 44] 5)).trans (hb5.mono (by have := HB4.out.size; simp; omega)))
        clear hb5 hcv
        go_wp2_with fail
        go_ret2
        exact ⟨rfl, HB5.out⟩
end Go.Proofs.YtnefcilopgcdpaaGreatDoor
