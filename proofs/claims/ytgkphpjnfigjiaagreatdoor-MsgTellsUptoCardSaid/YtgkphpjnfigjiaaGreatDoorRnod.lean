/-
  The reference's NodesAt and MsgOf: the nodes at a place of a text; the message of a text, if it is one's.
-/
import Derived.Test.YtgkphpjnfigjiaaGreatDoorRcas
import Derived.Test.YtgkphpjnfigjiaaGreatDoorRfault
import Derived.Test.YtgkphpjnfigjiaaGreatDoorRefs
import Derived.Test.YtgkphpjnfigjiaaGreatDoorParse
namespace Go.Proofs.YtgkphpjnfigjiaaGreatDoor
open Go.RowKit Ms

theorem wt_node (acc cs : T) (k f : Int) (x : List UInt8) : wt (app acc (.node k x f cs .nil)) = wt acc + (4 + x.length + wt cs) := by
  have := app_wt acc (.node k x f cs .nil)
  simp only [wt] at this; omega
def nines : List UInt8 := [49, 50, 51, 52, 53, 54, 55, 56, 57]
theorem nines_set (c : UInt8) : nines.contains c = (49 ≤ c && c ≤ 57 : Bool) := by
  have h : ∀ n, n < 256 → nines.contains (UInt8.ofNat n) = (49 ≤ UInt8.ofNat n && UInt8.ofNat n ≤ 57 : Bool) := by decide +kernel
  have := h c.toNat c.toNat_lt
  rwa [UInt8.ofNat_toNat] at this
theorem ronly_digit (S : ByteArray) (q : Nat) (hq : q < S.size) : ∀ W, Calls Tryz.prog 58 #[.string (S.extract q (q + 1)), .string ⟨#[49, 50, 51, 52, 53, 54, 55, 56, 57]⟩, .int .i64 1, .int .i64 1] W fun e w' => e = .returned (.bool (49 ≤ S[q] && S[q] ≤ 57 : Bool)) ∧ Below W.heap.size W w' := fun W => by
  have h := only_any (S.extract q (q + 1)) ⟨#[49, 50, 51, 52, 53, 54, 55, 56, 57]⟩ 1 1 W (by rw [ByteArray.size_extract]; omega) (by decide)
  rw [ext_one S q hq] at h
  have e : onlyB [S[q]] (⟨#[49, 50, 51, 52, 53, 54, 55, 56, 57]⟩ : ByteArray).data.toList 1 1 = (49 ≤ S[q] && S[q] ≤ 57 : Bool) := by
    rw [← nines_set]
    unfold onlyB
    simp only [List.all_cons, List.all_nil, Bool.and_true, List.length_cons, List.length_nil]
    have h1 : (decide ((1 : Int) ≤ ((0 + 1 : Nat) : Int)) && decide (((0 + 1 : Nat) : Int) ≤ 1)) = true := by decide
    rw [h1, Bool.and_true]; rfl
  rw [e] at h; exact h
theorem bareOf_at (S : ByteArray) (i : Nat) (m : Bool) (hs : S.size ≤ 1000000) (o : Option (List UInt8 × Nat)) (h : Lx.bare m (S.data.toList.drop i) = o) (W : World) :
    Calls Tryz.prog 55 #[.string (S.extract i S.size), .bool m] W fun e w' => e = .returned (bareOfOut o) ∧ w' = W := by
  have := bareOf_any (S.extract i S.size) m W (by rw [ByteArray.size_extract]; omega)
  rw [ext_end, h] at this; exact this

set_option maxHeartbeats 16000000 in
set_option maxRecDepth 100000 in
theorem rnod_step (S : ByteArray) (n : Nat) (IH : NodesAtIH S n) (hs : S.size ≤ 1000000) (at' deep : Nat) (mark : Bool) (w : World) (hn : S.size - at' ≤ n) (ha : at' ≤ S.size) (hd : deep ≤ 7) (h0 : 0 < w.heap.size) :
    Calls Tryz.prog 34 #[.string S, .int .i64 at', .bool mark, .int .i64 deep] w (NodesAtOut S at' deep mark w) := by
  obtain ⟨i0, hi, hz0, hz1, hz2⟩ := info_parts infoNode
  have Hl := Lib.hid (Lib.size_eq S).symm
  have IH := Lib.hid IH
  have H0 := Lib.hid h0
  clear h0
  by_cases hd7 : deep = 7
  · subst hd7
    go_enter Tryz.func34, Tryz.ntmps34
    go_wp2_with fail
    go_ret2
    exact ⟨.inr ⟨rfl, fun h => absurd h (by decide)⟩, Below.refl _ _⟩
  have hd6 : deep ≤ 6 := by omega
  have hdb : decide ((6 : Int) < (deep : Int)) = false := decide_eq_false (by omega)
  clear hd hd7
  go_enter Tryz.func34, Tryz.ntmps34
  go_wp2_with fail
  go_loopw [1, 10] (fun p out wr => ∃ (i : Nat) (acc : T) (xs : List Value), p = .int .i64 i ∧ at' ≤ i ∧ i ≤ S.size ∧ len acc ≤ i ∧ Hid (isN acc = true ∧ wt acc + 6 * (S.size - i) ≤ 6 * (S.size - at') + 1 ∧ NN deep mark (S.data.toList.drop at') = ahead acc (NN deep mark (S.data.toList.drop i))) ∧ Hid (Acc w 0 35 4 out acc xs wr.heap.size wr) ∧ Hid (Below w.heap.size w wr)) (fun p _ _ => S.size - (RowKit.intOf p).toNat)
  case atStart => exact ⟨at', .nil, [], rfl, Nat.le_refl _, ha, by simp [len], ⟨rfl, by simp only [wt]; omega, (ahead_nil _).symm⟩, Acc.start _ _ H0.out, Below.refl _ _⟩
  case round =>
    obtain ⟨i, acc, xs, rfl, hi1, hi2, hla, HE, HAc, HB⟩ := hrel
    cases hb : Lx.bare mark (S.data.toList.drop i) with
    | none =>
      have HBa := Lib.hid (bareOf_at S i mark hs none hb)
      have HNx := Lib.hid (show NN deep mark (S.data.toList.drop at') = none by rw [HE.out.2.2, NN_none hb, ahead_none])
      unfold bareOfOut at HBa
      clear hb
      go_wp2_with fail
      refine (HBa.out _).mono ?_
      rintro e W1 ⟨rfl, rfl⟩
      go_wp2_with fail
      go_ret2
      exact ⟨.inr ⟨rfl, fun _ => HNx.out⟩, HB.out⟩
    | some p =>
      obtain ⟨t, k⟩ := p
      have HBa := Lib.hid (bareOf_at S i mark hs (some (t, k)) hb)
      unfold bareOfOut at HBa
      obtain ⟨hk1, htk⟩ := Lx.bare_places hb
      rw [List.length_drop, Hl.out] at hk1
      have hen := Lx.bare_drop hb
      rw [List.drop_drop] at hen
      obtain ⟨j, hj⟩ : ∃ j, j = i + k := ⟨_, rfl⟩
      rw [← hj] at hen
      have hjs : j ≤ S.size := by omega
      have HEn : j = S.size ∨ ∃ c, S.data.toList[j]? = some c ∧ Lx.sg mark c = true := by
        rcases hen with h | ⟨c, r, h, hc⟩
        · left
          have := congrArg List.length h
          rw [List.length_drop, Hl.out] at this; simp at this; omega
        · right
          exact ⟨c, by rw [← List.head?_drop, h]; rfl, hc⟩
      obtain ⟨acc1, hacc1⟩ : ∃ acc1, acc1 = app acc (words t .nil) := ⟨_, rfl⟩
      have hdr : (S.data.toList.drop i).drop k = S.data.toList.drop j := by rw [List.drop_drop, hj]
      have HStop := Lib.hid (show pre [123] (S.data.toList.drop j) = none → pre [35] (S.data.toList.drop j) = none → NN deep mark (S.data.toList.drop at') = gate acc1 (S.data.toList.drop j) from fun h1 h2 => by
        rw [HE.out.2.2, NN_stop hb (by rw [hdr]; exact h1) (by rw [hdr]; exact h2), hdr, hacc1])
      have HSharp := Lib.hid (show mark = true → pre [123] (S.data.toList.drop j) = none → pre [35] (S.data.toList.drop j) = some (S.data.toList.drop (j + 1)) → NN deep mark (S.data.toList.drop at') = ahead (app acc1 (.node 6 [] 0 .nil .nil)) (NN deep mark (S.data.toList.drop (j + 1))) from fun hm h1 h2 => by
        subst hm
        rw [HE.out.2.2, NN_sharp hb (by rw [hdr]; exact h1) (by rw [hdr]; exact h2), ahead_ahead, hacc1, app_assoc])
      have HStep0 := Lib.hid (show pre [123] (S.data.toList.drop j) = some (S.data.toList.drop (j + 1)) → ∀ (k : Int) (f : Int) (x : List UInt8) (r : List UInt8) (t2 : T), argO deep mark (S.data.toList.drop (j + 1)) = nodeO k x f (gate t2 r) → (hasC k = true ∨ t2 = .nil) → NN deep mark (S.data.toList.drop at') = ahead (app acc1 (.node k x f t2 .nil)) (NN deep mark r) from fun h1 k f x r t2 h2 h3 => by
        rw [HE.out.2.2, NN_step hb (by rw [hdr]; exact h1) h2 h3, ahead_ahead, hacc1, app_assoc])
      have HBad0 := Lib.hid (show pre [123] (S.data.toList.drop j) = some (S.data.toList.drop (j + 1)) → argO deep mark (S.data.toList.drop (j + 1)) = none → NN deep mark (S.data.toList.drop at') = none from fun h1 h2 => by
        rw [HE.out.2.2, NN_bad hb (by rw [hdr]; exact h1) h2, ahead_none])
      have hji : i ≤ j := by omega
      have HIJ := Lib.hid (show (i : Int) + k = j by omega)
      have hi9 : i ≤ 1000000 := by omega
      have hk9 : k ≤ 1000000 := by omega
      have hj9 : j ≤ 1000000 := by omega
      have HJ := Lib.hid hj
      clear hb hen hdr hj
      by_cases ht : t = []
      · have he : t.isEmpty = true := by rw [ht]; rfl
        have ha1 : acc1 = acc := by rw [hacc1, ht]; exact app_nil acc
        go_wp2_with fail
        refine (HBa.out _).mono ?_
        rintro e W1 ⟨rfl, rfl⟩
        have HAc1 : Hid (Acc w 0 35 4 u10 acc1 xs W1.heap.size W1) := by rw [ha1]; exact HAc
        have HI1 : Hid (isN acc1 = true ∧ wt acc1 + 6 * (S.size - j) ≤ 6 * (S.size - at') + 1) := by
          rw [ha1]; exact ⟨HE.out.1, by have := HE.out.2.1; omega⟩
        have hla1 : len acc1 ≤ j := by rw [ha1]; omega
        have HB1 := HB
        obtain ⟨xs1, hxs1⟩ : ∃ xs1, xs1 = xs := ⟨_, rfl⟩
        rw [← hxs1] at HAc1
        clear HBa HE HAc HB hacc1 ha1 hxs1 hla
        go_upto_region 10 with fail
        rw [HIJ.out]
        rcases HEn with hend | ⟨c, hc, hsg⟩
        · have hje : ((j : Int) == (S.size : Int)) = true := by rw [beq_iff_eq]; omega
          have hjge : S.size ≤ j := by omega
          clear hend
          have hdn : S.data.toList.drop j = [] := List.drop_eq_nil_of_le (by rw [Hl.out]; omega)
          have HNx := Lib.hid (HStop.out (by rw [hdn]; exact pre_nil) (by rw [hdn]; exact pre_nil))
          clear hdn
          go_wp2_with fail
          go_ret2
          exact ⟨.inl ⟨_, j, acc1, rfl, hd6, by omega, by omega, .inl (by omega), HAc1.out.done, HI1.out.1, HI1.out.2, HNx.out⟩, HB1.out⟩
        · have hjl : j < S.size := by
            have := (List.getElem?_eq_some_iff.1 hc).1
            rw [Hl.out] at this; exact this
          have hje : ((j : Int) == (S.size : Int)) = false := beq_eq_false_iff_ne.2 (by omega)
          have hjc : S[j] = c := by
            have := Lib.data_getElem? S j hjl
            rw [hc] at this; exact (Option.some.inj this).symm
          have b125 := byte_eq S[j] 125; have b35 := byte_eq S[j] 35
          have hdj : S.data.toList.drop j = c :: S.data.toList.drop (j + 1) := Lx.drop_cons hc
          have hcs : c = 125 ∨ (c = 35 ∧ mark = true) ∨ c = 123 := by
            unfold Lx.sg at hsg
            simp only [Bool.or_eq_true, Bool.and_eq_true, beq_iff_eq] at hsg
            rcases hsg with (h | h) | ⟨h1, h2⟩
            · exact .inr (.inr h)
            · exact .inl h
            · exact .inr (.inl ⟨h2, h1⟩)
          rcases hcs with rfl | ⟨rfl, hmk⟩ | rfl
          · rw [hjc] at b125 b35
            have c125 : ((S[j].toNat : Int) == 125) = true := by rw [hjc]; rfl
            have HNx := Lib.hid (HStop.out (by rw [hdj]; exact pre_ne (by decide)) (by rw [hdj]; exact pre_ne (by decide)))
            have HC := Lib.hid hc
            clear b125 b35 hdj hsg hjc hc
            go_wp2_with fail
            go_ret2
            exact ⟨.inl ⟨_, j, acc1, rfl, hd6, by omega, by omega, .inr HC.out, HAc1.out.done, HI1.out.1, HI1.out.2, HNx.out⟩, HB1.out⟩
          · have c125 : ((S[j].toNat : Int) == 125) = false := by rw [hjc]; rfl
            have c35 : ((S[j].toNat : Int) == 35) = true := by rw [hjc]; rfl
            have HSh := Lib.hid (HSharp.out hmk (by rw [hdj]; exact pre_ne (by decide)) (by rw [hdj]; exact pre_one _ _))
            have HAcx := HAc1; have HBx := HB1
            clear b125 b35 hdj hsg hjc hc hmk
            have HO := Lib.hid HAcx.out.2.2.2.2.1
            have hsw : w.heap.size ≤ W1.heap.size := HBx.out.size
            have hlen : len acc1 ≤ 1000000 := by omega
            have HNx := Lib.hid (HSh.out)
            go_wp2_with (at_builtin; go_loud (refine wpList_append_lies _ rfl _ _ 22 rfl w.heap.size 35 i0 (.agg #[.int .i64 0, .string ⟨#[]⟩, .int .i64 0, .slice none 0 0]) 4 56 Tryz.underlying22 hi hz0 hz1 hz2 rfl (by decide) _ (len (acc1)) xs1 rfl (HO.out.alloc _) ⟨W1.heap.size, 0, none⟩ 1 1 [.int .i64 6, .string ⟨#[]⟩, .int .i64 0, .slice none 0 0] rfl rfl (World.news_of_block (Go.heap_alloc_new _ _)) (fun x hx => by simp at hx; rcases hx with rfl | rfl | rfl | rfl <;> rfl) (by decide) (by unfold maxLen; omega) (by omega) (by simp; omega) _ rfl ?_; intro g cap w8 hown8 hgrow8 hat8 _))
            all_goals
              have HAc8 := HAcx.out.more (el := .node 6 [] 0 .nil .nil) (M := W1.heap.size) (by omega) (SVP.nil _ _) (by rw [app_len]; rfl) (fun _ _ h1 h2 => RdX.node h1 acc1 xs1 h2) hown8 hgrow8 hat8
              have hB8 := below_grown (HBx.out.alloc HBx.out.size _) hgrow8 (fun k hk => (HO.out.lt k hk).1) (by simp; omega)
              go_roundw
              case rel =>
                refine ⟨j + 1, _, _, by go_num, by omega, by omega, ?_, ⟨app_isN _ _ HI1.out.1 (by simp [isN, isN.isC]), ?_, HNx.out⟩, HAc8, hB8⟩
                · rw [app_len]; simp only [len]; omega
                · rw [wt_node]; have h1 := HI1.out.2; simp only [wt, List.length_nil]; omega
              case measure => simp [RowKit.intOf]; omega
          · have c125 : ((S[j].toNat : Int) == 125) = false := by rw [hjc]; rfl
            have c35 : ((S[j].toNat : Int) == 35) = false := by rw [hjc]; rfl
            have hp123 : pre [123] (S.data.toList.drop j) = some (S.data.toList.drop (j + 1)) := by rw [hdj]; exact pre_one _ _
            have HStep := Lib.hid (HStep0.out hp123); have HBad := Lib.hid (HBad0.out hp123)
            clear b125 b35 hdj hsg hjc hc hp123 HStep0 HBad0 HStop HSharp
            go_wp2_with fail
            go_loop [13] (fun p => ∃ z : Nat, p = .int .i64 z ∧ j + 1 ≤ z ∧ z ≤ S.size ∧ Hid (∀ d ∈ (S.data.toList.drop (j + 1)).take (z - (j + 1)), (d == 44 || d == 125) = false)) (fun p => S.size - (RowKit.intOf p).toNat)
            case atStart => exact ⟨j + 1, by go_num, Nat.le_refl _, hjl, by simp [Hid]⟩
            case round =>
              obtain ⟨z, rfl, hz1', hz2', HZ⟩ := hrel
              have hz9 : z ≤ 1000000 := by omega
              by_cases hz : z < S.size
              · by_cases hz44 : S[z] = 44
                · have n44 : ((S[z].toNat : Int) != 44) = false := by rw [hz44]; rfl
                  have hzc := hz44
                  clear hz44
                  have hzi : (z : Int) < (S.size : Int) := by omega
                  have hxx := ext_part S (j + 1) z
                  obtain ⟨x, hxe⟩ : ∃ x, x = (S.data.toList.drop (j + 1)).take (z - (j + 1)) := ⟨_, rfl⟩
                  have hxl : x.length ≤ z - (j + 1) := by rw [hxe, List.length_take]; omega
                  rw [← hxe] at hxx
                  obtain ⟨cb, hcb⟩ : ∃ cb, cb = W1.heap.size := ⟨_, rfl⟩
                  have hbk := Go.heap_alloc_new W1 (.cells #[.int .i64 2, .string ⟨x.toArray⟩, .int .i64 0, .slice none 0 0] 35)
                  have HAcx := Lib.hid (HAc1.out.below ((Below.refl W1.heap.size W1).alloc (Nat.le_refl _) (.cells #[.int .i64 2, .string ⟨x.toArray⟩, .int .i64 0, .slice none 0 0] 35)))
                  have HBx := Lib.hid (HB1.out.alloc HB1.out.size (.cells #[.int .i64 2, .string ⟨x.toArray⟩, .int .i64 0, .slice none 0 0] 35))
                  have hsz : (W1.alloc (.cells #[.int .i64 2, .string ⟨x.toArray⟩, .int .i64 0, .slice none 0 0] 35)).heap.size = cb + 1 := by rw [hcb]; simp
                  have hwcb : w.heap.size ≤ cb := by have := HB1.out.size; omega
                  have hcb0 : 0 < cb := Nat.lt_of_lt_of_le H0.out hwcb
                  have hu := Lib.hid hxe
                  clear hxe
                  go_upto_region 20 with fail
                  rw [← hcb] at hbk HAcx ⊢
                  clear HAc1 HB1 hcb
                  generalize W1.alloc (.cells #[.int .i64 2, .string ⟨x.toArray⟩, .int .i64 0, .slice none 0 0] 35) = W2 at *
                  have hbk : W2.heap[cb]? = some (.cells #[.int .i64 2, .string ⟨x.toArray⟩, .int .i64 0, .slice none 0 0] 35) := hbk
                  have hcl : cb < W2.heap.size := by omega
                  clear hsz
                  have hup : upto (fun c => c == 44 || c == 125) (S.data.toList.drop (j + 1)) = some (x, S.data.toList.drop z) := by
                    have h1 := upto_take (p := fun c => c == 44 || c == 125) (l := S.data.toList.drop (j + 1)) (n := z - (j + 1)) (c := S[z]) HZ.out (by rw [List.getElem?_drop, show j + 1 + (z - (j + 1)) = z by omega]; exact Lib.data_getElem? S z hz) (by rw [hzc]; rfl)
                    rw [List.drop_drop, show j + 1 + (z - (j + 1)) = z by omega, ← hu.out] at h1
                    exact h1
                  have HUp := Lib.hid hup
                  clear hup
                  have hdz : S.data.toList.drop z = S[z] :: S.data.toList.drop (z + 1) := Lx.drop_cons (Lib.data_getElem? S z hz)
                  rw [hzc] at hdz
                  have hz125 : pre [125] (S.data.toList.drop z) = none := by rw [hdz]; exact pre_ne (by decide)
                  have HS0 := Lib.hid (starts_at S z ⟨#[125]⟩ false (by rw [hdz]; rfl))
                  have HZ125 := Lib.hid hz125
                  clear hdz hz125
                  go_wp2_with fail
                  refine (HS0.out _).mono ?_
                  rintro e W2' ⟨rfl, rfl⟩
                  cases hp1 : Lib.hasPrefix (S.data.toList.drop z) (⟨#[44, 32, 110, 117, 109, 98, 101, 114, 125]⟩ : ByteArray).data.toList with
                  | true =>
                    have HS1 := Lib.hid (starts_at S z ⟨#[44, 32, 110, 117, 109, 98, 101, 114, 125]⟩ true hp1)
                    have hroom := pre_room hp1 (by decide)
                    rw [Hl.out] at hroom
                    have hroom : z + 9 ≤ S.size := hroom
                    have HArg := Lib.hid (arg_number (deep := deep) (mark := mark) HUp.out HZ125.out (pre_drop hp1))
                    clear hp1
                    go_wp2_with fail
                    refine (HS1.out _).mono ?_
                    rintro e W2 ⟨rfl, rfl⟩
                    have y0 : W2.cell? ⟨cb, 0, none⟩ = some (.int .i64 2) := block_cell hbk rfl
                    have y1 : W2.cell? ⟨cb, 1, none⟩ = some (.string ⟨x.toArray⟩) := block_cell hbk rfl
                    have y2 : W2.cell? ⟨cb, 2, none⟩ = some (.int .i64 0) := block_cell hbk rfl
                    have y3 : W2.cell? ⟨cb, 3, none⟩ = some (.slice none 0 0) := block_cell hbk rfl
                    have fz0 : W2.frozen? ⟨cb, 0, none⟩ = false := by simp [World.frozen?, hbk]
                    have hbk' := Joins.block_setCell (i := 0) hbk (.int .i64 3)
                    have HAcx' := Lib.hid (HAcx.out.set (i := 0) (.int .i64 3) (.inr (Nat.le_refl _)))
                    have HBx' := Lib.hid (below_grown HBx.out (keeps_set W2 cb 0 (.int .i64 3)) (fun k hk => by cases hk; exact hwcb) HBx.out.size)
                    have hcl' : cb < (W2.setCell ⟨cb, 0, none⟩ (.int .i64 3)).heap.size := by rw [size_setCell]; exact hcl
                    go_upto_if 159 with fail
                    clear y0 y1 y2 y3 fz0 hbk HAcx HBx hcl
                    generalize W2.setCell ⟨cb, 0, none⟩ (.int .i64 3) = W3 at *
                    have hbk : W3.heap[cb]? = some (.cells #[.int .i64 3, .string ⟨x.toArray⟩, .int .i64 0, .slice none 0 0] 35) := hbk'
                    have HAcx := HAcx'; have HBx := HBx'
                    have hcl : cb < W3.heap.size := by omega
                    clear hbk' HAcx' HBx'
                    have y0 : W3.cell? ⟨cb, 0, none⟩ = some (.int .i64 3) := block_cell hbk rfl
                    have y1 : W3.cell? ⟨cb, 1, none⟩ = some (.string ⟨x.toArray⟩) := block_cell hbk rfl
                    have y2 : W3.cell? ⟨cb, 2, none⟩ = some (.int .i64 0) := block_cell hbk rfl
                    have y3 : W3.cell? ⟨cb, 3, none⟩ = some (.slice none 0 0) := block_cell hbk rfl
                    have HO := Lib.hid HAcx.out.2.2.2.2.1
                    have hsw : w.heap.size ≤ W3.heap.size := HBx.out.size
                    have hlen : len acc1 ≤ 1000000 := by omega
                    have HNx := Lib.hid (HStep.out _ _ _ _ _ HArg.out (.inr rfl))
                    go_wp2_with (at_builtin; go_loud (refine wpList_append_lies _ rfl _ _ 22 rfl w.heap.size 35 i0 (.agg #[.int .i64 0, .string ⟨#[]⟩, .int .i64 0, .slice none 0 0]) 4 56 Tryz.underlying22 hi hz0 hz1 hz2 rfl (by decide) _ (len (acc1)) xs1 rfl (HO.out.alloc _) ⟨W3.heap.size, 0, none⟩ 1 1 [.int .i64 3, .string ⟨x.toArray⟩, .int .i64 0, .slice none 0 0] rfl rfl (World.news_of_block (Go.heap_alloc_new _ _)) (fun x hx => by simp at hx; rcases hx with rfl | rfl | rfl | rfl <;> rfl) (by decide) (by unfold maxLen; omega) (by omega) (by simp; omega) _ rfl ?_; intro g cap w8 hown8 hgrow8 hat8 _))
                    all_goals
                      have HAc8 := HAcx.out.more (el := .node 3 x 0 .nil .nil) (M := W3.heap.size) (by omega) (SVP.nil _ _) (by rw [app_len]; rfl) (fun _ _ h1 h2 => RdX.node h1 acc1 xs1 h2) hown8 hgrow8 hat8
                      have hB8 := below_grown (HBx.out.alloc HBx.out.size _) hgrow8 (fun k hk => (HO.out.lt k hk).1) (by simp; omega)
                      go_roundw
                      case rel =>
                        refine ⟨z + 9, _, _, by go_num, by omega, by omega, ?_, ⟨app_isN _ _ HI1.out.1 (by simp [isN, isN.isC]), ?_, HNx.out⟩, HAc8, hB8⟩
                        · rw [app_len]; simp only [len]; omega
                        · rw [wt_node]; have h1 := HI1.out.2; simp only [wt]; omega
                      case measure => simp [RowKit.intOf]; omega
                  | false =>
                    have HS1 := Lib.hid (starts_at S z ⟨#[44, 32, 110, 117, 109, 98, 101, 114, 125]⟩ false hp1)
                    have HP1 := Lib.hid (show pre number (S.data.toList.drop z) = none from pre_not hp1)
                    clear hp1
                    go_wp2_with fail
                    refine (HS1.out _).mono ?_
                    rintro e W2' ⟨rfl, rfl⟩
                    cases hp2 : Lib.hasPrefix (S.data.toList.drop z) (⟨#[44, 32, 115, 101, 108, 101, 99, 116, 44]⟩ : ByteArray).data.toList with
                    | true =>
                      have HS2 := Lib.hid (starts_at S z ⟨#[44, 32, 115, 101, 108, 101, 99, 116, 44]⟩ true hp2)
                      have hroom := pre_room hp2 (by decide)
                      rw [Hl.out] at hroom
                      have hroom : z + 9 ≤ S.size := hroom
                      have HArgs := Lib.hid (show argO deep mark (S.data.toList.drop (j + 1)) = nodeO 5 x 0 (CC deep mark (S.data.toList.drop (z + 9))) from arg_select HUp.out HZ125.out HP1.out (pre_drop hp2))
                      clear hp2
                      go_wp2_with fail
                      refine (HS2.out _).mono ?_
                      rintro e W2 ⟨rfl, rfl⟩
                      have y0 : W2.cell? ⟨cb, 0, none⟩ = some (.int .i64 2) := block_cell hbk rfl
                      have y1 : W2.cell? ⟨cb, 1, none⟩ = some (.string ⟨x.toArray⟩) := block_cell hbk rfl
                      have y2 : W2.cell? ⟨cb, 2, none⟩ = some (.int .i64 0) := block_cell hbk rfl
                      have y3 : W2.cell? ⟨cb, 3, none⟩ = some (.slice none 0 0) := block_cell hbk rfl
                      have fz0 : W2.frozen? ⟨cb, 0, none⟩ = false := by simp [World.frozen?, hbk]
                      have hbk' := Joins.block_setCell (i := 0) hbk (.int .i64 5)
                      have HAcx' := Lib.hid (HAcx.out.set (i := 0) (.int .i64 5) (.inr (Nat.le_refl _)))
                      have HBx' := Lib.hid (below_grown HBx.out (keeps_set W2 cb 0 (.int .i64 5)) (fun k hk => by cases hk; exact hwcb) HBx.out.size)
                      have hcl' : cb < (W2.setCell ⟨cb, 0, none⟩ (.int .i64 5)).heap.size := by rw [size_setCell]; exact hcl
                      go_wp2_with fail
                      clear y0 y1 y2 y3 fz0 hbk HAcx HBx hcl
                      generalize W2.setCell ⟨cb, 0, none⟩ (.int .i64 5) = W3 at *
                      have hbk : W3.heap[cb]? = some (.cells #[.int .i64 5, .string ⟨x.toArray⟩, .int .i64 0, .slice none 0 0] 35) := hbk'
                      have HAcx := HAcx'; have HBx := HBx'
                      have hcl : cb < W3.heap.size := by omega
                      clear hbk' HAcx' HBx'
                      have HCas := Lib.hid (show Calls Tryz.prog 57 #[.string S, .int .i64 ((z : Int) + 9), .bool mark, .int .i64 deep] W3 (CasesAtOut S (z + 9) deep mark W3) from
                        rcas_any S n IH.out hs (z + 9) deep mark W3 (by omega) (by omega) hd6 (by omega))
                      refine HCas.out.mono ?_
                      rintro e W4 ⟨h, hb4⟩
                      have hbk4 : W4.heap[cb]? = some (.cells #[.int .i64 5, .string ⟨x.toArray⟩, .int .i64 0, .slice none 0 0] 35) := (hb4.block cb (by omega)).trans hbk
                      have HAc4 := Lib.hid (HAcx.out.below hb4)
                      have HB4 := Lib.hid (HBx.out.trans (hb4.mono HBx.out.size))
                      have hs4 : W3.heap.size ≤ W4.heap.size := hb4.size
                      have hcl4 : cb < W4.heap.size := by omega
                      clear HCas hb4 hbk HAcx HBx hcl
                      have hbk := hbk4; have HAcx := HAc4; have HBx := HB4; have hcl := hcl4
                      clear hbk4 HAc4 HB4 hcl4
                      rcases h with ⟨v, k2, cs, rfl, hk1, hk2, hv, hnc, hwc, hC⟩ | ⟨rfl, hC⟩
                      · obtain ⟨va, vn, vc, rfl⟩ := hv.form
                        have HV := Lib.hid hv; have HCs := Lib.hid hnc; have HWc := Lib.hid hwc
                        have HArg := Lib.hid (HArgs.out.trans (by rw [hC]))
                        clear hv hnc hwc hC
                        have y0 : W4.cell? ⟨cb, 0, none⟩ = some (.int .i64 5) := block_cell hbk rfl
                        have y1 : W4.cell? ⟨cb, 1, none⟩ = some (.string ⟨x.toArray⟩) := block_cell hbk rfl
                        have y2 : W4.cell? ⟨cb, 2, none⟩ = some (.int .i64 0) := block_cell hbk rfl
                        have y3 : W4.cell? ⟨cb, 3, none⟩ = some (.slice none 0 0) := block_cell hbk rfl
                        have fz3 : W4.frozen? ⟨cb, 3, none⟩ = false := by simp [World.frozen?, hbk]
                        have hkeep : ∀ b, cb < b → (W4.setCell ⟨cb, 3, none⟩ (.slice va vn vc)).heap[b]? = W4.heap[b]? := fun b hb => heap_setCell_other W4 ⟨cb, 3, none⟩ b _ (by show b ≠ cb; omega)
                        have hbk' := Joins.block_setCell (i := 3) hbk (.slice va vn vc)
                        have HAcx' := Lib.hid (HAcx.out.set (i := 3) (.slice va vn vc) (.inr (Nat.le_refl _)))
                        have HBx' := Lib.hid (below_grown HBx.out (keeps_set W4 cb 3 (.slice va vn vc)) (fun k hk => by cases hk; exact hwcb) HBx.out.size)
                        have hcl' : cb < (W4.setCell ⟨cb, 3, none⟩ (.slice va vn vc)).heap.size := by rw [size_setCell]; exact hcl
                        go_upto_if 159 with fail
                        clear y0 y1 y2 y3 fz3 hbk HAcx HBx hcl
                        generalize W4.setCell ⟨cb, 3, none⟩ (.slice va vn vc) = W5 at *
                        have hbk : W5.heap[cb]? = some (.cells #[.int .i64 5, .string ⟨x.toArray⟩, .int .i64 0, .slice va vn vc] 35) := hbk'
                        have HAcx := HAcx'; have HBx := HBx'
                        have hcl : cb < W5.heap.size := by omega
                        clear hbk' HAcx' HBx'
                        have HV' := Lib.hid (SVP.keep (W' := W5) (fun b hb hp => hkeep b (by omega)) HV.out)
                        have y0 : W5.cell? ⟨cb, 0, none⟩ = some (.int .i64 5) := block_cell hbk rfl
                        have y1 : W5.cell? ⟨cb, 1, none⟩ = some (.string ⟨x.toArray⟩) := block_cell hbk rfl
                        have y2 : W5.cell? ⟨cb, 2, none⟩ = some (.int .i64 0) := block_cell hbk rfl
                        have y3 : W5.cell? ⟨cb, 3, none⟩ = some (.slice va vn vc) := block_cell hbk rfl
                        have HO := Lib.hid HAcx.out.2.2.2.2.1
                        have hsw : w.heap.size ≤ W5.heap.size := HBx.out.size
                        have hlen : len acc1 ≤ 1000000 := by omega
                        have HNx := Lib.hid (HStep.out _ _ _ _ _ HArg.out (.inl rfl))
                        go_wp2_with (at_builtin; go_loud (refine wpList_append_lies _ rfl _ _ 22 rfl w.heap.size 35 i0 (.agg #[.int .i64 0, .string ⟨#[]⟩, .int .i64 0, .slice none 0 0]) 4 56 Tryz.underlying22 hi hz0 hz1 hz2 rfl (by decide) _ (len (acc1)) xs1 rfl (HO.out.alloc _) ⟨W5.heap.size, 0, none⟩ 1 1 [.int .i64 5, .string ⟨x.toArray⟩, .int .i64 0, .slice va vn vc] rfl rfl (World.news_of_block (Go.heap_alloc_new _ _)) (fun x hx => by simp at hx; rcases hx with rfl | rfl | rfl | rfl <;> rfl) (by decide) (by unfold maxLen; omega) (by omega) (by simp; omega) _ rfl ?_; intro g cap w8 hown8 hgrow8 hat8 _))
                        all_goals
                          have HAc8 := HAcx.out.more (el := .node 5 x 0 cs .nil) (M := W3.heap.size) (by omega) HV'.out (by rw [app_len]; rfl) (fun _ _ h1 h2 => RdX.node h1 acc1 xs1 h2) hown8 hgrow8 hat8
                          have hB8 := below_grown (HBx.out.alloc HBx.out.size _) hgrow8 (fun k hk => (HO.out.lt k hk).1) (by simp; omega)
                          go_roundw
                          case rel =>
                            refine ⟨k2, _, _, by go_num, by omega, by omega, ?_, ⟨app_isN _ _ HI1.out.1 (by simp [isN, HCs.out]), ?_, HNx.out⟩, HAc8, hB8⟩
                            · rw [app_len]; simp only [len]; omega
                            · rw [wt_node]; have h1 := HI1.out.2; have h2 := HWc.out; omega
                          case measure => simp [RowKit.intOf]; omega
                      · have HArg := Lib.hid (HArgs.out.trans (by rw [hC]; first | done | rfl))
                        clear hC
                        have y0 : W4.cell? ⟨cb, 0, none⟩ = some (.int .i64 5) := block_cell hbk rfl
                        have y1 : W4.cell? ⟨cb, 1, none⟩ = some (.string ⟨x.toArray⟩) := block_cell hbk rfl
                        have y2 : W4.cell? ⟨cb, 2, none⟩ = some (.int .i64 0) := block_cell hbk rfl
                        have y3 : W4.cell? ⟨cb, 3, none⟩ = some (.slice none 0 0) := block_cell hbk rfl
                        have fz3 : W4.frozen? ⟨cb, 3, none⟩ = false := by simp [World.frozen?, hbk]
                        have hbk' := Joins.block_setCell (i := 3) hbk (.slice none 0 0)
                        have HAcx' := Lib.hid (HAcx.out.set (i := 3) (.slice none 0 0) (.inr (Nat.le_refl _)))
                        have HBx' := Lib.hid (below_grown HBx.out (keeps_set W4 cb 3 (.slice none 0 0)) (fun k hk => by cases hk; exact hwcb) HBx.out.size)
                        have hcl' : cb < (W4.setCell ⟨cb, 3, none⟩ (.slice none 0 0)).heap.size := by rw [size_setCell]; exact hcl
                        go_upto_if 159 with fail
                        clear y0 y1 y2 y3 fz3 hbk HAcx HBx hcl
                        generalize W4.setCell ⟨cb, 3, none⟩ (.slice none 0 0) = W5 at *
                        have hbk : W5.heap[cb]? = some (.cells #[.int .i64 5, .string ⟨x.toArray⟩, .int .i64 0, .slice none 0 0] 35) := hbk'
                        have HAcx := HAcx'; have HBx := HBx'
                        have hcl : cb < W5.heap.size := by omega
                        clear hbk' HAcx' HBx'
                        have HNx := Lib.hid (HBad.out HArg.out)
                        go_wp2_with fail
                        go_ret2
                        exact ⟨.inr ⟨rfl, fun _ => HNx.out⟩, HBx.out⟩
                    | false =>
                      have HS2 := Lib.hid (starts_at S z ⟨#[44, 32, 115, 101, 108, 101, 99, 116, 44]⟩ false hp2)
                      have HP2 := Lib.hid (show pre select (S.data.toList.drop z) = none from pre_not hp2)
                      clear hp2
                      go_wp2_with fail
                      refine (HS2.out _).mono ?_
                      rintro e W2' ⟨rfl, rfl⟩
                      cases hp3 : Lib.hasPrefix (S.data.toList.drop z) (⟨#[44, 32, 112, 108, 117, 114, 97, 108, 44]⟩ : ByteArray).data.toList with
                      | false =>
                        have HS3 := Lib.hid (starts_at S z ⟨#[44, 32, 112, 108, 117, 114, 97, 108, 44]⟩ false hp3)
                        have HArg := Lib.hid (arg_none (deep := deep) (mark := mark) HUp.out HZ125.out HP1.out HP2.out (pre_not hp3))
                        clear hp3
                        go_wp2_with fail
                        refine (HS3.out _).mono ?_
                        rintro e W2' ⟨rfl, rfl⟩
                        have HNx := Lib.hid (HBad.out HArg.out)
                        go_wp2_with fail
                        go_ret2
                        exact ⟨.inr ⟨rfl, fun _ => HNx.out⟩, HBx.out⟩
                      | true =>
                        have HS3 := Lib.hid (starts_at S z ⟨#[44, 32, 112, 108, 117, 114, 97, 108, 44]⟩ true hp3)
                        have hroom := pre_room hp3 (by decide)
                        rw [Hl.out] at hroom
                        have hroom : z + 9 ≤ S.size := hroom
                        have HP3 := Lib.hid (show pre plural (S.data.toList.drop z) = some (S.data.toList.drop (z + 9)) from pre_drop hp3)
                        clear hp3
                        go_wp2_with fail
                        refine (HS3.out _).mono ?_
                        rintro e W2 ⟨rfl, rfl⟩
                        have y0 : W2.cell? ⟨cb, 0, none⟩ = some (.int .i64 2) := block_cell hbk rfl
                        have y1 : W2.cell? ⟨cb, 1, none⟩ = some (.string ⟨x.toArray⟩) := block_cell hbk rfl
                        have y2 : W2.cell? ⟨cb, 2, none⟩ = some (.int .i64 0) := block_cell hbk rfl
                        have y3 : W2.cell? ⟨cb, 3, none⟩ = some (.slice none 0 0) := block_cell hbk rfl
                        have fz0 : W2.frozen? ⟨cb, 0, none⟩ = false := by simp [World.frozen?, hbk]
                        have hbk' := Joins.block_setCell (i := 0) hbk (.int .i64 4)
                        have HAcx' := Lib.hid (HAcx.out.set (i := 0) (.int .i64 4) (.inr (Nat.le_refl _)))
                        have HBx' := Lib.hid (below_grown HBx.out (keeps_set W2 cb 0 (.int .i64 4)) (fun k hk => by cases hk; exact hwcb) HBx.out.size)
                        have hcl' : cb < (W2.setCell ⟨cb, 0, none⟩ (.int .i64 4)).heap.size := by rw [size_setCell]; exact hcl
                        go_wp2_with fail
                        clear y0 y1 y2 y3 fz0 hbk HAcx HBx hcl
                        generalize W2.setCell ⟨cb, 0, none⟩ (.int .i64 4) = W3 at *
                        have hbk : W3.heap[cb]? = some (.cells #[.int .i64 4, .string ⟨x.toArray⟩, .int .i64 0, .slice none 0 0] 35) := hbk'
                        have HAcx := HAcx'; have HBx := HBx'
                        have hcl : cb < W3.heap.size := by omega
                        clear hbk' HAcx' HBx'
                        cases hp4 : Lib.hasPrefix (S.data.toList.drop (z + 9)) (⟨#[32, 111, 102, 102, 115, 101, 116, 58]⟩ : ByteArray).data.toList with
                        | false =>
                          have HS4 := Lib.hid (starts_at S (z + 9) ⟨#[32, 111, 102, 102, 115, 101, 116, 58]⟩ false hp4)
                          have HArgs := Lib.hid (arg_plural (deep := deep) (mark := mark) HUp.out HZ125.out HP1.out HP2.out HP3.out (pre_not hp4))
                          clear hp4
                          refine (HS4.out _).mono ?_
                          rintro e W3 ⟨rfl, rfl⟩
                          have HCas := Lib.hid (show Calls Tryz.prog 57 #[.string S, .int .i64 ((z : Int) + 9), .bool true, .int .i64 deep] W3 (CasesAtOut S (z + 9) deep true W3) from
                            rcas_any S n IH.out hs (z + 9) deep true W3 (by omega) (by omega) hd6 (by omega))
                          go_wp2_with fail
                          refine HCas.out.mono ?_
                          rintro e W4 ⟨h, hb4⟩
                          have hbk4 : W4.heap[cb]? = some (.cells #[.int .i64 4, .string ⟨x.toArray⟩, .int .i64 0, .slice none 0 0] 35) := (hb4.block cb (by omega)).trans hbk
                          have HAc4 := Lib.hid (HAcx.out.below hb4)
                          have HB4 := Lib.hid (HBx.out.trans (hb4.mono HBx.out.size))
                          have hs4 : W3.heap.size ≤ W4.heap.size := hb4.size
                          have hcl4 : cb < W4.heap.size := by omega
                          clear HCas hb4 hbk HAcx HBx hcl
                          have hbk := hbk4; have HAcx := HAc4; have HBx := HB4; have hcl := hcl4
                          clear hbk4 HAc4 HB4 hcl4
                          rcases h with ⟨v, k2, cs, rfl, hk1, hk2, hv, hnc, hwc, hC⟩ | ⟨rfl, hC⟩
                          · obtain ⟨va, vn, vc, rfl⟩ := hv.form
                            have HV := Lib.hid hv; have HCs := Lib.hid hnc; have HWc := Lib.hid hwc
                            have HArg := Lib.hid (HArgs.out.trans (by rw [hC]))
                            clear hv hnc hwc hC
                            have y0 : W4.cell? ⟨cb, 0, none⟩ = some (.int .i64 4) := block_cell hbk rfl
                            have y1 : W4.cell? ⟨cb, 1, none⟩ = some (.string ⟨x.toArray⟩) := block_cell hbk rfl
                            have y2 : W4.cell? ⟨cb, 2, none⟩ = some (.int .i64 0) := block_cell hbk rfl
                            have y3 : W4.cell? ⟨cb, 3, none⟩ = some (.slice none 0 0) := block_cell hbk rfl
                            have fz3 : W4.frozen? ⟨cb, 3, none⟩ = false := by simp [World.frozen?, hbk]
                            have hkeep : ∀ b, cb < b → (W4.setCell ⟨cb, 3, none⟩ (.slice va vn vc)).heap[b]? = W4.heap[b]? := fun b hb => heap_setCell_other W4 ⟨cb, 3, none⟩ b _ (by show b ≠ cb; omega)
                            have hbk' := Joins.block_setCell (i := 3) hbk (.slice va vn vc)
                            have HAcx' := Lib.hid (HAcx.out.set (i := 3) (.slice va vn vc) (.inr (Nat.le_refl _)))
                            have HBx' := Lib.hid (below_grown HBx.out (keeps_set W4 cb 3 (.slice va vn vc)) (fun k hk => by cases hk; exact hwcb) HBx.out.size)
                            have hcl' : cb < (W4.setCell ⟨cb, 3, none⟩ (.slice va vn vc)).heap.size := by rw [size_setCell]; exact hcl
                            go_upto_if 159 with fail
                            clear y0 y1 y2 y3 fz3 hbk HAcx HBx hcl
                            generalize W4.setCell ⟨cb, 3, none⟩ (.slice va vn vc) = W5 at *
                            have hbk : W5.heap[cb]? = some (.cells #[.int .i64 4, .string ⟨x.toArray⟩, .int .i64 0, .slice va vn vc] 35) := hbk'
                            have HAcx := HAcx'; have HBx := HBx'
                            have hcl : cb < W5.heap.size := by omega
                            clear hbk' HAcx' HBx'
                            have HV' := Lib.hid (SVP.keep (W' := W5) (fun b hb hp => hkeep b (by omega)) HV.out)
                            have y0 : W5.cell? ⟨cb, 0, none⟩ = some (.int .i64 4) := block_cell hbk rfl
                            have y1 : W5.cell? ⟨cb, 1, none⟩ = some (.string ⟨x.toArray⟩) := block_cell hbk rfl
                            have y2 : W5.cell? ⟨cb, 2, none⟩ = some (.int .i64 0) := block_cell hbk rfl
                            have y3 : W5.cell? ⟨cb, 3, none⟩ = some (.slice va vn vc) := block_cell hbk rfl
                            have HO := Lib.hid HAcx.out.2.2.2.2.1
                            have hsw : w.heap.size ≤ W5.heap.size := HBx.out.size
                            have hlen : len acc1 ≤ 1000000 := by omega
                            have HNx := Lib.hid (HStep.out _ _ _ _ _ HArg.out (.inl rfl))
                            go_wp2_with (at_builtin; go_loud (refine wpList_append_lies _ rfl _ _ 22 rfl w.heap.size 35 i0 (.agg #[.int .i64 0, .string ⟨#[]⟩, .int .i64 0, .slice none 0 0]) 4 56 Tryz.underlying22 hi hz0 hz1 hz2 rfl (by decide) _ (len (acc1)) xs1 rfl (HO.out.alloc _) ⟨W5.heap.size, 0, none⟩ 1 1 [.int .i64 4, .string ⟨x.toArray⟩, .int .i64 0, .slice va vn vc] rfl rfl (World.news_of_block (Go.heap_alloc_new _ _)) (fun x hx => by simp at hx; rcases hx with rfl | rfl | rfl | rfl <;> rfl) (by decide) (by unfold maxLen; omega) (by omega) (by simp; omega) _ rfl ?_; intro g cap w8 hown8 hgrow8 hat8 _))
                            all_goals
                              have HAc8 := HAcx.out.more (el := .node 4 x 0 cs .nil) (M := W3.heap.size) (by omega) HV'.out (by rw [app_len]; rfl) (fun _ _ h1 h2 => RdX.node h1 acc1 xs1 h2) hown8 hgrow8 hat8
                              have hB8 := below_grown (HBx.out.alloc HBx.out.size _) hgrow8 (fun k hk => (HO.out.lt k hk).1) (by simp; omega)
                              go_roundw
                              case rel =>
                                refine ⟨k2, _, _, by go_num, by omega, by omega, ?_, ⟨app_isN _ _ HI1.out.1 (by simp [isN, HCs.out]), ?_, HNx.out⟩, HAc8, hB8⟩
                                · rw [app_len]; simp only [len]; omega
                                · rw [wt_node]; have h1 := HI1.out.2; have h2 := HWc.out; omega
                              case measure => simp [RowKit.intOf]; omega
                          · have HArg := Lib.hid (HArgs.out.trans (by rw [hC]; first | done | rfl))
                            clear hC
                            have y0 : W4.cell? ⟨cb, 0, none⟩ = some (.int .i64 4) := block_cell hbk rfl
                            have y1 : W4.cell? ⟨cb, 1, none⟩ = some (.string ⟨x.toArray⟩) := block_cell hbk rfl
                            have y2 : W4.cell? ⟨cb, 2, none⟩ = some (.int .i64 0) := block_cell hbk rfl
                            have y3 : W4.cell? ⟨cb, 3, none⟩ = some (.slice none 0 0) := block_cell hbk rfl
                            have fz3 : W4.frozen? ⟨cb, 3, none⟩ = false := by simp [World.frozen?, hbk]
                            have hbk' := Joins.block_setCell (i := 3) hbk (.slice none 0 0)
                            have HAcx' := Lib.hid (HAcx.out.set (i := 3) (.slice none 0 0) (.inr (Nat.le_refl _)))
                            have HBx' := Lib.hid (below_grown HBx.out (keeps_set W4 cb 3 (.slice none 0 0)) (fun k hk => by cases hk; exact hwcb) HBx.out.size)
                            have hcl' : cb < (W4.setCell ⟨cb, 3, none⟩ (.slice none 0 0)).heap.size := by rw [size_setCell]; exact hcl
                            go_upto_if 159 with fail
                            clear y0 y1 y2 y3 fz3 hbk HAcx HBx hcl
                            generalize W4.setCell ⟨cb, 3, none⟩ (.slice none 0 0) = W5 at *
                            have hbk : W5.heap[cb]? = some (.cells #[.int .i64 4, .string ⟨x.toArray⟩, .int .i64 0, .slice none 0 0] 35) := hbk'
                            have HAcx := HAcx'; have HBx := HBx'
                            have hcl : cb < W5.heap.size := by omega
                            clear hbk' HAcx' HBx'
                            have HNx := Lib.hid (HBad.out HArg.out)
                            go_wp2_with fail
                            go_ret2
                            exact ⟨.inr ⟨rfl, fun _ => HNx.out⟩, HBx.out⟩
                        | true =>
                          have HS4 := Lib.hid (starts_at S (z + 9) ⟨#[32, 111, 102, 102, 115, 101, 116, 58]⟩ true hp4)
                          have hroom2 := pre_room hp4 (by decide)
                          rw [Hl.out] at hroom2
                          have hroom2 : z + 9 + 8 ≤ S.size := hroom2
                          have HP4 := Lib.hid (show pre offset (S.data.toList.drop (z + 9)) = some (S.data.toList.drop (z + 9 + 8)) from pre_drop hp4)
                          clear hp4
                          refine (HS4.out _).mono ?_
                          rintro e W3 ⟨rfl, rfl⟩
                          by_cases hlong : z + 9 + 9 ≤ S.size
                          · have hqs : z + 9 + 8 < S.size := by omega
                            have hdq : S.data.toList.drop (z + 9 + 8) = S[z + 9 + 8] :: S.data.toList.drop (z + 9 + 9) := Lx.drop_cons (Lib.data_getElem? S (z + 9 + 8) hqs)
                            have hON := ronly_digit S (z + 9 + 8) hqs
                            cases hdig : (49 ≤ S[z + 9 + 8] && S[z + 9 + 8] ≤ 57 : Bool) with
                            | false =>
                              have HArg := Lib.hid (arg_offbad (deep := deep) (mark := mark) HUp.out HZ125.out HP1.out HP2.out HP3.out HP4.out (fun d r' he => by
                                rw [hdq] at he
                                have := (List.cons.inj he).1
                                subst this
                                simpa using hdig))
                              rw [hdig] at hON
                              have HON := Lib.hid hON
                              clear hON hdq hdig
                              go_wp2_with fail
                              refine (HON.out _).mono ?_
                              rintro e W4 ⟨rfl, hb4⟩
                              have HB4 := Lib.hid (HBx.out.trans (hb4.mono HBx.out.size))
                              clear HBx hb4
                              have HBx := HB4
                              have HNx := Lib.hid (HBad.out HArg.out)
                              go_wp2_with fail
                              go_ret2
                              exact ⟨.inr ⟨rfl, fun _ => HNx.out⟩, HBx.out⟩
                            | true =>
                              have hd1 : 49 ≤ S[z + 9 + 8] := by simp only [Bool.and_eq_true, decide_eq_true_eq] at hdig; exact hdig.1
                              have hd2 : S[z + 9 + 8] ≤ 57 := by simp only [Bool.and_eq_true, decide_eq_true_eq] at hdig; exact hdig.2
                              have hdn1 : 49 ≤ S[z + 9 + 8].toNat := by rw [UInt8.le_iff_toNat_le] at hd1; exact hd1
                              have hdn2 : S[z + 9 + 8].toNat ≤ 57 := by rw [UInt8.le_iff_toNat_le] at hd2; exact hd2
                              rw [hdq] at HP4
                              have HArgs := Lib.hid (arg_offset (deep := deep) (mark := mark) HUp.out HZ125.out HP1.out HP2.out HP3.out HP4.out hd1 hd2)
                              rw [hdig] at hON
                              have HON := Lib.hid hON
                              clear hON hdq hdig hd1 hd2
                              go_wp2_with fail
                              refine (HON.out _).mono ?_
                              rintro e W4 ⟨rfl, hb4⟩
                              have HAc4 := Lib.hid (HAcx.out.below hb4)
                              have HB4 := Lib.hid (HBx.out.trans (hb4.mono HBx.out.size))
                              have hbk4 : W4.heap[cb]? = some (.cells #[.int .i64 4, .string ⟨x.toArray⟩, .int .i64 0, .slice none 0 0] 35) := (hb4.block cb hcl).trans hbk
                              have hcl4 : cb < W4.heap.size := by have := hb4.size; omega
                              clear HAcx HBx hbk hb4 hcl
                              have HAcx := HAc4; have HBx := HB4; have hbk := hbk4; have hcl := hcl4
                              clear HAc4 HB4 hbk4 hcl4
                              have y0 : W4.cell? ⟨cb, 0, none⟩ = some (.int .i64 4) := block_cell hbk rfl
                              have y1 : W4.cell? ⟨cb, 1, none⟩ = some (.string ⟨x.toArray⟩) := block_cell hbk rfl
                              have y2 : W4.cell? ⟨cb, 2, none⟩ = some (.int .i64 0) := block_cell hbk rfl
                              have y3 : W4.cell? ⟨cb, 3, none⟩ = some (.slice none 0 0) := block_cell hbk rfl
                              have fz2 : W4.frozen? ⟨cb, 2, none⟩ = false := by simp [World.frozen?, hbk]
                              have hbk' := Joins.block_setCell (i := 2) hbk (.int .i64 ((S[z + 9 + 8].toNat : Int) - 48))
                              have HAcx' := Lib.hid (HAcx.out.set (i := 2) (.int .i64 ((S[z + 9 + 8].toNat : Int) - 48)) (.inr (Nat.le_refl _)))
                              have HBx' := Lib.hid (below_grown HBx.out (keeps_set W4 cb 2 (.int .i64 ((S[z + 9 + 8].toNat : Int) - 48))) (fun k hk => by cases hk; exact hwcb) HBx.out.size)
                              have hcl' : cb < (W4.setCell ⟨cb, 2, none⟩ (.int .i64 ((S[z + 9 + 8].toNat : Int) - 48))).heap.size := by rw [size_setCell]; exact hcl
                              go_wp2_with fail
                              clear y0 y1 y2 y3 fz2 hbk HAcx HBx hcl
                              generalize W4.setCell ⟨cb, 2, none⟩ (.int .i64 ((S[z + 9 + 8].toNat : Int) - 48)) = W3 at *
                              have hbk : W3.heap[cb]? = some (.cells #[.int .i64 4, .string ⟨x.toArray⟩, .int .i64 ((S[z + 9 + 8].toNat : Int) - 48), .slice none 0 0] 35) := hbk'
                              have HAcx := HAcx'; have HBx := HBx'
                              have hcl : cb < W3.heap.size := by omega
                              clear hbk' HAcx' HBx'
                              have HCas := Lib.hid (show Calls Tryz.prog 57 #[.string S, .int .i64 ((z : Int) + 9 + 9), .bool true, .int .i64 deep] W3 (CasesAtOut S (z + 9 + 9) deep true W3) from
                                rcas_any S n IH.out hs (z + 9 + 9) deep true W3 (by omega) (by omega) hd6 (by omega))
                              refine HCas.out.mono ?_
                              rintro e W4 ⟨h, hb4⟩
                              have hbk4 : W4.heap[cb]? = some (.cells #[.int .i64 4, .string ⟨x.toArray⟩, .int .i64 ((S[z + 9 + 8].toNat : Int) - 48), .slice none 0 0] 35) := (hb4.block cb (by omega)).trans hbk
                              have HAc4 := Lib.hid (HAcx.out.below hb4)
                              have HB4 := Lib.hid (HBx.out.trans (hb4.mono HBx.out.size))
                              have hs4 : W3.heap.size ≤ W4.heap.size := hb4.size
                              have hcl4 : cb < W4.heap.size := by omega
                              clear HCas hb4 hbk HAcx HBx hcl
                              have hbk := hbk4; have HAcx := HAc4; have HBx := HB4; have hcl := hcl4
                              clear hbk4 HAc4 HB4 hcl4
                              rcases h with ⟨v, k2, cs, rfl, hk1, hk2, hv, hnc, hwc, hC⟩ | ⟨rfl, hC⟩
                              · obtain ⟨va, vn, vc, rfl⟩ := hv.form
                                have HV := Lib.hid hv; have HCs := Lib.hid hnc; have HWc := Lib.hid hwc
                                have HArg := Lib.hid (HArgs.out.trans (by rw [hC]))
                                clear hv hnc hwc hC
                                have y0 : W4.cell? ⟨cb, 0, none⟩ = some (.int .i64 4) := block_cell hbk rfl
                                have y1 : W4.cell? ⟨cb, 1, none⟩ = some (.string ⟨x.toArray⟩) := block_cell hbk rfl
                                have y2 : W4.cell? ⟨cb, 2, none⟩ = some (.int .i64 ((S[z + 9 + 8].toNat : Int) - 48)) := block_cell hbk rfl
                                have y3 : W4.cell? ⟨cb, 3, none⟩ = some (.slice none 0 0) := block_cell hbk rfl
                                have fz3 : W4.frozen? ⟨cb, 3, none⟩ = false := by simp [World.frozen?, hbk]
                                have hkeep : ∀ b, cb < b → (W4.setCell ⟨cb, 3, none⟩ (.slice va vn vc)).heap[b]? = W4.heap[b]? := fun b hb => heap_setCell_other W4 ⟨cb, 3, none⟩ b _ (by show b ≠ cb; omega)
                                have hbk' := Joins.block_setCell (i := 3) hbk (.slice va vn vc)
                                have HAcx' := Lib.hid (HAcx.out.set (i := 3) (.slice va vn vc) (.inr (Nat.le_refl _)))
                                have HBx' := Lib.hid (below_grown HBx.out (keeps_set W4 cb 3 (.slice va vn vc)) (fun k hk => by cases hk; exact hwcb) HBx.out.size)
                                have hcl' : cb < (W4.setCell ⟨cb, 3, none⟩ (.slice va vn vc)).heap.size := by rw [size_setCell]; exact hcl
                                go_upto_if 159 with fail
                                clear y0 y1 y2 y3 fz3 hbk HAcx HBx hcl
                                generalize W4.setCell ⟨cb, 3, none⟩ (.slice va vn vc) = W5 at *
                                have hbk : W5.heap[cb]? = some (.cells #[.int .i64 4, .string ⟨x.toArray⟩, .int .i64 ((S[z + 9 + 8].toNat : Int) - 48), .slice va vn vc] 35) := hbk'
                                have HAcx := HAcx'; have HBx := HBx'
                                have hcl : cb < W5.heap.size := by omega
                                clear hbk' HAcx' HBx'
                                have HV' := Lib.hid (SVP.keep (W' := W5) (fun b hb hp => hkeep b (by omega)) HV.out)
                                have y0 : W5.cell? ⟨cb, 0, none⟩ = some (.int .i64 4) := block_cell hbk rfl
                                have y1 : W5.cell? ⟨cb, 1, none⟩ = some (.string ⟨x.toArray⟩) := block_cell hbk rfl
                                have y2 : W5.cell? ⟨cb, 2, none⟩ = some (.int .i64 ((S[z + 9 + 8].toNat : Int) - 48)) := block_cell hbk rfl
                                have y3 : W5.cell? ⟨cb, 3, none⟩ = some (.slice va vn vc) := block_cell hbk rfl
                                have HO := Lib.hid HAcx.out.2.2.2.2.1
                                have hsw : w.heap.size ≤ W5.heap.size := HBx.out.size
                                have hlen : len acc1 ≤ 1000000 := by omega
                                have HNx := Lib.hid (HStep.out _ _ _ _ _ HArg.out (.inl rfl))
                                go_wp2_with (at_builtin; go_loud (refine wpList_append_lies _ rfl _ _ 22 rfl w.heap.size 35 i0 (.agg #[.int .i64 0, .string ⟨#[]⟩, .int .i64 0, .slice none 0 0]) 4 56 Tryz.underlying22 hi hz0 hz1 hz2 rfl (by decide) _ (len (acc1)) xs1 rfl (HO.out.alloc _) ⟨W5.heap.size, 0, none⟩ 1 1 [.int .i64 4, .string ⟨x.toArray⟩, .int .i64 ((S[z + 9 + 8].toNat : Int) - 48), .slice va vn vc] rfl rfl (World.news_of_block (Go.heap_alloc_new _ _)) (fun x hx => by simp at hx; rcases hx with rfl | rfl | rfl | rfl <;> rfl) (by decide) (by unfold maxLen; omega) (by omega) (by simp; omega) _ rfl ?_; intro g cap w8 hown8 hgrow8 hat8 _))
                                all_goals
                                  have HAc8 := HAcx.out.more (el := .node 4 x ((S[z + 9 + 8].toNat : Int) - 48) cs .nil) (M := W3.heap.size) (by omega) HV'.out (by rw [app_len]; rfl) (fun _ _ h1 h2 => RdX.node h1 acc1 xs1 h2) hown8 hgrow8 hat8
                                  have hB8 := below_grown (HBx.out.alloc HBx.out.size _) hgrow8 (fun k hk => (HO.out.lt k hk).1) (by simp; omega)
                                  go_roundw
                                  case rel =>
                                    refine ⟨k2, _, _, by go_num, by omega, by omega, ?_, ⟨app_isN _ _ HI1.out.1 (by simp [isN, HCs.out]), ?_, HNx.out⟩, HAc8, hB8⟩
                                    · rw [app_len]; simp only [len]; omega
                                    · rw [wt_node]; have h1 := HI1.out.2; have h2 := HWc.out; omega
                                  case measure => simp [RowKit.intOf]; omega
                              · have HArg := Lib.hid (HArgs.out.trans (by rw [hC]; first | done | rfl))
                                clear hC
                                have y0 : W4.cell? ⟨cb, 0, none⟩ = some (.int .i64 4) := block_cell hbk rfl
                                have y1 : W4.cell? ⟨cb, 1, none⟩ = some (.string ⟨x.toArray⟩) := block_cell hbk rfl
                                have y2 : W4.cell? ⟨cb, 2, none⟩ = some (.int .i64 ((S[z + 9 + 8].toNat : Int) - 48)) := block_cell hbk rfl
                                have y3 : W4.cell? ⟨cb, 3, none⟩ = some (.slice none 0 0) := block_cell hbk rfl
                                have fz3 : W4.frozen? ⟨cb, 3, none⟩ = false := by simp [World.frozen?, hbk]
                                have hbk' := Joins.block_setCell (i := 3) hbk (.slice none 0 0)
                                have HAcx' := Lib.hid (HAcx.out.set (i := 3) (.slice none 0 0) (.inr (Nat.le_refl _)))
                                have HBx' := Lib.hid (below_grown HBx.out (keeps_set W4 cb 3 (.slice none 0 0)) (fun k hk => by cases hk; exact hwcb) HBx.out.size)
                                have hcl' : cb < (W4.setCell ⟨cb, 3, none⟩ (.slice none 0 0)).heap.size := by rw [size_setCell]; exact hcl
                                go_upto_if 159 with fail
                                clear y0 y1 y2 y3 fz3 hbk HAcx HBx hcl
                                generalize W4.setCell ⟨cb, 3, none⟩ (.slice none 0 0) = W5 at *
                                have hbk : W5.heap[cb]? = some (.cells #[.int .i64 4, .string ⟨x.toArray⟩, .int .i64 ((S[z + 9 + 8].toNat : Int) - 48), .slice none 0 0] 35) := hbk'
                                have HAcx := HAcx'; have HBx := HBx'
                                have hcl : cb < W5.heap.size := by omega
                                clear hbk' HAcx' HBx'
                                have HNx := Lib.hid (HBad.out HArg.out)
                                go_wp2_with fail
                                go_ret2
                                exact ⟨.inr ⟨rfl, fun _ => HNx.out⟩, HBx.out⟩
                          · have HArg := Lib.hid (arg_offbad (deep := deep) (mark := mark) HUp.out HZ125.out HP1.out HP2.out HP3.out HP4.out (fun d r' he => by
                              rw [List.drop_eq_nil_of_le (by rw [Hl.out]; omega)] at he; cases he))
                            have HNx := Lib.hid (HBad.out HArg.out)
                            go_wp2_with fail
                            go_ret2
                            exact ⟨.inr ⟨rfl, fun _ => HNx.out⟩, HBx.out⟩
                · by_cases hz125 : S[z] = 125
                  · have n44 : ((S[z].toNat : Int) != 44) = true := by rw [hz125]; rfl
                    have n125 : ((S[z].toNat : Int) != 125) = false := by rw [hz125]; rfl
                    have hzc := hz125
                    clear hz125 hz44
                    have hxx := ext_part S (j + 1) z
                    obtain ⟨x, hxe⟩ : ∃ x, x = (S.data.toList.drop (j + 1)).take (z - (j + 1)) := ⟨_, rfl⟩
                    have hxl : x.length ≤ z - (j + 1) := by rw [hxe, List.length_take]; omega
                    rw [← hxe] at hxx
                    obtain ⟨cb, hcb⟩ : ∃ cb, cb = W1.heap.size := ⟨_, rfl⟩
                    have hbk := Go.heap_alloc_new W1 (.cells #[.int .i64 2, .string ⟨x.toArray⟩, .int .i64 0, .slice none 0 0] 35)
                    have HAcx := Lib.hid (HAc1.out.below ((Below.refl W1.heap.size W1).alloc (Nat.le_refl _) (.cells #[.int .i64 2, .string ⟨x.toArray⟩, .int .i64 0, .slice none 0 0] 35)))
                    have HBx := Lib.hid (HB1.out.alloc HB1.out.size (.cells #[.int .i64 2, .string ⟨x.toArray⟩, .int .i64 0, .slice none 0 0] 35))
                    have hsz : (W1.alloc (.cells #[.int .i64 2, .string ⟨x.toArray⟩, .int .i64 0, .slice none 0 0] 35)).heap.size = cb + 1 := by rw [hcb]; simp
                    have hwcb : w.heap.size ≤ cb := by have := HB1.out.size; omega
                    have hcb0 : 0 < cb := Nat.lt_of_lt_of_le H0.out hwcb
                    have hu := Lib.hid hxe
                    clear hxe
                    go_upto_region 20 with fail
                    rw [← hcb] at hbk HAcx ⊢
                    clear HAc1 HB1 hcb
                    generalize W1.alloc (.cells #[.int .i64 2, .string ⟨x.toArray⟩, .int .i64 0, .slice none 0 0] 35) = W2 at *
                    have hbk : W2.heap[cb]? = some (.cells #[.int .i64 2, .string ⟨x.toArray⟩, .int .i64 0, .slice none 0 0] 35) := hbk
                    have hcl : cb < W2.heap.size := by omega
                    clear hsz
                    have hup : upto (fun c => c == 44 || c == 125) (S.data.toList.drop (j + 1)) = some (x, S.data.toList.drop z) := by
                      have h1 := upto_take (p := fun c => c == 44 || c == 125) (l := S.data.toList.drop (j + 1)) (n := z - (j + 1)) (c := S[z]) HZ.out (by rw [List.getElem?_drop, show j + 1 + (z - (j + 1)) = z by omega]; exact Lib.data_getElem? S z hz) (by rw [hzc]; rfl)
                      rw [List.drop_drop, show j + 1 + (z - (j + 1)) = z by omega, ← hu.out] at h1
                      exact h1
                    have HUp := Lib.hid hup
                    clear hup
                    have hdz : S.data.toList.drop z = S[z] :: S.data.toList.drop (z + 1) := Lx.drop_cons (Lib.data_getElem? S z hz)
                    rw [hzc] at hdz
                    have HS0 := Lib.hid (starts_at S z ⟨#[125]⟩ true (by rw [hdz]; rfl))
                    have HArg := Lib.hid (arg_show (deep := deep) (mark := mark) HUp.out (r3 := S.data.toList.drop (z + 1)) (by rw [hdz]; exact pre_one _ _))
                    clear hdz
                    go_wp2_with fail
                    refine (HS0.out _).mono ?_
                    rintro e W2' ⟨rfl, rfl⟩
                    have y0 : W2'.cell? ⟨cb, 0, none⟩ = some (.int .i64 2) := block_cell hbk rfl
                    have y1 : W2'.cell? ⟨cb, 1, none⟩ = some (.string ⟨x.toArray⟩) := block_cell hbk rfl
                    have y2 : W2'.cell? ⟨cb, 2, none⟩ = some (.int .i64 0) := block_cell hbk rfl
                    have y3 : W2'.cell? ⟨cb, 3, none⟩ = some (.slice none 0 0) := block_cell hbk rfl
                    have HO := Lib.hid HAcx.out.2.2.2.2.1
                    have hsw : w.heap.size ≤ W2'.heap.size := HBx.out.size
                    have hlen : len acc1 ≤ 1000000 := by omega
                    have HNx := Lib.hid (HStep.out _ _ _ _ _ HArg.out (.inr rfl))
                    go_wp2_with (at_builtin; go_loud (refine wpList_append_lies _ rfl _ _ 22 rfl w.heap.size 35 i0 (.agg #[.int .i64 0, .string ⟨#[]⟩, .int .i64 0, .slice none 0 0]) 4 56 Tryz.underlying22 hi hz0 hz1 hz2 rfl (by decide) _ (len (acc1)) xs1 rfl (HO.out.alloc _) ⟨W2'.heap.size, 0, none⟩ 1 1 [.int .i64 2, .string ⟨x.toArray⟩, .int .i64 0, .slice none 0 0] rfl rfl (World.news_of_block (Go.heap_alloc_new _ _)) (fun x hx => by simp at hx; rcases hx with rfl | rfl | rfl | rfl <;> rfl) (by decide) (by unfold maxLen; omega) (by omega) (by simp; omega) _ rfl ?_; intro g cap w8 hown8 hgrow8 hat8 _))
                    all_goals
                      have HAc8 := HAcx.out.more (el := .node 2 x 0 .nil .nil) (M := W2'.heap.size) (by omega) (SVP.nil _ _) (by rw [app_len]; rfl) (fun _ _ h1 h2 => RdX.node h1 acc1 xs1 h2) hown8 hgrow8 hat8
                      have hB8 := below_grown (HBx.out.alloc HBx.out.size _) hgrow8 (fun k hk => (HO.out.lt k hk).1) (by simp; omega)
                      go_roundw
                      case rel =>
                        refine ⟨z + 1, _, _, by go_num, by omega, by omega, ?_, ⟨app_isN _ _ HI1.out.1 (by simp [isN, isN.isC]), ?_, HNx.out⟩, HAc8, hB8⟩
                        · rw [app_len]; simp only [len]; omega
                        · rw [wt_node]; have h1 := HI1.out.2; simp only [wt]; omega
                      case measure => simp [RowKit.intOf]; omega
                  · have n44 : ((S[z].toNat : Int) != 44) = true := by
                      rw [bne_iff_ne]; intro e; exact hz44 (UInt8.toNat_inj.1 (by simpa using Int.ofNat.inj e))
                    have n125 : ((S[z].toNat : Int) != 125) = true := by
                      rw [bne_iff_ne]; intro e; exact hz125 (UInt8.toNat_inj.1 (by simpa using Int.ofNat.inj e))
                    have HZ2 : Hid (∀ d ∈ (S.data.toList.drop (j + 1)).take (z + 1 - (j + 1)), (d == 44 || d == 125) = false) := by
                      intro d hd
                      rw [show z + 1 - (j + 1) = z - (j + 1) + 1 by omega, List.take_add_one, List.getElem?_drop, show j + 1 + (z - (j + 1)) = z by omega, Lib.data_getElem? S z hz] at hd
                      rcases List.mem_append.1 hd with hd | hd
                      · exact HZ.out d hd
                      · have : d = S[z] := by simpa using hd
                        subst this
                        rw [beq_false_of_ne hz44, beq_false_of_ne hz125]; rfl
                    clear hz44 hz125
                    go_wp2_with fail
                    go_round
                    case rel => exact ⟨z + 1, by go_num, by omega, by omega, HZ2⟩
                    case measure => simp [RowKit.intOf]; omega
              · have hzs : S.size ≤ z := by omega
                have hxx := ext_part S (j + 1) z
                obtain ⟨x, hxe⟩ : ∃ x, x = (S.data.toList.drop (j + 1)).take (z - (j + 1)) := ⟨_, rfl⟩
                have hxl : x.length ≤ z - (j + 1) := by rw [hxe, List.length_take]; omega
                rw [← hxe] at hxx
                obtain ⟨cb, hcb⟩ : ∃ cb, cb = W1.heap.size := ⟨_, rfl⟩
                have hbk := Go.heap_alloc_new W1 (.cells #[.int .i64 2, .string ⟨x.toArray⟩, .int .i64 0, .slice none 0 0] 35)
                have HAcx := Lib.hid (HAc1.out.below ((Below.refl W1.heap.size W1).alloc (Nat.le_refl _) (.cells #[.int .i64 2, .string ⟨x.toArray⟩, .int .i64 0, .slice none 0 0] 35)))
                have HBx := Lib.hid (HB1.out.alloc HB1.out.size (.cells #[.int .i64 2, .string ⟨x.toArray⟩, .int .i64 0, .slice none 0 0] 35))
                have hsz : (W1.alloc (.cells #[.int .i64 2, .string ⟨x.toArray⟩, .int .i64 0, .slice none 0 0] 35)).heap.size = cb + 1 := by rw [hcb]; simp
                have hwcb : w.heap.size ≤ cb := by have := HB1.out.size; omega
                have hcb0 : 0 < cb := Nat.lt_of_lt_of_le H0.out hwcb
                have hu := Lib.hid hxe
                clear hxe
                go_upto_region 20 with fail
                rw [← hcb] at hbk HAcx ⊢
                clear HAc1 HB1 hcb
                generalize W1.alloc (.cells #[.int .i64 2, .string ⟨x.toArray⟩, .int .i64 0, .slice none 0 0] 35) = W2 at *
                have hbk : W2.heap[cb]? = some (.cells #[.int .i64 2, .string ⟨x.toArray⟩, .int .i64 0, .slice none 0 0] 35) := hbk
                have hcl : cb < W2.heap.size := by omega
                clear hsz
                have hze : S.data.toList.drop z = [] := List.drop_eq_nil_of_le (by rw [Hl.out]; omega)
                have hup : upto (fun c => c == 44 || c == 125) (S.data.toList.drop (j + 1)) = none := upto_all (fun c hc => HZ.out c (by
                  rw [List.take_of_length_le (by rw [List.length_drop, Hl.out]; omega)]; exact hc))
                have HNx := Lib.hid (HBad.out (arg_open hup))
                clear hup
                have HS0 := Lib.hid (starts_at S z ⟨#[125]⟩ false (by rw [hze]; rfl))
                have HS1 := Lib.hid (starts_at S z ⟨#[44, 32, 110, 117, 109, 98, 101, 114, 125]⟩ false (by rw [hze]; rfl))
                have HS2 := Lib.hid (starts_at S z ⟨#[44, 32, 115, 101, 108, 101, 99, 116, 44]⟩ false (by rw [hze]; rfl))
                have HS3 := Lib.hid (starts_at S z ⟨#[44, 32, 112, 108, 117, 114, 97, 108, 44]⟩ false (by rw [hze]; rfl))
                clear hze
                go_wp2_with fail
                refine (HS0.out _).mono ?_
                rintro e W2' ⟨rfl, rfl⟩
                go_wp2_with fail
                refine (HS1.out _).mono ?_
                rintro e W2' ⟨rfl, rfl⟩
                go_wp2_with fail
                refine (HS2.out _).mono ?_
                rintro e W2' ⟨rfl, rfl⟩
                go_wp2_with fail
                refine (HS3.out _).mono ?_
                rintro e W2' ⟨rfl, rfl⟩
                go_wp2_with fail
                go_ret2
                exact ⟨.inr ⟨rfl, fun _ => HNx.out⟩, HBx.out⟩
      · have he : t.isEmpty = false := by
          cases t with
          | nil => exact absurd rfl ht
          | cons _ _ => rfl
        have hk0 : 1 ≤ k := by have := List.length_pos_iff.2 ht; omega
        have ha1 : acc1 = app acc (.node 1 t 0 .nil .nil) := by rw [hacc1]; unfold words; rw [he]; rfl
        have HO := Lib.hid HAc.out.2.2.2.2.1
        have hsw : w.heap.size ≤ wr.heap.size := HB.out.size
        have hlen : len acc ≤ 1000000 := by omega
        have HA1 := Lib.hid ha1
        clear hacc1 ha1
        go_wp2_with fail
        refine (HBa.out _).mono ?_
        rintro e W1 ⟨rfl, rfl⟩
        go_upto_region 10 with (at_builtin; go_loud (refine wpList_append_lies _ rfl _ _ 22 rfl w.heap.size 35 i0 (.agg #[.int .i64 0, .string ⟨#[]⟩, .int .i64 0, .slice none 0 0]) 4 56 Tryz.underlying22 hi hz0 hz1 hz2 rfl (by decide) _ (len (acc)) xs rfl (HO.out.alloc _) ⟨W1.heap.size, 0, none⟩ 1 1 [.int .i64 1, .string ⟨t.toArray⟩, .int .i64 0, .slice none 0 0] rfl rfl (World.news_of_block (Go.heap_alloc_new _ _)) (fun x hx => by simp at hx; rcases hx with rfl | rfl | rfl | rfl <;> rfl) (by decide) (by unfold maxLen; omega) (by omega) (by simp; omega) _ rfl ?_; intro g cap w8 hown8 hgrow8 hat8 _))
        all_goals
          have HAc8 := HAc.out.more (el := .node 1 t 0 .nil .nil) (M := W1.heap.size) (Nat.le_refl _) (SVP.nil _ _) (by rw [app_len]; rfl) (fun _ _ h1 h2 => RdX.node h1 acc xs h2) hown8 hgrow8 hat8
          have hB8 := below_grown (HB.out.alloc HB.out.size _) hgrow8 (fun k hk => (HO.out.lt k hk).1) (by simp; omega)
          have hla1 : len acc1 ≤ j := by rw [HA1.out, app_len]; have := HJ.out; simp only [len]; omega
          have HI1 : Hid (isN acc1 = true ∧ wt acc1 + 6 * (S.size - j) ≤ 6 * (S.size - at') + 1) := by
            rw [HA1.out]
            exact ⟨app_isN _ _ HE.out.1 rfl, by rw [wt_node]; have := HE.out.2.1; have := HJ.out; simp only [wt]; omega⟩
          rw [← HA1.out] at HAc8
          have HAc1 := Lib.hid HAc8
          have HB1 := Lib.hid hB8
          obtain ⟨xs1, hxs1⟩ : ∃ xs1, xs1 = xs ++ [.int .i64 1, .string ⟨t.toArray⟩, .int .i64 0, .slice none 0 0] := ⟨_, rfl⟩
          rw [← hxs1] at HAc1
          clear HBa HE HAc HB HAc8 hB8 HO hsw hlen hown8 hgrow8 hat8 HA1 hxs1 hla
          generalize w8 = W1 at *
          rw [HIJ.out]
          rcases HEn with hend | ⟨c, hc, hsg⟩
          · have hje : ((j : Int) == (S.size : Int)) = true := by rw [beq_iff_eq]; omega
            have hjge : S.size ≤ j := by omega
            clear hend
            have hdn : S.data.toList.drop j = [] := List.drop_eq_nil_of_le (by rw [Hl.out]; omega)
            have HNx := Lib.hid (HStop.out (by rw [hdn]; exact pre_nil) (by rw [hdn]; exact pre_nil))
            clear hdn
            go_wp2_with fail
            go_ret2
            exact ⟨.inl ⟨_, j, acc1, rfl, hd6, by omega, by omega, .inl (by omega), HAc1.out.done, HI1.out.1, HI1.out.2, HNx.out⟩, HB1.out⟩
          · have hjl : j < S.size := by
              have := (List.getElem?_eq_some_iff.1 hc).1
              rw [Hl.out] at this; exact this
            have hje : ((j : Int) == (S.size : Int)) = false := beq_eq_false_iff_ne.2 (by omega)
            have hjc : S[j] = c := by
              have := Lib.data_getElem? S j hjl
              rw [hc] at this; exact (Option.some.inj this).symm
            have b125 := byte_eq S[j] 125; have b35 := byte_eq S[j] 35
            have hdj : S.data.toList.drop j = c :: S.data.toList.drop (j + 1) := Lx.drop_cons hc
            have hcs : c = 125 ∨ (c = 35 ∧ mark = true) ∨ c = 123 := by
              unfold Lx.sg at hsg
              simp only [Bool.or_eq_true, Bool.and_eq_true, beq_iff_eq] at hsg
              rcases hsg with (h | h) | ⟨h1, h2⟩
              · exact .inr (.inr h)
              · exact .inl h
              · exact .inr (.inl ⟨h2, h1⟩)
            rcases hcs with rfl | ⟨rfl, hmk⟩ | rfl
            · rw [hjc] at b125 b35
              have c125 : ((S[j].toNat : Int) == 125) = true := by rw [hjc]; rfl
              have HNx := Lib.hid (HStop.out (by rw [hdj]; exact pre_ne (by decide)) (by rw [hdj]; exact pre_ne (by decide)))
              have HC := Lib.hid hc
              clear b125 b35 hdj hsg hjc hc
              go_wp2_with fail
              go_ret2
              exact ⟨.inl ⟨_, j, acc1, rfl, hd6, by omega, by omega, .inr HC.out, HAc1.out.done, HI1.out.1, HI1.out.2, HNx.out⟩, HB1.out⟩
            · have c125 : ((S[j].toNat : Int) == 125) = false := by rw [hjc]; rfl
              have c35 : ((S[j].toNat : Int) == 35) = true := by rw [hjc]; rfl
              have HSh := Lib.hid (HSharp.out hmk (by rw [hdj]; exact pre_ne (by decide)) (by rw [hdj]; exact pre_one _ _))
              have HAcx := HAc1; have HBx := HB1
              clear b125 b35 hdj hsg hjc hc hmk
              have HO := Lib.hid HAcx.out.2.2.2.2.1
              have hsw : w.heap.size ≤ W1.heap.size := HBx.out.size
              have hlen : len acc1 ≤ 1000000 := by omega
              have HNx := Lib.hid (HSh.out)
              go_wp2_with (at_builtin; go_loud (refine wpList_append_lies _ rfl _ _ 22 rfl w.heap.size 35 i0 (.agg #[.int .i64 0, .string ⟨#[]⟩, .int .i64 0, .slice none 0 0]) 4 56 Tryz.underlying22 hi hz0 hz1 hz2 rfl (by decide) _ (len (acc1)) xs1 rfl (HO.out.alloc _) ⟨W1.heap.size, 0, none⟩ 1 1 [.int .i64 6, .string ⟨#[]⟩, .int .i64 0, .slice none 0 0] rfl rfl (World.news_of_block (Go.heap_alloc_new _ _)) (fun x hx => by simp at hx; rcases hx with rfl | rfl | rfl | rfl <;> rfl) (by decide) (by unfold maxLen; omega) (by omega) (by simp; omega) _ rfl ?_; intro g cap w8 hown8 hgrow8 hat8 _))
              all_goals
                have HAc8 := HAcx.out.more (el := .node 6 [] 0 .nil .nil) (M := W1.heap.size) (by omega) (SVP.nil _ _) (by rw [app_len]; rfl) (fun _ _ h1 h2 => RdX.node h1 acc1 xs1 h2) hown8 hgrow8 hat8
                have hB8 := below_grown (HBx.out.alloc HBx.out.size _) hgrow8 (fun k hk => (HO.out.lt k hk).1) (by simp; omega)
                go_roundw
                case rel =>
                  refine ⟨j + 1, _, _, by go_num, by omega, by omega, ?_, ⟨app_isN _ _ HI1.out.1 (by simp [isN, isN.isC]), ?_, HNx.out⟩, HAc8, hB8⟩
                  · rw [app_len]; simp only [len]; omega
                  · rw [wt_node]; have h1 := HI1.out.2; simp only [wt, List.length_nil]; omega
                case measure => simp [RowKit.intOf]; omega
            · have c125 : ((S[j].toNat : Int) == 125) = false := by rw [hjc]; rfl
              have c35 : ((S[j].toNat : Int) == 35) = false := by rw [hjc]; rfl
              have hp123 : pre [123] (S.data.toList.drop j) = some (S.data.toList.drop (j + 1)) := by rw [hdj]; exact pre_one _ _
              have HStep := Lib.hid (HStep0.out hp123); have HBad := Lib.hid (HBad0.out hp123)
              clear b125 b35 hdj hsg hjc hc hp123 HStep0 HBad0 HStop HSharp
              go_wp2_with fail
              go_loop [13] (fun p => ∃ z : Nat, p = .int .i64 z ∧ j + 1 ≤ z ∧ z ≤ S.size ∧ Hid (∀ d ∈ (S.data.toList.drop (j + 1)).take (z - (j + 1)), (d == 44 || d == 125) = false)) (fun p => S.size - (RowKit.intOf p).toNat)
              case atStart => exact ⟨j + 1, by go_num, Nat.le_refl _, hjl, by simp [Hid]⟩
              case round =>
                obtain ⟨z, rfl, hz1', hz2', HZ⟩ := hrel
                have hz9 : z ≤ 1000000 := by omega
                by_cases hz : z < S.size
                · by_cases hz44 : S[z] = 44
                  · have n44 : ((S[z].toNat : Int) != 44) = false := by rw [hz44]; rfl
                    have hzc := hz44
                    clear hz44
                    have hzi : (z : Int) < (S.size : Int) := by omega
                    have hxx := ext_part S (j + 1) z
                    obtain ⟨x, hxe⟩ : ∃ x, x = (S.data.toList.drop (j + 1)).take (z - (j + 1)) := ⟨_, rfl⟩
                    have hxl : x.length ≤ z - (j + 1) := by rw [hxe, List.length_take]; omega
                    rw [← hxe] at hxx
                    obtain ⟨cb, hcb⟩ : ∃ cb, cb = W1.heap.size := ⟨_, rfl⟩
                    have hbk := Go.heap_alloc_new W1 (.cells #[.int .i64 2, .string ⟨x.toArray⟩, .int .i64 0, .slice none 0 0] 35)
                    have HAcx := Lib.hid (HAc1.out.below ((Below.refl W1.heap.size W1).alloc (Nat.le_refl _) (.cells #[.int .i64 2, .string ⟨x.toArray⟩, .int .i64 0, .slice none 0 0] 35)))
                    have HBx := Lib.hid (HB1.out.alloc HB1.out.size (.cells #[.int .i64 2, .string ⟨x.toArray⟩, .int .i64 0, .slice none 0 0] 35))
                    have hsz : (W1.alloc (.cells #[.int .i64 2, .string ⟨x.toArray⟩, .int .i64 0, .slice none 0 0] 35)).heap.size = cb + 1 := by rw [hcb]; simp
                    have hwcb : w.heap.size ≤ cb := by have := HB1.out.size; omega
                    have hcb0 : 0 < cb := Nat.lt_of_lt_of_le H0.out hwcb
                    have hu := Lib.hid hxe
                    clear hxe
                    go_upto_region 20 with fail
                    rw [← hcb] at hbk HAcx ⊢
                    clear HAc1 HB1 hcb
                    generalize W1.alloc (.cells #[.int .i64 2, .string ⟨x.toArray⟩, .int .i64 0, .slice none 0 0] 35) = W2 at *
                    have hbk : W2.heap[cb]? = some (.cells #[.int .i64 2, .string ⟨x.toArray⟩, .int .i64 0, .slice none 0 0] 35) := hbk
                    have hcl : cb < W2.heap.size := by omega
                    clear hsz
                    have hup : upto (fun c => c == 44 || c == 125) (S.data.toList.drop (j + 1)) = some (x, S.data.toList.drop z) := by
                      have h1 := upto_take (p := fun c => c == 44 || c == 125) (l := S.data.toList.drop (j + 1)) (n := z - (j + 1)) (c := S[z]) HZ.out (by rw [List.getElem?_drop, show j + 1 + (z - (j + 1)) = z by omega]; exact Lib.data_getElem? S z hz) (by rw [hzc]; rfl)
                      rw [List.drop_drop, show j + 1 + (z - (j + 1)) = z by omega, ← hu.out] at h1
                      exact h1
                    have HUp := Lib.hid hup
                    clear hup
                    have hdz : S.data.toList.drop z = S[z] :: S.data.toList.drop (z + 1) := Lx.drop_cons (Lib.data_getElem? S z hz)
                    rw [hzc] at hdz
                    have hz125 : pre [125] (S.data.toList.drop z) = none := by rw [hdz]; exact pre_ne (by decide)
                    have HS0 := Lib.hid (starts_at S z ⟨#[125]⟩ false (by rw [hdz]; rfl))
                    have HZ125 := Lib.hid hz125
                    clear hdz hz125
                    go_wp2_with fail
                    refine (HS0.out _).mono ?_
                    rintro e W2' ⟨rfl, rfl⟩
                    cases hp1 : Lib.hasPrefix (S.data.toList.drop z) (⟨#[44, 32, 110, 117, 109, 98, 101, 114, 125]⟩ : ByteArray).data.toList with
                    | true =>
                      have HS1 := Lib.hid (starts_at S z ⟨#[44, 32, 110, 117, 109, 98, 101, 114, 125]⟩ true hp1)
                      have hroom := pre_room hp1 (by decide)
                      rw [Hl.out] at hroom
                      have hroom : z + 9 ≤ S.size := hroom
                      have HArg := Lib.hid (arg_number (deep := deep) (mark := mark) HUp.out HZ125.out (pre_drop hp1))
                      clear hp1
                      go_wp2_with fail
                      refine (HS1.out _).mono ?_
                      rintro e W2 ⟨rfl, rfl⟩
                      have y0 : W2.cell? ⟨cb, 0, none⟩ = some (.int .i64 2) := block_cell hbk rfl
                      have y1 : W2.cell? ⟨cb, 1, none⟩ = some (.string ⟨x.toArray⟩) := block_cell hbk rfl
                      have y2 : W2.cell? ⟨cb, 2, none⟩ = some (.int .i64 0) := block_cell hbk rfl
                      have y3 : W2.cell? ⟨cb, 3, none⟩ = some (.slice none 0 0) := block_cell hbk rfl
                      have fz0 : W2.frozen? ⟨cb, 0, none⟩ = false := by simp [World.frozen?, hbk]
                      have hbk' := Joins.block_setCell (i := 0) hbk (.int .i64 3)
                      have HAcx' := Lib.hid (HAcx.out.set (i := 0) (.int .i64 3) (.inr (Nat.le_refl _)))
                      have HBx' := Lib.hid (below_grown HBx.out (keeps_set W2 cb 0 (.int .i64 3)) (fun k hk => by cases hk; exact hwcb) HBx.out.size)
                      have hcl' : cb < (W2.setCell ⟨cb, 0, none⟩ (.int .i64 3)).heap.size := by rw [size_setCell]; exact hcl
                      go_upto_if 159 with fail
                      clear y0 y1 y2 y3 fz0 hbk HAcx HBx hcl
                      generalize W2.setCell ⟨cb, 0, none⟩ (.int .i64 3) = W3 at *
                      have hbk : W3.heap[cb]? = some (.cells #[.int .i64 3, .string ⟨x.toArray⟩, .int .i64 0, .slice none 0 0] 35) := hbk'
                      have HAcx := HAcx'; have HBx := HBx'
                      have hcl : cb < W3.heap.size := by omega
                      clear hbk' HAcx' HBx'
                      have y0 : W3.cell? ⟨cb, 0, none⟩ = some (.int .i64 3) := block_cell hbk rfl
                      have y1 : W3.cell? ⟨cb, 1, none⟩ = some (.string ⟨x.toArray⟩) := block_cell hbk rfl
                      have y2 : W3.cell? ⟨cb, 2, none⟩ = some (.int .i64 0) := block_cell hbk rfl
                      have y3 : W3.cell? ⟨cb, 3, none⟩ = some (.slice none 0 0) := block_cell hbk rfl
                      have HO := Lib.hid HAcx.out.2.2.2.2.1
                      have hsw : w.heap.size ≤ W3.heap.size := HBx.out.size
                      have hlen : len acc1 ≤ 1000000 := by omega
                      have HNx := Lib.hid (HStep.out _ _ _ _ _ HArg.out (.inr rfl))
                      go_wp2_with (at_builtin; go_loud (refine wpList_append_lies _ rfl _ _ 22 rfl w.heap.size 35 i0 (.agg #[.int .i64 0, .string ⟨#[]⟩, .int .i64 0, .slice none 0 0]) 4 56 Tryz.underlying22 hi hz0 hz1 hz2 rfl (by decide) _ (len (acc1)) xs1 rfl (HO.out.alloc _) ⟨W3.heap.size, 0, none⟩ 1 1 [.int .i64 3, .string ⟨x.toArray⟩, .int .i64 0, .slice none 0 0] rfl rfl (World.news_of_block (Go.heap_alloc_new _ _)) (fun x hx => by simp at hx; rcases hx with rfl | rfl | rfl | rfl <;> rfl) (by decide) (by unfold maxLen; omega) (by omega) (by simp; omega) _ rfl ?_; intro g cap w8 hown8 hgrow8 hat8 _))
                      all_goals
                        have HAc8 := HAcx.out.more (el := .node 3 x 0 .nil .nil) (M := W3.heap.size) (by omega) (SVP.nil _ _) (by rw [app_len]; rfl) (fun _ _ h1 h2 => RdX.node h1 acc1 xs1 h2) hown8 hgrow8 hat8
                        have hB8 := below_grown (HBx.out.alloc HBx.out.size _) hgrow8 (fun k hk => (HO.out.lt k hk).1) (by simp; omega)
                        go_roundw
                        case rel =>
                          refine ⟨z + 9, _, _, by go_num, by omega, by omega, ?_, ⟨app_isN _ _ HI1.out.1 (by simp [isN, isN.isC]), ?_, HNx.out⟩, HAc8, hB8⟩
                          · rw [app_len]; simp only [len]; omega
                          · rw [wt_node]; have h1 := HI1.out.2; simp only [wt]; omega
                        case measure => simp [RowKit.intOf]; omega
                    | false =>
                      have HS1 := Lib.hid (starts_at S z ⟨#[44, 32, 110, 117, 109, 98, 101, 114, 125]⟩ false hp1)
                      have HP1 := Lib.hid (show pre number (S.data.toList.drop z) = none from pre_not hp1)
                      clear hp1
                      go_wp2_with fail
                      refine (HS1.out _).mono ?_
                      rintro e W2' ⟨rfl, rfl⟩
                      cases hp2 : Lib.hasPrefix (S.data.toList.drop z) (⟨#[44, 32, 115, 101, 108, 101, 99, 116, 44]⟩ : ByteArray).data.toList with
                      | true =>
                        have HS2 := Lib.hid (starts_at S z ⟨#[44, 32, 115, 101, 108, 101, 99, 116, 44]⟩ true hp2)
                        have hroom := pre_room hp2 (by decide)
                        rw [Hl.out] at hroom
                        have hroom : z + 9 ≤ S.size := hroom
                        have HArgs := Lib.hid (show argO deep mark (S.data.toList.drop (j + 1)) = nodeO 5 x 0 (CC deep mark (S.data.toList.drop (z + 9))) from arg_select HUp.out HZ125.out HP1.out (pre_drop hp2))
                        clear hp2
                        go_wp2_with fail
                        refine (HS2.out _).mono ?_
                        rintro e W2 ⟨rfl, rfl⟩
                        have y0 : W2.cell? ⟨cb, 0, none⟩ = some (.int .i64 2) := block_cell hbk rfl
                        have y1 : W2.cell? ⟨cb, 1, none⟩ = some (.string ⟨x.toArray⟩) := block_cell hbk rfl
                        have y2 : W2.cell? ⟨cb, 2, none⟩ = some (.int .i64 0) := block_cell hbk rfl
                        have y3 : W2.cell? ⟨cb, 3, none⟩ = some (.slice none 0 0) := block_cell hbk rfl
                        have fz0 : W2.frozen? ⟨cb, 0, none⟩ = false := by simp [World.frozen?, hbk]
                        have hbk' := Joins.block_setCell (i := 0) hbk (.int .i64 5)
                        have HAcx' := Lib.hid (HAcx.out.set (i := 0) (.int .i64 5) (.inr (Nat.le_refl _)))
                        have HBx' := Lib.hid (below_grown HBx.out (keeps_set W2 cb 0 (.int .i64 5)) (fun k hk => by cases hk; exact hwcb) HBx.out.size)
                        have hcl' : cb < (W2.setCell ⟨cb, 0, none⟩ (.int .i64 5)).heap.size := by rw [size_setCell]; exact hcl
                        go_wp2_with fail
                        clear y0 y1 y2 y3 fz0 hbk HAcx HBx hcl
                        generalize W2.setCell ⟨cb, 0, none⟩ (.int .i64 5) = W3 at *
                        have hbk : W3.heap[cb]? = some (.cells #[.int .i64 5, .string ⟨x.toArray⟩, .int .i64 0, .slice none 0 0] 35) := hbk'
                        have HAcx := HAcx'; have HBx := HBx'
                        have hcl : cb < W3.heap.size := by omega
                        clear hbk' HAcx' HBx'
                        have HCas := Lib.hid (show Calls Tryz.prog 57 #[.string S, .int .i64 ((z : Int) + 9), .bool mark, .int .i64 deep] W3 (CasesAtOut S (z + 9) deep mark W3) from
                          rcas_any S n IH.out hs (z + 9) deep mark W3 (by omega) (by omega) hd6 (by omega))
                        refine HCas.out.mono ?_
                        rintro e W4 ⟨h, hb4⟩
                        have hbk4 : W4.heap[cb]? = some (.cells #[.int .i64 5, .string ⟨x.toArray⟩, .int .i64 0, .slice none 0 0] 35) := (hb4.block cb (by omega)).trans hbk
                        have HAc4 := Lib.hid (HAcx.out.below hb4)
                        have HB4 := Lib.hid (HBx.out.trans (hb4.mono HBx.out.size))
                        have hs4 : W3.heap.size ≤ W4.heap.size := hb4.size
                        have hcl4 : cb < W4.heap.size := by omega
                        clear HCas hb4 hbk HAcx HBx hcl
                        have hbk := hbk4; have HAcx := HAc4; have HBx := HB4; have hcl := hcl4
                        clear hbk4 HAc4 HB4 hcl4
                        rcases h with ⟨v, k2, cs, rfl, hk1, hk2, hv, hnc, hwc, hC⟩ | ⟨rfl, hC⟩
                        · obtain ⟨va, vn, vc, rfl⟩ := hv.form
                          have HV := Lib.hid hv; have HCs := Lib.hid hnc; have HWc := Lib.hid hwc
                          have HArg := Lib.hid (HArgs.out.trans (by rw [hC]))
                          clear hv hnc hwc hC
                          have y0 : W4.cell? ⟨cb, 0, none⟩ = some (.int .i64 5) := block_cell hbk rfl
                          have y1 : W4.cell? ⟨cb, 1, none⟩ = some (.string ⟨x.toArray⟩) := block_cell hbk rfl
                          have y2 : W4.cell? ⟨cb, 2, none⟩ = some (.int .i64 0) := block_cell hbk rfl
                          have y3 : W4.cell? ⟨cb, 3, none⟩ = some (.slice none 0 0) := block_cell hbk rfl
                          have fz3 : W4.frozen? ⟨cb, 3, none⟩ = false := by simp [World.frozen?, hbk]
                          have hkeep : ∀ b, cb < b → (W4.setCell ⟨cb, 3, none⟩ (.slice va vn vc)).heap[b]? = W4.heap[b]? := fun b hb => heap_setCell_other W4 ⟨cb, 3, none⟩ b _ (by show b ≠ cb; omega)
                          have hbk' := Joins.block_setCell (i := 3) hbk (.slice va vn vc)
                          have HAcx' := Lib.hid (HAcx.out.set (i := 3) (.slice va vn vc) (.inr (Nat.le_refl _)))
                          have HBx' := Lib.hid (below_grown HBx.out (keeps_set W4 cb 3 (.slice va vn vc)) (fun k hk => by cases hk; exact hwcb) HBx.out.size)
                          have hcl' : cb < (W4.setCell ⟨cb, 3, none⟩ (.slice va vn vc)).heap.size := by rw [size_setCell]; exact hcl
                          go_upto_if 159 with fail
                          clear y0 y1 y2 y3 fz3 hbk HAcx HBx hcl
                          generalize W4.setCell ⟨cb, 3, none⟩ (.slice va vn vc) = W5 at *
                          have hbk : W5.heap[cb]? = some (.cells #[.int .i64 5, .string ⟨x.toArray⟩, .int .i64 0, .slice va vn vc] 35) := hbk'
                          have HAcx := HAcx'; have HBx := HBx'
                          have hcl : cb < W5.heap.size := by omega
                          clear hbk' HAcx' HBx'
                          have HV' := Lib.hid (SVP.keep (W' := W5) (fun b hb hp => hkeep b (by omega)) HV.out)
                          have y0 : W5.cell? ⟨cb, 0, none⟩ = some (.int .i64 5) := block_cell hbk rfl
                          have y1 : W5.cell? ⟨cb, 1, none⟩ = some (.string ⟨x.toArray⟩) := block_cell hbk rfl
                          have y2 : W5.cell? ⟨cb, 2, none⟩ = some (.int .i64 0) := block_cell hbk rfl
                          have y3 : W5.cell? ⟨cb, 3, none⟩ = some (.slice va vn vc) := block_cell hbk rfl
                          have HO := Lib.hid HAcx.out.2.2.2.2.1
                          have hsw : w.heap.size ≤ W5.heap.size := HBx.out.size
                          have hlen : len acc1 ≤ 1000000 := by omega
                          have HNx := Lib.hid (HStep.out _ _ _ _ _ HArg.out (.inl rfl))
                          go_wp2_with (at_builtin; go_loud (refine wpList_append_lies _ rfl _ _ 22 rfl w.heap.size 35 i0 (.agg #[.int .i64 0, .string ⟨#[]⟩, .int .i64 0, .slice none 0 0]) 4 56 Tryz.underlying22 hi hz0 hz1 hz2 rfl (by decide) _ (len (acc1)) xs1 rfl (HO.out.alloc _) ⟨W5.heap.size, 0, none⟩ 1 1 [.int .i64 5, .string ⟨x.toArray⟩, .int .i64 0, .slice va vn vc] rfl rfl (World.news_of_block (Go.heap_alloc_new _ _)) (fun x hx => by simp at hx; rcases hx with rfl | rfl | rfl | rfl <;> rfl) (by decide) (by unfold maxLen; omega) (by omega) (by simp; omega) _ rfl ?_; intro g cap w8 hown8 hgrow8 hat8 _))
                          all_goals
                            have HAc8 := HAcx.out.more (el := .node 5 x 0 cs .nil) (M := W3.heap.size) (by omega) HV'.out (by rw [app_len]; rfl) (fun _ _ h1 h2 => RdX.node h1 acc1 xs1 h2) hown8 hgrow8 hat8
                            have hB8 := below_grown (HBx.out.alloc HBx.out.size _) hgrow8 (fun k hk => (HO.out.lt k hk).1) (by simp; omega)
                            go_roundw
                            case rel =>
                              refine ⟨k2, _, _, by go_num, by omega, by omega, ?_, ⟨app_isN _ _ HI1.out.1 (by simp [isN, HCs.out]), ?_, HNx.out⟩, HAc8, hB8⟩
                              · rw [app_len]; simp only [len]; omega
                              · rw [wt_node]; have h1 := HI1.out.2; have h2 := HWc.out; omega
                            case measure => simp [RowKit.intOf]; omega
                        · have HArg := Lib.hid (HArgs.out.trans (by rw [hC]; first | done | rfl))
                          clear hC
                          have y0 : W4.cell? ⟨cb, 0, none⟩ = some (.int .i64 5) := block_cell hbk rfl
                          have y1 : W4.cell? ⟨cb, 1, none⟩ = some (.string ⟨x.toArray⟩) := block_cell hbk rfl
                          have y2 : W4.cell? ⟨cb, 2, none⟩ = some (.int .i64 0) := block_cell hbk rfl
                          have y3 : W4.cell? ⟨cb, 3, none⟩ = some (.slice none 0 0) := block_cell hbk rfl
                          have fz3 : W4.frozen? ⟨cb, 3, none⟩ = false := by simp [World.frozen?, hbk]
                          have hbk' := Joins.block_setCell (i := 3) hbk (.slice none 0 0)
                          have HAcx' := Lib.hid (HAcx.out.set (i := 3) (.slice none 0 0) (.inr (Nat.le_refl _)))
                          have HBx' := Lib.hid (below_grown HBx.out (keeps_set W4 cb 3 (.slice none 0 0)) (fun k hk => by cases hk; exact hwcb) HBx.out.size)
                          have hcl' : cb < (W4.setCell ⟨cb, 3, none⟩ (.slice none 0 0)).heap.size := by rw [size_setCell]; exact hcl
                          go_upto_if 159 with fail
                          clear y0 y1 y2 y3 fz3 hbk HAcx HBx hcl
                          generalize W4.setCell ⟨cb, 3, none⟩ (.slice none 0 0) = W5 at *
                          have hbk : W5.heap[cb]? = some (.cells #[.int .i64 5, .string ⟨x.toArray⟩, .int .i64 0, .slice none 0 0] 35) := hbk'
                          have HAcx := HAcx'; have HBx := HBx'
                          have hcl : cb < W5.heap.size := by omega
                          clear hbk' HAcx' HBx'
                          have HNx := Lib.hid (HBad.out HArg.out)
                          go_wp2_with fail
                          go_ret2
                          exact ⟨.inr ⟨rfl, fun _ => HNx.out⟩, HBx.out⟩
                      | false =>
                        have HS2 := Lib.hid (starts_at S z ⟨#[44, 32, 115, 101, 108, 101, 99, 116, 44]⟩ false hp2)
                        have HP2 := Lib.hid (show pre select (S.data.toList.drop z) = none from pre_not hp2)
                        clear hp2
                        go_wp2_with fail
                        refine (HS2.out _).mono ?_
                        rintro e W2' ⟨rfl, rfl⟩
                        cases hp3 : Lib.hasPrefix (S.data.toList.drop z) (⟨#[44, 32, 112, 108, 117, 114, 97, 108, 44]⟩ : ByteArray).data.toList with
                        | false =>
                          have HS3 := Lib.hid (starts_at S z ⟨#[44, 32, 112, 108, 117, 114, 97, 108, 44]⟩ false hp3)
                          have HArg := Lib.hid (arg_none (deep := deep) (mark := mark) HUp.out HZ125.out HP1.out HP2.out (pre_not hp3))
                          clear hp3
                          go_wp2_with fail
                          refine (HS3.out _).mono ?_
                          rintro e W2' ⟨rfl, rfl⟩
                          have HNx := Lib.hid (HBad.out HArg.out)
                          go_wp2_with fail
                          go_ret2
                          exact ⟨.inr ⟨rfl, fun _ => HNx.out⟩, HBx.out⟩
                        | true =>
                          have HS3 := Lib.hid (starts_at S z ⟨#[44, 32, 112, 108, 117, 114, 97, 108, 44]⟩ true hp3)
                          have hroom := pre_room hp3 (by decide)
                          rw [Hl.out] at hroom
                          have hroom : z + 9 ≤ S.size := hroom
                          have HP3 := Lib.hid (show pre plural (S.data.toList.drop z) = some (S.data.toList.drop (z + 9)) from pre_drop hp3)
                          clear hp3
                          go_wp2_with fail
                          refine (HS3.out _).mono ?_
                          rintro e W2 ⟨rfl, rfl⟩
                          have y0 : W2.cell? ⟨cb, 0, none⟩ = some (.int .i64 2) := block_cell hbk rfl
                          have y1 : W2.cell? ⟨cb, 1, none⟩ = some (.string ⟨x.toArray⟩) := block_cell hbk rfl
                          have y2 : W2.cell? ⟨cb, 2, none⟩ = some (.int .i64 0) := block_cell hbk rfl
                          have y3 : W2.cell? ⟨cb, 3, none⟩ = some (.slice none 0 0) := block_cell hbk rfl
                          have fz0 : W2.frozen? ⟨cb, 0, none⟩ = false := by simp [World.frozen?, hbk]
                          have hbk' := Joins.block_setCell (i := 0) hbk (.int .i64 4)
                          have HAcx' := Lib.hid (HAcx.out.set (i := 0) (.int .i64 4) (.inr (Nat.le_refl _)))
                          have HBx' := Lib.hid (below_grown HBx.out (keeps_set W2 cb 0 (.int .i64 4)) (fun k hk => by cases hk; exact hwcb) HBx.out.size)
                          have hcl' : cb < (W2.setCell ⟨cb, 0, none⟩ (.int .i64 4)).heap.size := by rw [size_setCell]; exact hcl
                          go_wp2_with fail
                          clear y0 y1 y2 y3 fz0 hbk HAcx HBx hcl
                          generalize W2.setCell ⟨cb, 0, none⟩ (.int .i64 4) = W3 at *
                          have hbk : W3.heap[cb]? = some (.cells #[.int .i64 4, .string ⟨x.toArray⟩, .int .i64 0, .slice none 0 0] 35) := hbk'
                          have HAcx := HAcx'; have HBx := HBx'
                          have hcl : cb < W3.heap.size := by omega
                          clear hbk' HAcx' HBx'
                          cases hp4 : Lib.hasPrefix (S.data.toList.drop (z + 9)) (⟨#[32, 111, 102, 102, 115, 101, 116, 58]⟩ : ByteArray).data.toList with
                          | false =>
                            have HS4 := Lib.hid (starts_at S (z + 9) ⟨#[32, 111, 102, 102, 115, 101, 116, 58]⟩ false hp4)
                            have HArgs := Lib.hid (arg_plural (deep := deep) (mark := mark) HUp.out HZ125.out HP1.out HP2.out HP3.out (pre_not hp4))
                            clear hp4
                            refine (HS4.out _).mono ?_
                            rintro e W3 ⟨rfl, rfl⟩
                            have HCas := Lib.hid (show Calls Tryz.prog 57 #[.string S, .int .i64 ((z : Int) + 9), .bool true, .int .i64 deep] W3 (CasesAtOut S (z + 9) deep true W3) from
                              rcas_any S n IH.out hs (z + 9) deep true W3 (by omega) (by omega) hd6 (by omega))
                            go_wp2_with fail
                            refine HCas.out.mono ?_
                            rintro e W4 ⟨h, hb4⟩
                            have hbk4 : W4.heap[cb]? = some (.cells #[.int .i64 4, .string ⟨x.toArray⟩, .int .i64 0, .slice none 0 0] 35) := (hb4.block cb (by omega)).trans hbk
                            have HAc4 := Lib.hid (HAcx.out.below hb4)
                            have HB4 := Lib.hid (HBx.out.trans (hb4.mono HBx.out.size))
                            have hs4 : W3.heap.size ≤ W4.heap.size := hb4.size
                            have hcl4 : cb < W4.heap.size := by omega
                            clear HCas hb4 hbk HAcx HBx hcl
                            have hbk := hbk4; have HAcx := HAc4; have HBx := HB4; have hcl := hcl4
                            clear hbk4 HAc4 HB4 hcl4
                            rcases h with ⟨v, k2, cs, rfl, hk1, hk2, hv, hnc, hwc, hC⟩ | ⟨rfl, hC⟩
                            · obtain ⟨va, vn, vc, rfl⟩ := hv.form
                              have HV := Lib.hid hv; have HCs := Lib.hid hnc; have HWc := Lib.hid hwc
                              have HArg := Lib.hid (HArgs.out.trans (by rw [hC]))
                              clear hv hnc hwc hC
                              have y0 : W4.cell? ⟨cb, 0, none⟩ = some (.int .i64 4) := block_cell hbk rfl
                              have y1 : W4.cell? ⟨cb, 1, none⟩ = some (.string ⟨x.toArray⟩) := block_cell hbk rfl
                              have y2 : W4.cell? ⟨cb, 2, none⟩ = some (.int .i64 0) := block_cell hbk rfl
                              have y3 : W4.cell? ⟨cb, 3, none⟩ = some (.slice none 0 0) := block_cell hbk rfl
                              have fz3 : W4.frozen? ⟨cb, 3, none⟩ = false := by simp [World.frozen?, hbk]
                              have hkeep : ∀ b, cb < b → (W4.setCell ⟨cb, 3, none⟩ (.slice va vn vc)).heap[b]? = W4.heap[b]? := fun b hb => heap_setCell_other W4 ⟨cb, 3, none⟩ b _ (by show b ≠ cb; omega)
                              have hbk' := Joins.block_setCell (i := 3) hbk (.slice va vn vc)
                              have HAcx' := Lib.hid (HAcx.out.set (i := 3) (.slice va vn vc) (.inr (Nat.le_refl _)))
                              have HBx' := Lib.hid (below_grown HBx.out (keeps_set W4 cb 3 (.slice va vn vc)) (fun k hk => by cases hk; exact hwcb) HBx.out.size)
                              have hcl' : cb < (W4.setCell ⟨cb, 3, none⟩ (.slice va vn vc)).heap.size := by rw [size_setCell]; exact hcl
                              go_upto_if 159 with fail
                              clear y0 y1 y2 y3 fz3 hbk HAcx HBx hcl
                              generalize W4.setCell ⟨cb, 3, none⟩ (.slice va vn vc) = W5 at *
                              have hbk : W5.heap[cb]? = some (.cells #[.int .i64 4, .string ⟨x.toArray⟩, .int .i64 0, .slice va vn vc] 35) := hbk'
                              have HAcx := HAcx'; have HBx := HBx'
                              have hcl : cb < W5.heap.size := by omega
                              clear hbk' HAcx' HBx'
                              have HV' := Lib.hid (SVP.keep (W' := W5) (fun b hb hp => hkeep b (by omega)) HV.out)
                              have y0 : W5.cell? ⟨cb, 0, none⟩ = some (.int .i64 4) := block_cell hbk rfl
                              have y1 : W5.cell? ⟨cb, 1, none⟩ = some (.string ⟨x.toArray⟩) := block_cell hbk rfl
                              have y2 : W5.cell? ⟨cb, 2, none⟩ = some (.int .i64 0) := block_cell hbk rfl
                              have y3 : W5.cell? ⟨cb, 3, none⟩ = some (.slice va vn vc) := block_cell hbk rfl
                              have HO := Lib.hid HAcx.out.2.2.2.2.1
                              have hsw : w.heap.size ≤ W5.heap.size := HBx.out.size
                              have hlen : len acc1 ≤ 1000000 := by omega
                              have HNx := Lib.hid (HStep.out _ _ _ _ _ HArg.out (.inl rfl))
                              go_wp2_with (at_builtin; go_loud (refine wpList_append_lies _ rfl _ _ 22 rfl w.heap.size 35 i0 (.agg #[.int .i64 0, .string ⟨#[]⟩, .int .i64 0, .slice none 0 0]) 4 56 Tryz.underlying22 hi hz0 hz1 hz2 rfl (by decide) _ (len (acc1)) xs1 rfl (HO.out.alloc _) ⟨W5.heap.size, 0, none⟩ 1 1 [.int .i64 4, .string ⟨x.toArray⟩, .int .i64 0, .slice va vn vc] rfl rfl (World.news_of_block (Go.heap_alloc_new _ _)) (fun x hx => by simp at hx; rcases hx with rfl | rfl | rfl | rfl <;> rfl) (by decide) (by unfold maxLen; omega) (by omega) (by simp; omega) _ rfl ?_; intro g cap w8 hown8 hgrow8 hat8 _))
                              all_goals
                                have HAc8 := HAcx.out.more (el := .node 4 x 0 cs .nil) (M := W3.heap.size) (by omega) HV'.out (by rw [app_len]; rfl) (fun _ _ h1 h2 => RdX.node h1 acc1 xs1 h2) hown8 hgrow8 hat8
                                have hB8 := below_grown (HBx.out.alloc HBx.out.size _) hgrow8 (fun k hk => (HO.out.lt k hk).1) (by simp; omega)
                                go_roundw
                                case rel =>
                                  refine ⟨k2, _, _, by go_num, by omega, by omega, ?_, ⟨app_isN _ _ HI1.out.1 (by simp [isN, HCs.out]), ?_, HNx.out⟩, HAc8, hB8⟩
                                  · rw [app_len]; simp only [len]; omega
                                  · rw [wt_node]; have h1 := HI1.out.2; have h2 := HWc.out; omega
                                case measure => simp [RowKit.intOf]; omega
                            · have HArg := Lib.hid (HArgs.out.trans (by rw [hC]; first | done | rfl))
                              clear hC
                              have y0 : W4.cell? ⟨cb, 0, none⟩ = some (.int .i64 4) := block_cell hbk rfl
                              have y1 : W4.cell? ⟨cb, 1, none⟩ = some (.string ⟨x.toArray⟩) := block_cell hbk rfl
                              have y2 : W4.cell? ⟨cb, 2, none⟩ = some (.int .i64 0) := block_cell hbk rfl
                              have y3 : W4.cell? ⟨cb, 3, none⟩ = some (.slice none 0 0) := block_cell hbk rfl
                              have fz3 : W4.frozen? ⟨cb, 3, none⟩ = false := by simp [World.frozen?, hbk]
                              have hbk' := Joins.block_setCell (i := 3) hbk (.slice none 0 0)
                              have HAcx' := Lib.hid (HAcx.out.set (i := 3) (.slice none 0 0) (.inr (Nat.le_refl _)))
                              have HBx' := Lib.hid (below_grown HBx.out (keeps_set W4 cb 3 (.slice none 0 0)) (fun k hk => by cases hk; exact hwcb) HBx.out.size)
                              have hcl' : cb < (W4.setCell ⟨cb, 3, none⟩ (.slice none 0 0)).heap.size := by rw [size_setCell]; exact hcl
                              go_upto_if 159 with fail
                              clear y0 y1 y2 y3 fz3 hbk HAcx HBx hcl
                              generalize W4.setCell ⟨cb, 3, none⟩ (.slice none 0 0) = W5 at *
                              have hbk : W5.heap[cb]? = some (.cells #[.int .i64 4, .string ⟨x.toArray⟩, .int .i64 0, .slice none 0 0] 35) := hbk'
                              have HAcx := HAcx'; have HBx := HBx'
                              have hcl : cb < W5.heap.size := by omega
                              clear hbk' HAcx' HBx'
                              have HNx := Lib.hid (HBad.out HArg.out)
                              go_wp2_with fail
                              go_ret2
                              exact ⟨.inr ⟨rfl, fun _ => HNx.out⟩, HBx.out⟩
                          | true =>
                            have HS4 := Lib.hid (starts_at S (z + 9) ⟨#[32, 111, 102, 102, 115, 101, 116, 58]⟩ true hp4)
                            have hroom2 := pre_room hp4 (by decide)
                            rw [Hl.out] at hroom2
                            have hroom2 : z + 9 + 8 ≤ S.size := hroom2
                            have HP4 := Lib.hid (show pre offset (S.data.toList.drop (z + 9)) = some (S.data.toList.drop (z + 9 + 8)) from pre_drop hp4)
                            clear hp4
                            refine (HS4.out _).mono ?_
                            rintro e W3 ⟨rfl, rfl⟩
                            by_cases hlong : z + 9 + 9 ≤ S.size
                            · have hqs : z + 9 + 8 < S.size := by omega
                              have hdq : S.data.toList.drop (z + 9 + 8) = S[z + 9 + 8] :: S.data.toList.drop (z + 9 + 9) := Lx.drop_cons (Lib.data_getElem? S (z + 9 + 8) hqs)
                              have hON := ronly_digit S (z + 9 + 8) hqs
                              cases hdig : (49 ≤ S[z + 9 + 8] && S[z + 9 + 8] ≤ 57 : Bool) with
                              | false =>
                                have HArg := Lib.hid (arg_offbad (deep := deep) (mark := mark) HUp.out HZ125.out HP1.out HP2.out HP3.out HP4.out (fun d r' he => by
                                  rw [hdq] at he
                                  have := (List.cons.inj he).1
                                  subst this
                                  simpa using hdig))
                                rw [hdig] at hON
                                have HON := Lib.hid hON
                                clear hON hdq hdig
                                go_wp2_with fail
                                refine (HON.out _).mono ?_
                                rintro e W4 ⟨rfl, hb4⟩
                                have HB4 := Lib.hid (HBx.out.trans (hb4.mono HBx.out.size))
                                clear HBx hb4
                                have HBx := HB4
                                have HNx := Lib.hid (HBad.out HArg.out)
                                go_wp2_with fail
                                go_ret2
                                exact ⟨.inr ⟨rfl, fun _ => HNx.out⟩, HBx.out⟩
                              | true =>
                                have hd1 : 49 ≤ S[z + 9 + 8] := by simp only [Bool.and_eq_true, decide_eq_true_eq] at hdig; exact hdig.1
                                have hd2 : S[z + 9 + 8] ≤ 57 := by simp only [Bool.and_eq_true, decide_eq_true_eq] at hdig; exact hdig.2
                                have hdn1 : 49 ≤ S[z + 9 + 8].toNat := by rw [UInt8.le_iff_toNat_le] at hd1; exact hd1
                                have hdn2 : S[z + 9 + 8].toNat ≤ 57 := by rw [UInt8.le_iff_toNat_le] at hd2; exact hd2
                                rw [hdq] at HP4
                                have HArgs := Lib.hid (arg_offset (deep := deep) (mark := mark) HUp.out HZ125.out HP1.out HP2.out HP3.out HP4.out hd1 hd2)
                                rw [hdig] at hON
                                have HON := Lib.hid hON
                                clear hON hdq hdig hd1 hd2
                                go_wp2_with fail
                                refine (HON.out _).mono ?_
                                rintro e W4 ⟨rfl, hb4⟩
                                have HAc4 := Lib.hid (HAcx.out.below hb4)
                                have HB4 := Lib.hid (HBx.out.trans (hb4.mono HBx.out.size))
                                have hbk4 : W4.heap[cb]? = some (.cells #[.int .i64 4, .string ⟨x.toArray⟩, .int .i64 0, .slice none 0 0] 35) := (hb4.block cb hcl).trans hbk
                                have hcl4 : cb < W4.heap.size := by have := hb4.size; omega
                                clear HAcx HBx hbk hb4 hcl
                                have HAcx := HAc4; have HBx := HB4; have hbk := hbk4; have hcl := hcl4
                                clear HAc4 HB4 hbk4 hcl4
                                have y0 : W4.cell? ⟨cb, 0, none⟩ = some (.int .i64 4) := block_cell hbk rfl
                                have y1 : W4.cell? ⟨cb, 1, none⟩ = some (.string ⟨x.toArray⟩) := block_cell hbk rfl
                                have y2 : W4.cell? ⟨cb, 2, none⟩ = some (.int .i64 0) := block_cell hbk rfl
                                have y3 : W4.cell? ⟨cb, 3, none⟩ = some (.slice none 0 0) := block_cell hbk rfl
                                have fz2 : W4.frozen? ⟨cb, 2, none⟩ = false := by simp [World.frozen?, hbk]
                                have hbk' := Joins.block_setCell (i := 2) hbk (.int .i64 ((S[z + 9 + 8].toNat : Int) - 48))
                                have HAcx' := Lib.hid (HAcx.out.set (i := 2) (.int .i64 ((S[z + 9 + 8].toNat : Int) - 48)) (.inr (Nat.le_refl _)))
                                have HBx' := Lib.hid (below_grown HBx.out (keeps_set W4 cb 2 (.int .i64 ((S[z + 9 + 8].toNat : Int) - 48))) (fun k hk => by cases hk; exact hwcb) HBx.out.size)
                                have hcl' : cb < (W4.setCell ⟨cb, 2, none⟩ (.int .i64 ((S[z + 9 + 8].toNat : Int) - 48))).heap.size := by rw [size_setCell]; exact hcl
                                go_wp2_with fail
                                clear y0 y1 y2 y3 fz2 hbk HAcx HBx hcl
                                generalize W4.setCell ⟨cb, 2, none⟩ (.int .i64 ((S[z + 9 + 8].toNat : Int) - 48)) = W3 at *
                                have hbk : W3.heap[cb]? = some (.cells #[.int .i64 4, .string ⟨x.toArray⟩, .int .i64 ((S[z + 9 + 8].toNat : Int) - 48), .slice none 0 0] 35) := hbk'
                                have HAcx := HAcx'; have HBx := HBx'
                                have hcl : cb < W3.heap.size := by omega
                                clear hbk' HAcx' HBx'
                                have HCas := Lib.hid (show Calls Tryz.prog 57 #[.string S, .int .i64 ((z : Int) + 9 + 9), .bool true, .int .i64 deep] W3 (CasesAtOut S (z + 9 + 9) deep true W3) from
                                  rcas_any S n IH.out hs (z + 9 + 9) deep true W3 (by omega) (by omega) hd6 (by omega))
                                refine HCas.out.mono ?_
                                rintro e W4 ⟨h, hb4⟩
                                have hbk4 : W4.heap[cb]? = some (.cells #[.int .i64 4, .string ⟨x.toArray⟩, .int .i64 ((S[z + 9 + 8].toNat : Int) - 48), .slice none 0 0] 35) := (hb4.block cb (by omega)).trans hbk
                                have HAc4 := Lib.hid (HAcx.out.below hb4)
                                have HB4 := Lib.hid (HBx.out.trans (hb4.mono HBx.out.size))
                                have hs4 : W3.heap.size ≤ W4.heap.size := hb4.size
                                have hcl4 : cb < W4.heap.size := by omega
                                clear HCas hb4 hbk HAcx HBx hcl
                                have hbk := hbk4; have HAcx := HAc4; have HBx := HB4; have hcl := hcl4
                                clear hbk4 HAc4 HB4 hcl4
                                rcases h with ⟨v, k2, cs, rfl, hk1, hk2, hv, hnc, hwc, hC⟩ | ⟨rfl, hC⟩
                                · obtain ⟨va, vn, vc, rfl⟩ := hv.form
                                  have HV := Lib.hid hv; have HCs := Lib.hid hnc; have HWc := Lib.hid hwc
                                  have HArg := Lib.hid (HArgs.out.trans (by rw [hC]))
                                  clear hv hnc hwc hC
                                  have y0 : W4.cell? ⟨cb, 0, none⟩ = some (.int .i64 4) := block_cell hbk rfl
                                  have y1 : W4.cell? ⟨cb, 1, none⟩ = some (.string ⟨x.toArray⟩) := block_cell hbk rfl
                                  have y2 : W4.cell? ⟨cb, 2, none⟩ = some (.int .i64 ((S[z + 9 + 8].toNat : Int) - 48)) := block_cell hbk rfl
                                  have y3 : W4.cell? ⟨cb, 3, none⟩ = some (.slice none 0 0) := block_cell hbk rfl
                                  have fz3 : W4.frozen? ⟨cb, 3, none⟩ = false := by simp [World.frozen?, hbk]
                                  have hkeep : ∀ b, cb < b → (W4.setCell ⟨cb, 3, none⟩ (.slice va vn vc)).heap[b]? = W4.heap[b]? := fun b hb => heap_setCell_other W4 ⟨cb, 3, none⟩ b _ (by show b ≠ cb; omega)
                                  have hbk' := Joins.block_setCell (i := 3) hbk (.slice va vn vc)
                                  have HAcx' := Lib.hid (HAcx.out.set (i := 3) (.slice va vn vc) (.inr (Nat.le_refl _)))
                                  have HBx' := Lib.hid (below_grown HBx.out (keeps_set W4 cb 3 (.slice va vn vc)) (fun k hk => by cases hk; exact hwcb) HBx.out.size)
                                  have hcl' : cb < (W4.setCell ⟨cb, 3, none⟩ (.slice va vn vc)).heap.size := by rw [size_setCell]; exact hcl
                                  go_upto_if 159 with fail
                                  clear y0 y1 y2 y3 fz3 hbk HAcx HBx hcl
                                  generalize W4.setCell ⟨cb, 3, none⟩ (.slice va vn vc) = W5 at *
                                  have hbk : W5.heap[cb]? = some (.cells #[.int .i64 4, .string ⟨x.toArray⟩, .int .i64 ((S[z + 9 + 8].toNat : Int) - 48), .slice va vn vc] 35) := hbk'
                                  have HAcx := HAcx'; have HBx := HBx'
                                  have hcl : cb < W5.heap.size := by omega
                                  clear hbk' HAcx' HBx'
                                  have HV' := Lib.hid (SVP.keep (W' := W5) (fun b hb hp => hkeep b (by omega)) HV.out)
                                  have y0 : W5.cell? ⟨cb, 0, none⟩ = some (.int .i64 4) := block_cell hbk rfl
                                  have y1 : W5.cell? ⟨cb, 1, none⟩ = some (.string ⟨x.toArray⟩) := block_cell hbk rfl
                                  have y2 : W5.cell? ⟨cb, 2, none⟩ = some (.int .i64 ((S[z + 9 + 8].toNat : Int) - 48)) := block_cell hbk rfl
                                  have y3 : W5.cell? ⟨cb, 3, none⟩ = some (.slice va vn vc) := block_cell hbk rfl
                                  have HO := Lib.hid HAcx.out.2.2.2.2.1
                                  have hsw : w.heap.size ≤ W5.heap.size := HBx.out.size
                                  have hlen : len acc1 ≤ 1000000 := by omega
                                  have HNx := Lib.hid (HStep.out _ _ _ _ _ HArg.out (.inl rfl))
                                  go_wp2_with (at_builtin; go_loud (refine wpList_append_lies _ rfl _ _ 22 rfl w.heap.size 35 i0 (.agg #[.int .i64 0, .string ⟨#[]⟩, .int .i64 0, .slice none 0 0]) 4 56 Tryz.underlying22 hi hz0 hz1 hz2 rfl (by decide) _ (len (acc1)) xs1 rfl (HO.out.alloc _) ⟨W5.heap.size, 0, none⟩ 1 1 [.int .i64 4, .string ⟨x.toArray⟩, .int .i64 ((S[z + 9 + 8].toNat : Int) - 48), .slice va vn vc] rfl rfl (World.news_of_block (Go.heap_alloc_new _ _)) (fun x hx => by simp at hx; rcases hx with rfl | rfl | rfl | rfl <;> rfl) (by decide) (by unfold maxLen; omega) (by omega) (by simp; omega) _ rfl ?_; intro g cap w8 hown8 hgrow8 hat8 _))
                                  all_goals
                                    have HAc8 := HAcx.out.more (el := .node 4 x ((S[z + 9 + 8].toNat : Int) - 48) cs .nil) (M := W3.heap.size) (by omega) HV'.out (by rw [app_len]; rfl) (fun _ _ h1 h2 => RdX.node h1 acc1 xs1 h2) hown8 hgrow8 hat8
                                    have hB8 := below_grown (HBx.out.alloc HBx.out.size _) hgrow8 (fun k hk => (HO.out.lt k hk).1) (by simp; omega)
                                    go_roundw
                                    case rel =>
                                      refine ⟨k2, _, _, by go_num, by omega, by omega, ?_, ⟨app_isN _ _ HI1.out.1 (by simp [isN, HCs.out]), ?_, HNx.out⟩, HAc8, hB8⟩
                                      · rw [app_len]; simp only [len]; omega
                                      · rw [wt_node]; have h1 := HI1.out.2; have h2 := HWc.out; omega
                                    case measure => simp [RowKit.intOf]; omega
                                · have HArg := Lib.hid (HArgs.out.trans (by rw [hC]; first | done | rfl))
                                  clear hC
                                  have y0 : W4.cell? ⟨cb, 0, none⟩ = some (.int .i64 4) := block_cell hbk rfl
                                  have y1 : W4.cell? ⟨cb, 1, none⟩ = some (.string ⟨x.toArray⟩) := block_cell hbk rfl
                                  have y2 : W4.cell? ⟨cb, 2, none⟩ = some (.int .i64 ((S[z + 9 + 8].toNat : Int) - 48)) := block_cell hbk rfl
                                  have y3 : W4.cell? ⟨cb, 3, none⟩ = some (.slice none 0 0) := block_cell hbk rfl
                                  have fz3 : W4.frozen? ⟨cb, 3, none⟩ = false := by simp [World.frozen?, hbk]
                                  have hbk' := Joins.block_setCell (i := 3) hbk (.slice none 0 0)
                                  have HAcx' := Lib.hid (HAcx.out.set (i := 3) (.slice none 0 0) (.inr (Nat.le_refl _)))
                                  have HBx' := Lib.hid (below_grown HBx.out (keeps_set W4 cb 3 (.slice none 0 0)) (fun k hk => by cases hk; exact hwcb) HBx.out.size)
                                  have hcl' : cb < (W4.setCell ⟨cb, 3, none⟩ (.slice none 0 0)).heap.size := by rw [size_setCell]; exact hcl
                                  go_upto_if 159 with fail
                                  clear y0 y1 y2 y3 fz3 hbk HAcx HBx hcl
                                  generalize W4.setCell ⟨cb, 3, none⟩ (.slice none 0 0) = W5 at *
                                  have hbk : W5.heap[cb]? = some (.cells #[.int .i64 4, .string ⟨x.toArray⟩, .int .i64 ((S[z + 9 + 8].toNat : Int) - 48), .slice none 0 0] 35) := hbk'
                                  have HAcx := HAcx'; have HBx := HBx'
                                  have hcl : cb < W5.heap.size := by omega
                                  clear hbk' HAcx' HBx'
                                  have HNx := Lib.hid (HBad.out HArg.out)
                                  go_wp2_with fail
                                  go_ret2
                                  exact ⟨.inr ⟨rfl, fun _ => HNx.out⟩, HBx.out⟩
                            · have HArg := Lib.hid (arg_offbad (deep := deep) (mark := mark) HUp.out HZ125.out HP1.out HP2.out HP3.out HP4.out (fun d r' he => by
                                rw [List.drop_eq_nil_of_le (by rw [Hl.out]; omega)] at he; cases he))
                              have HNx := Lib.hid (HBad.out HArg.out)
                              go_wp2_with fail
                              go_ret2
                              exact ⟨.inr ⟨rfl, fun _ => HNx.out⟩, HBx.out⟩
                  · by_cases hz125 : S[z] = 125
                    · have n44 : ((S[z].toNat : Int) != 44) = true := by rw [hz125]; rfl
                      have n125 : ((S[z].toNat : Int) != 125) = false := by rw [hz125]; rfl
                      have hzc := hz125
                      clear hz125 hz44
                      have hxx := ext_part S (j + 1) z
                      obtain ⟨x, hxe⟩ : ∃ x, x = (S.data.toList.drop (j + 1)).take (z - (j + 1)) := ⟨_, rfl⟩
                      have hxl : x.length ≤ z - (j + 1) := by rw [hxe, List.length_take]; omega
                      rw [← hxe] at hxx
                      obtain ⟨cb, hcb⟩ : ∃ cb, cb = W1.heap.size := ⟨_, rfl⟩
                      have hbk := Go.heap_alloc_new W1 (.cells #[.int .i64 2, .string ⟨x.toArray⟩, .int .i64 0, .slice none 0 0] 35)
                      have HAcx := Lib.hid (HAc1.out.below ((Below.refl W1.heap.size W1).alloc (Nat.le_refl _) (.cells #[.int .i64 2, .string ⟨x.toArray⟩, .int .i64 0, .slice none 0 0] 35)))
                      have HBx := Lib.hid (HB1.out.alloc HB1.out.size (.cells #[.int .i64 2, .string ⟨x.toArray⟩, .int .i64 0, .slice none 0 0] 35))
                      have hsz : (W1.alloc (.cells #[.int .i64 2, .string ⟨x.toArray⟩, .int .i64 0, .slice none 0 0] 35)).heap.size = cb + 1 := by rw [hcb]; simp
                      have hwcb : w.heap.size ≤ cb := by have := HB1.out.size; omega
                      have hcb0 : 0 < cb := Nat.lt_of_lt_of_le H0.out hwcb
                      have hu := Lib.hid hxe
                      clear hxe
                      go_upto_region 20 with fail
                      rw [← hcb] at hbk HAcx ⊢
                      clear HAc1 HB1 hcb
                      generalize W1.alloc (.cells #[.int .i64 2, .string ⟨x.toArray⟩, .int .i64 0, .slice none 0 0] 35) = W2 at *
                      have hbk : W2.heap[cb]? = some (.cells #[.int .i64 2, .string ⟨x.toArray⟩, .int .i64 0, .slice none 0 0] 35) := hbk
                      have hcl : cb < W2.heap.size := by omega
                      clear hsz
                      have hup : upto (fun c => c == 44 || c == 125) (S.data.toList.drop (j + 1)) = some (x, S.data.toList.drop z) := by
                        have h1 := upto_take (p := fun c => c == 44 || c == 125) (l := S.data.toList.drop (j + 1)) (n := z - (j + 1)) (c := S[z]) HZ.out (by rw [List.getElem?_drop, show j + 1 + (z - (j + 1)) = z by omega]; exact Lib.data_getElem? S z hz) (by rw [hzc]; rfl)
                        rw [List.drop_drop, show j + 1 + (z - (j + 1)) = z by omega, ← hu.out] at h1
                        exact h1
                      have HUp := Lib.hid hup
                      clear hup
                      have hdz : S.data.toList.drop z = S[z] :: S.data.toList.drop (z + 1) := Lx.drop_cons (Lib.data_getElem? S z hz)
                      rw [hzc] at hdz
                      have HS0 := Lib.hid (starts_at S z ⟨#[125]⟩ true (by rw [hdz]; rfl))
                      have HArg := Lib.hid (arg_show (deep := deep) (mark := mark) HUp.out (r3 := S.data.toList.drop (z + 1)) (by rw [hdz]; exact pre_one _ _))
                      clear hdz
                      go_wp2_with fail
                      refine (HS0.out _).mono ?_
                      rintro e W2' ⟨rfl, rfl⟩
                      have y0 : W2'.cell? ⟨cb, 0, none⟩ = some (.int .i64 2) := block_cell hbk rfl
                      have y1 : W2'.cell? ⟨cb, 1, none⟩ = some (.string ⟨x.toArray⟩) := block_cell hbk rfl
                      have y2 : W2'.cell? ⟨cb, 2, none⟩ = some (.int .i64 0) := block_cell hbk rfl
                      have y3 : W2'.cell? ⟨cb, 3, none⟩ = some (.slice none 0 0) := block_cell hbk rfl
                      have HO := Lib.hid HAcx.out.2.2.2.2.1
                      have hsw : w.heap.size ≤ W2'.heap.size := HBx.out.size
                      have hlen : len acc1 ≤ 1000000 := by omega
                      have HNx := Lib.hid (HStep.out _ _ _ _ _ HArg.out (.inr rfl))
                      go_wp2_with (at_builtin; go_loud (refine wpList_append_lies _ rfl _ _ 22 rfl w.heap.size 35 i0 (.agg #[.int .i64 0, .string ⟨#[]⟩, .int .i64 0, .slice none 0 0]) 4 56 Tryz.underlying22 hi hz0 hz1 hz2 rfl (by decide) _ (len (acc1)) xs1 rfl (HO.out.alloc _) ⟨W2'.heap.size, 0, none⟩ 1 1 [.int .i64 2, .string ⟨x.toArray⟩, .int .i64 0, .slice none 0 0] rfl rfl (World.news_of_block (Go.heap_alloc_new _ _)) (fun x hx => by simp at hx; rcases hx with rfl | rfl | rfl | rfl <;> rfl) (by decide) (by unfold maxLen; omega) (by omega) (by simp; omega) _ rfl ?_; intro g cap w8 hown8 hgrow8 hat8 _))
                      all_goals
                        have HAc8 := HAcx.out.more (el := .node 2 x 0 .nil .nil) (M := W2'.heap.size) (by omega) (SVP.nil _ _) (by rw [app_len]; rfl) (fun _ _ h1 h2 => RdX.node h1 acc1 xs1 h2) hown8 hgrow8 hat8
                        have hB8 := below_grown (HBx.out.alloc HBx.out.size _) hgrow8 (fun k hk => (HO.out.lt k hk).1) (by simp; omega)
                        go_roundw
                        case rel =>
                          refine ⟨z + 1, _, _, by go_num, by omega, by omega, ?_, ⟨app_isN _ _ HI1.out.1 (by simp [isN, isN.isC]), ?_, HNx.out⟩, HAc8, hB8⟩
                          · rw [app_len]; simp only [len]; omega
                          · rw [wt_node]; have h1 := HI1.out.2; simp only [wt]; omega
                        case measure => simp [RowKit.intOf]; omega
                    · have n44 : ((S[z].toNat : Int) != 44) = true := by
                        rw [bne_iff_ne]; intro e; exact hz44 (UInt8.toNat_inj.1 (by simpa using Int.ofNat.inj e))
                      have n125 : ((S[z].toNat : Int) != 125) = true := by
                        rw [bne_iff_ne]; intro e; exact hz125 (UInt8.toNat_inj.1 (by simpa using Int.ofNat.inj e))
                      have HZ2 : Hid (∀ d ∈ (S.data.toList.drop (j + 1)).take (z + 1 - (j + 1)), (d == 44 || d == 125) = false) := by
                        intro d hd
                        rw [show z + 1 - (j + 1) = z - (j + 1) + 1 by omega, List.take_add_one, List.getElem?_drop, show j + 1 + (z - (j + 1)) = z by omega, Lib.data_getElem? S z hz] at hd
                        rcases List.mem_append.1 hd with hd | hd
                        · exact HZ.out d hd
                        · have : d = S[z] := by simpa using hd
                          subst this
                          rw [beq_false_of_ne hz44, beq_false_of_ne hz125]; rfl
                      clear hz44 hz125
                      go_wp2_with fail
                      go_round
                      case rel => exact ⟨z + 1, by go_num, by omega, by omega, HZ2⟩
                      case measure => simp [RowKit.intOf]; omega
                · have hzs : S.size ≤ z := by omega
                  have hxx := ext_part S (j + 1) z
                  obtain ⟨x, hxe⟩ : ∃ x, x = (S.data.toList.drop (j + 1)).take (z - (j + 1)) := ⟨_, rfl⟩
                  have hxl : x.length ≤ z - (j + 1) := by rw [hxe, List.length_take]; omega
                  rw [← hxe] at hxx
                  obtain ⟨cb, hcb⟩ : ∃ cb, cb = W1.heap.size := ⟨_, rfl⟩
                  have hbk := Go.heap_alloc_new W1 (.cells #[.int .i64 2, .string ⟨x.toArray⟩, .int .i64 0, .slice none 0 0] 35)
                  have HAcx := Lib.hid (HAc1.out.below ((Below.refl W1.heap.size W1).alloc (Nat.le_refl _) (.cells #[.int .i64 2, .string ⟨x.toArray⟩, .int .i64 0, .slice none 0 0] 35)))
                  have HBx := Lib.hid (HB1.out.alloc HB1.out.size (.cells #[.int .i64 2, .string ⟨x.toArray⟩, .int .i64 0, .slice none 0 0] 35))
                  have hsz : (W1.alloc (.cells #[.int .i64 2, .string ⟨x.toArray⟩, .int .i64 0, .slice none 0 0] 35)).heap.size = cb + 1 := by rw [hcb]; simp
                  have hwcb : w.heap.size ≤ cb := by have := HB1.out.size; omega
                  have hcb0 : 0 < cb := Nat.lt_of_lt_of_le H0.out hwcb
                  have hu := Lib.hid hxe
                  clear hxe
                  go_upto_region 20 with fail
                  rw [← hcb] at hbk HAcx ⊢
                  clear HAc1 HB1 hcb
                  generalize W1.alloc (.cells #[.int .i64 2, .string ⟨x.toArray⟩, .int .i64 0, .slice none 0 0] 35) = W2 at *
                  have hbk : W2.heap[cb]? = some (.cells #[.int .i64 2, .string ⟨x.toArray⟩, .int .i64 0, .slice none 0 0] 35) := hbk
                  have hcl : cb < W2.heap.size := by omega
                  clear hsz
                  have hze : S.data.toList.drop z = [] := List.drop_eq_nil_of_le (by rw [Hl.out]; omega)
                  have hup : upto (fun c => c == 44 || c == 125) (S.data.toList.drop (j + 1)) = none := upto_all (fun c hc => HZ.out c (by
                    rw [List.take_of_length_le (by rw [List.length_drop, Hl.out]; omega)]; exact hc))
                  have HNx := Lib.hid (HBad.out (arg_open hup))
                  clear hup
                  have HS0 := Lib.hid (starts_at S z ⟨#[125]⟩ false (by rw [hze]; rfl))
                  have HS1 := Lib.hid (starts_at S z ⟨#[44, 32, 110, 117, 109, 98, 101, 114, 125]⟩ false (by rw [hze]; rfl))
                  have HS2 := Lib.hid (starts_at S z ⟨#[44, 32, 115, 101, 108, 101, 99, 116, 44]⟩ false (by rw [hze]; rfl))
                  have HS3 := Lib.hid (starts_at S z ⟨#[44, 32, 112, 108, 117, 114, 97, 108, 44]⟩ false (by rw [hze]; rfl))
                  clear hze
                  go_wp2_with fail
                  refine (HS0.out _).mono ?_
                  rintro e W2' ⟨rfl, rfl⟩
                  go_wp2_with fail
                  refine (HS1.out _).mono ?_
                  rintro e W2' ⟨rfl, rfl⟩
                  go_wp2_with fail
                  refine (HS2.out _).mono ?_
                  rintro e W2' ⟨rfl, rfl⟩
                  go_wp2_with fail
                  refine (HS3.out _).mono ?_
                  rintro e W2' ⟨rfl, rfl⟩
                  go_wp2_with fail
                  go_ret2
                  exact ⟨.inr ⟨rfl, fun _ => HNx.out⟩, HBx.out⟩
theorem rnod_any (S : ByteArray) (hs : S.size ≤ 1000000) : ∀ n, NodesAtIH S n
  | 0 => fun _ _ _ _ h => absurd h (Nat.not_lt_zero _)
  | n + 1 => fun at' deep mark w hn ha hd h0 => rnod_step S n (rnod_any S hs n) hs at' deep mark w (by omega) ha hd h0

/-- MsgOf: the message of a text, and what is wrong: as Parse -/
def MsgOfOut (s : List UInt8) (w : World) (e : Ending) (w' : World) : Prop := (∃ v, e = .returned (.tuple #[v, .int .i64 (parseErr s)]) ∧ SV w' v (parseTree s)) ∧ Below w.heap.size w w'
theorem err_long {s : List UInt8} (h : 2000 < s.length) : parseErr s = 4 ∧ parseTree s = .nil := by
  unfold parseErr parseTree; rw [if_pos h, if_pos h]; exact ⟨rfl, rfl⟩
theorem err_some {s : List UInt8} {t : T} (h : ¬ 2000 < s.length) (hp : parse s = some t) : parseErr s = 0 ∧ parseTree s = t := by
  unfold parseErr parseTree; rw [if_neg h, if_neg h, hp]; exact ⟨rfl, rfl⟩
theorem err_none {s : List UInt8} (h : ¬ 2000 < s.length) (hp : parse s = none) : parseErr s = 3 ∧ parseTree s = .nil := by
  unfold parseErr parseTree; rw [if_neg h, if_neg h, hp]; exact ⟨rfl, rfl⟩
set_option maxHeartbeats 1000000 in
set_option maxRecDepth 100000 in
theorem msgOf_any (S : ByteArray) (w : World) (h0 : 0 < w.heap.size) : Calls Tryz.prog 17 #[.string S] w (MsgOfOut S.data.toList w) := by
  have Hl := Lib.hid (Lib.size_eq S).symm
  by_cases hl : 2000 < S.size
  · have HE := Lib.hid (err_long (s := S.data.toList) (by rw [Hl.out]; exact hl))
    go_enter Tryz.func17, Tryz.ntmps17
    go_wp2_with fail
    go_ret2
    exact ⟨⟨_, by rw [HE.out.1] <;> rfl, by rw [HE.out.2]; exact .inl ⟨⟨_, rfl⟩, rfl⟩⟩, Below.refl _ _⟩
  · have hl2 : ¬ 2000 < S.data.toList.length := by rw [Hl.out]; exact hl
    have HL2 := Lib.hid hl2
    have HN := Lib.hid (show Calls Tryz.prog 34 #[.string S, .int .i64 0, .bool false, .int .i64 0] w (NodesAtOut S 0 0 false w) from rnod_any S (by omega) (S.size + 1) 0 0 false w (by omega) (by omega) (by omega) h0)
    clear hl2
    go_enter Tryz.func17, Tryz.ntmps17
    go_wp2_with fail
    refine HN.out.mono ?_
    rintro e w1 ⟨h, hb1⟩
    have HB1 := Lib.hid hb1
    clear HN hb1
    rcases h with ⟨v, k, t, rfl, _, _, hk2, _, hv, hnt, hwt, hN⟩ | ⟨rfl, hN⟩
    · obtain ⟨va, vn, vc, rfl⟩ := hv.form
      have HV := Lib.hid hv
      by_cases hk : k = S.size
      · subst hk
        have hd0 : S.data.toList.drop S.size = [] := List.drop_eq_nil_of_le (by rw [Hl.out]; exact Nat.le_refl _)
        rw [hd0, List.drop_zero] at hN
        have hp := parse_gate hN
        have hF := mfault_any t (.slice va vn vc) w1 hnt (by omega) hv.sv
        by_cases hf : fault t = 0
        · rw [if_pos hf] at hp
          have HE := Lib.hid (err_some HL2.out hp)
          rw [hf] at hF
          have HF := Lib.hid hF
          clear hF hp hN hd0 hnt hwt hv hf
          go_wp2_with fail
          refine HF.out.mono ?_
          rintro e w2 ⟨rfl, hb2⟩
          have HB2 := Lib.hid (HB1.out.trans (hb2.mono HB1.out.size)); have HV2 := Lib.hid (HV.out.sv.below hb2)
          clear hb2
          go_wp2_with fail
          go_ret2
          exact ⟨⟨_, by rw [HE.out.1] <;> rfl, by rw [HE.out.2]; exact HV2.out⟩, HB2.out⟩
        · rw [if_neg hf] at hp
          have HE := Lib.hid (err_none HL2.out hp)
          have hfb : (fault t != 0) = true := by simpa using hf
          generalize fault t = q at hF hfb
          have HF := Lib.hid hF
          clear hF hp hN hd0 hnt hwt hv hf
          go_wp2_with fail
          refine HF.out.mono ?_
          rintro e w2 ⟨rfl, hb2⟩
          have HB2 := Lib.hid (HB1.out.trans (hb2.mono HB1.out.size))
          clear hb2
          go_wp2_with fail
          go_ret2
          exact ⟨⟨_, by rw [HE.out.1] <;> rfl, by rw [HE.out.2]; exact .inl ⟨⟨_, rfl⟩, rfl⟩⟩, HB2.out⟩
      · have hkl : k < S.data.toList.length := by rw [Hl.out]; omega
        rw [List.drop_zero, List.drop_eq_getElem_cons hkl] at hN
        have HE := Lib.hid (err_none HL2.out (parse_part hN))
        have hkb : ((k : Int) != (S.size : Int)) = true := by rw [bne_iff_ne]; omega
        clear hN hnt hwt hv hkl
        go_wp2_with fail
        go_ret2
        exact ⟨⟨_, by rw [HE.out.1] <;> rfl, by rw [HE.out.2]; exact .inl ⟨⟨_, rfl⟩, rfl⟩⟩, HB1.out⟩
    · have hN0 := hN (by omega)
      rw [List.drop_zero] at hN0
      have HE := Lib.hid (err_none HL2.out (parse_none' hN0))
      have hkb : ((-1 : Int) != (S.size : Int)) = true := by rw [bne_iff_ne]; omega
      clear hN hN0
      go_wp2_with fail
      go_ret2
      exact ⟨⟨_, by rw [HE.out.1] <;> rfl, by rw [HE.out.2]; exact .inl ⟨⟨_, rfl⟩, rfl⟩⟩, HB1.out⟩
end Go.Proofs.YtgkphpjnfigjiaaGreatDoor
