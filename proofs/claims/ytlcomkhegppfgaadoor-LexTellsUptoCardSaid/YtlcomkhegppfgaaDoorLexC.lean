/-
  The walk of lex.Bare: it computes the plain law's bare.
-/
import Derived.Test.YtlcomkhegppfgaaDoorLexB
import Derived.Deep.RegionWith
namespace Go.Proofs.YtlcomkhegppfgaaDoor
open Go.Shelf Go.RowKit Go.Lib

/-- what lex.Bare hands back -/
def bareOut : Option (List UInt8 × Nat) → Value
  | none => .tuple #[.string ⟨#[]⟩, .int .i64 0, .iface 25 (.int .i64 3)]
  | some (t, n) => .tuple #[.string ⟨t.toArray⟩, .int .i64 n, .nilIface]
theorem builder_drewN {T e : TypeId} {B b : Nat} {bs : List Value} {w : World} (h : Lib.IsBuilderF T e B b bs w) (n : Nat) : Lib.IsBuilderF T e B b bs (w.drewN n) :=
  builder_below h (below0N _ _ _)

set_option maxHeartbeats 1000000 in
set_option maxRecDepth 100000 in
theorem bare_any (s : ByteArray) (m : Bool) (w : World) (hs : s.size ≤ 1000000000) :
    Calls Tryd.prog 6 #[.string s, .bool m] w fun e w' => e = .returned (bareOut (Lx.bare m s.data.toList)) ∧ Below w.heap.size w w' := by
  have hmf : ∀ (fn : Fn) (first cap : Array Value) (w : World), (Instr.makeFunc fn first cap).run Tryd.prog w = .ok (.func fn first cap) w := fun _ _ _ _ => rfl
  go_enter Tryd.func6, Tryd.ntmps6
  go_wp2_with fail
  go_loopw [9] (fun v wr => ∃ (i : Nat) (acc : List UInt8), v = .int .i64 i ∧ i ≤ s.size ∧ acc.length ≤ i ∧ Hid (Lx.add acc i (Lx.az m false (s.data.toList.drop i)) = Lx.bare m s.data.toList) ∧ Lib.IsBuilderF 38 5 (w.heap.size + 1 + 1) (w.heap.size + 1 + 1) (Lib.byteCells acc) wr ∧ Below w.heap.size w wr ∧ w.heap.size + 1 + 1 < wr.heap.size ∧ wr.cell? ⟨w.heap.size, 0, none⟩ = some (.string s) ∧ wr.cell? ⟨w.heap.size + 1, 0, none⟩ = some (.bool m)) (fun v _ => s.size - (RowKit.intOf v).toNat)
  case atStart =>
    refine ⟨0, [], rfl, by omega, by simp, ?_, ?_, ?_, ?_, ?_, ?_⟩
    · show Lx.add [] 0 _ = _
      rw [Lx.add_nil]; rfl
    · have := Lib.IsBuilderF.of (Lib.fresh_isBuilder 38 5 ((w.alloc (.cells #[.string s] 9)).alloc (.cells #[.bool m] 4)))
      simp only [World.size_alloc] at this
      exact this
    · exact (((Below.refl _ _).alloc (Nat.le_refl _) _).alloc (by simp) _).alloc (by simp; omega) _
    · simp
    · rw [World.cell?_alloc_lt _ _ _ (by simp; omega), World.cell?_alloc_lt _ _ _ (by simp)]; simp
    · rw [World.cell?_alloc_lt _ _ _ (by simp)]; simp
  case round =>
    obtain ⟨i, acc, rfl, hi2, ha, HQ, hI, hbw, hsz, hc1, hc2⟩ := hrel
    have hl : s.data.toList.length = s.size := (Lib.size_eq s).symm
    have Hl := Lib.hid hl; clear hl
    by_cases hi : i < s.size
    · have hxl := Lib.data_getElem? s i hi
      cases hsg : Lx.sg m s[i]
      · have hpc : ∀ W, Calls Tryd.prog 16 #[.string (s.extract i s.size), .string ⟨#[39, 39]⟩] W fun e w' => e = .returned (.bool (Lib.hasPrefix (s.data.toList.drop i) [39, 39])) ∧ w' = W := fun W =>
          (Tryd.strings_HasPrefix _ _ W).mono fun _ _ h => ⟨by rw [h.1, Lib.extract_to_end], h.2⟩
        cases hpp : Lib.hasPrefix (s.data.toList.drop i) [39, 39]
        · rw [hpp] at hpc
          have HPC := Lib.hid hpc; clear hpc
          have hnp : s[i] = 39 → s.data.toList[i + 1]? ≠ some 39 := fun h39 h => by
            rw [h39] at hxl
            rw [hasPrefix_two.2 ⟨hxl, h⟩] at hpp; cases hpp
          have Hnp := Lib.hid hnp; have Hxl := Lib.hid hxl; have Hsg := Lib.hid hsg
          clear hpp hnp hxl hsg
          by_cases hx : s[i] = 39
          · have hx1 : ((s[i].toNat : Int) == 39) = true := by rw [hx]; rfl
            have Hx := Lib.hid hx; clear hx
            by_cases hi3 : i + 1 < s.size
            · cases hsg2 : Lx.sg m s[i + 1]
              · have hst := Lx.az_at_plain (m := m) Hxl.out Hsg.out Hnp.out (fun _ d hd => by
                  rw [Lib.data_getElem? s (i + 1) hi3] at hd
                  rw [← Option.some.inj hd]; exact hsg2)
                have Hst := Lib.hid hst; have Hsg2 := Lib.hid hsg2; clear hst hsg2
                go_wp2_with fail
                refine (sign_in s m i _ _ _ hi hc1 hc2).mono ?_
                rintro e w1 ⟨rfl, n, rfl⟩
                rw [Hsg.out]
                have hc1' : (wr.drewN n).cell? ⟨w.heap.size, 0, none⟩ = some (.string s) := by simpa using hc1
                have hc2' : (wr.drewN n).cell? ⟨w.heap.size + 1, 0, none⟩ = some (.bool m) := by simpa using hc2
                go_wp2_with fail
                refine (HPC.out _).mono ?_
                rintro e w2 ⟨rfl, rfl⟩
                go_wp2_with fail
                refine (sign_in s m (i + 1) _ _ _ hi3 hc1' hc2').mono ?_
                rintro e w4 ⟨rfl, n2, rfl⟩
                rw [Hsg2.out]
                have hc1'' : (wr.drewN (n + n2)).cell? ⟨w.heap.size, 0, none⟩ = some (.string s) := by simpa using hc1
                go_wp2_with fail
                refine (Tryd.writeByte (w.heap.size + 1 + 1) (w.heap.size + 1 + 1) _ (s[i].toNat : Int) _ (builder_drewN hI _) (by rw [Lib.byteCells_length]; omega) (Nat.le_of_lt hsz)).mono ?_
                rintro e w3 ⟨rfl, h3, hb3, _⟩
                have Hb3 := Lib.hid hb3; have H3 := Lib.hid h3; clear hb3 h3
                go_wp2_with fail
                go_roundw
                case rel =>
                  refine ⟨i + 1, acc ++ [s[i]], by go_num, by omega, by simp; omega, ?_, ?_, (belowN hbw _).trans (Hb3.out.mono (by omega)), Nat.lt_of_lt_of_le hsz Hb3.out.size, ?_, ?_⟩
                  · have h := HQ.out
                    rw [Hst.out, Lx.add_add] at h; exact h
                  · rw [Lib.byteCells_append]; exact Or.inr H3.out
                  · rw [Hb3.out.cell (p := ⟨_, 0, none⟩) (by simp; omega)]; exact hc1
                  · rw [Hb3.out.cell (p := ⟨_, 0, none⟩) (by simp)]; exact hc2
                case measure => simp [RowKit.intOf]; omega
              · have hst := Lx.az_at_quote (m := m) (l := s.data.toList) (i := i) (by rw [Hxl.out, Hx.out]) (Lib.data_getElem? s (i + 1) hi3) hsg2
                have Hst := Lib.hid hst; have Hsg2 := Lib.hid hsg2; clear hst hsg2
                go_wp2_with fail
                refine (sign_in s m i _ _ _ hi hc1 hc2).mono ?_
                rintro e w1 ⟨rfl, n, rfl⟩
                rw [Hsg.out]
                have hc1' : (wr.drewN n).cell? ⟨w.heap.size, 0, none⟩ = some (.string s) := by simpa using hc1
                have hc2' : (wr.drewN n).cell? ⟨w.heap.size + 1, 0, none⟩ = some (.bool m) := by simpa using hc2
                go_wp2_with fail
                refine (HPC.out _).mono ?_
                rintro e w2 ⟨rfl, rfl⟩
                go_wp2_with fail
                refine (sign_in s m (i + 1) _ _ _ hi3 hc1' hc2').mono ?_
                rintro e w4 ⟨rfl, n2, rfl⟩
                rw [Hsg2.out]
                have hc1'' : (wr.drewN (n + n2)).cell? ⟨w.heap.size, 0, none⟩ = some (.string s) := by simpa using hc1
                go_wp2_with fail
                refine (quoted_any s (i + 1) _ hs (by omega)).mono ?_
                rintro e w5 ⟨rfl, hb5⟩
                have Hb5 := Lib.hid hb5; clear hb5
                cases hiq : Lx.iq (s.data.toList.drop (i + 1)) with
                | none =>
                  have Hiq := Lib.hid hiq; clear hiq
                  unfold quotedOut
                  go_wp2_with fail
                  go_ret3
                  refine ⟨?_, (belowN hbw _).trans (Hb5.out.mono (by simp; omega))⟩
                  have h := HQ.out
                  rw [Hst.out, Hiq.out] at h
                  rw [← h]; rfl
                | some p =>
                  obtain ⟨t, k⟩ := p
                  have hlen := Lx.iq_len _ _ (Nat.le_refl _) t k hiq
                  rw [List.length_drop, Hl.out] at hlen
                  have Hiq := Lib.hid hiq; clear hiq
                  unfold quotedOut
                  go_wp2_with fail
                  have hI5 : Lib.IsBuilderF 38 5 (w.heap.size + 1 + 1) (w.heap.size + 1 + 1) (Lib.byteCells acc) w5 := builder_below (builder_drewN hI _) Hb5.out
                  have hsz5 : w.heap.size + 1 + 1 < w5.heap.size := Nat.lt_of_lt_of_le hsz Hb5.out.size
                  have hbl : (Lib.byteCells acc).length + (⟨t.toArray⟩ : ByteArray).size ≤ 140737488355328 := by
                    have e : (⟨t.toArray⟩ : ByteArray).size = t.length := by simp [ByteArray.size]
                    rw [Lib.byteCells_length, e]; omega
                  refine (Tryd.writeString (w.heap.size + 1 + 1) (w.heap.size + 1 + 1) _ ⟨t.toArray⟩ _ hI5 hbl (Nat.le_of_lt hsz5)).mono ?_
                  rintro e w6 ⟨rfl, h6, hb6, _⟩
                  have Hb6 := Lib.hid hb6; have H6 := Lib.hid h6; clear hb6 h6
                  go_wp2_with fail
                  go_roundw
                  case rel =>
                    refine ⟨i + 1 + k, acc ++ t, by go_num, by omega, by simp; omega, ?_, ?_, ((belowN hbw _).trans (Hb5.out.mono (by simp; omega))).trans (Hb6.out.mono (by omega)), Nat.lt_of_lt_of_le hsz5 Hb6.out.size, ?_, ?_⟩
                    · have h := HQ.out
                      rw [Hst.out, Hiq.out] at h
                      simp only [Lx.add_add] at h
                      rw [← Nat.add_assoc] at h; exact h
                    · rw [Lib.byteCells_append]; exact Or.inr H6.out
                    · rw [Hb6.out.cell (p := ⟨_, 0, none⟩) (by simp; omega), Hb5.out.cell (p := ⟨_, 0, none⟩) (by simp; omega)]; exact hc1''
                    · rw [Hb6.out.cell (p := ⟨_, 0, none⟩) (by simp), Hb5.out.cell (p := ⟨_, 0, none⟩) (by simp; omega)]; simpa using hc2
                  case measure => simp [RowKit.intOf]; omega
            · have hst := Lx.az_at_plain (m := m) Hxl.out Hsg.out Hnp.out (fun _ d hd => by
                have := (List.getElem?_eq_some_iff.1 hd).1
                rw [Hl.out] at this; omega)
              have Hst := Lib.hid hst; clear hst
              go_wp2_with fail
              refine (sign_in s m i _ _ _ hi hc1 hc2).mono ?_
              rintro e w1 ⟨rfl, n, rfl⟩
              rw [Hsg.out]
              have hc1' : (wr.drewN n).cell? ⟨w.heap.size, 0, none⟩ = some (.string s) := by simpa using hc1
              have hc2' : (wr.drewN n).cell? ⟨w.heap.size + 1, 0, none⟩ = some (.bool m) := by simpa using hc2
              go_wp2_with fail
              refine (HPC.out _).mono ?_
              rintro e w2 ⟨rfl, rfl⟩
              go_wp2_with fail
              refine (sign_out s (i + 1) _ _ _ hi3 hc1').mono ?_
              rintro e w4 ⟨rfl, n2, rfl⟩
              have hc1'' : (wr.drewN (n + n2)).cell? ⟨w.heap.size, 0, none⟩ = some (.string s) := by simpa using hc1
              go_wp2_with fail
              refine (Tryd.writeByte (w.heap.size + 1 + 1) (w.heap.size + 1 + 1) _ (s[i].toNat : Int) _ (builder_drewN hI _) (by rw [Lib.byteCells_length]; omega) (Nat.le_of_lt hsz)).mono ?_
              rintro e w3 ⟨rfl, h3, hb3, _⟩
              have Hb3 := Lib.hid hb3; have H3 := Lib.hid h3; clear hb3 h3
              go_wp2_with fail
              go_roundw
              case rel =>
                refine ⟨i + 1, acc ++ [s[i]], by go_num, by omega, by simp; omega, ?_, ?_, (belowN hbw _).trans (Hb3.out.mono (by omega)), Nat.lt_of_lt_of_le hsz Hb3.out.size, ?_, ?_⟩
                · have h := HQ.out
                  rw [Hst.out, Lx.add_add] at h; exact h
                · rw [Lib.byteCells_append]; exact Or.inr H3.out
                · rw [Hb3.out.cell (p := ⟨_, 0, none⟩) (by simp; omega)]; exact hc1
                · rw [Hb3.out.cell (p := ⟨_, 0, none⟩) (by simp)]; exact hc2
              case measure => simp [RowKit.intOf]; omega
          · have hx1 : ((s[i].toNat : Int) == 39) = false := by
              rw [beq_eq_false_iff_ne]
              intro e
              exact hx (UInt8.toNat_inj.1 (by simpa using (Int.ofNat.inj e)))
            have hst := Lx.az_at_plain (m := m) Hxl.out Hsg.out (fun h => absurd h hx) (fun h => absurd h hx)
            have Hst := Lib.hid hst; clear hst hx
            go_wp2_with fail
            refine (sign_in s m i _ _ _ hi hc1 hc2).mono ?_
            rintro e w1 ⟨rfl, n, rfl⟩
            rw [Hsg.out]
            have hc1' : (wr.drewN n).cell? ⟨w.heap.size, 0, none⟩ = some (.string s) := by simpa using hc1
            go_wp2_with fail
            refine (HPC.out _).mono ?_
            rintro e w2 ⟨rfl, rfl⟩
            go_wp2_with fail
            refine (Tryd.writeByte (w.heap.size + 1 + 1) (w.heap.size + 1 + 1) _ (s[i].toNat : Int) _ (builder_drewN hI _) (by rw [Lib.byteCells_length]; omega) (Nat.le_of_lt hsz)).mono ?_
            rintro e w3 ⟨rfl, h3, hb3, _⟩
            have Hb3 := Lib.hid hb3; have H3 := Lib.hid h3; clear hb3 h3
            go_wp2_with fail
            go_roundw
            case rel =>
              refine ⟨i + 1, acc ++ [s[i]], by go_num, by omega, by simp; omega, ?_, ?_, (belowN hbw _).trans (Hb3.out.mono (by omega)), Nat.lt_of_lt_of_le hsz Hb3.out.size, ?_, ?_⟩
              · have h := HQ.out
                rw [Hst.out, Lx.add_add] at h; exact h
              · rw [Lib.byteCells_append]; exact Or.inr H3.out
              · rw [Hb3.out.cell (p := ⟨_, 0, none⟩) (by simp; omega)]; exact hc1
              · rw [Hb3.out.cell (p := ⟨_, 0, none⟩) (by simp)]; exact hc2
            case measure => simp [RowKit.intOf]; omega
        · rw [hpp] at hpc
          have HPC := Lib.hid hpc; clear hpc
          have h2 := hasPrefix_two.1 hpp
          have hi3 : i + 1 < s.size := by
            have := (List.getElem?_eq_some_iff.1 h2.2).1
            rw [← Lib.size_eq] at this; exact this
          have hst := Lx.az_at_pair m h2.1 h2.2
          have Hst := Lib.hid hst; have Hsg := Lib.hid hsg; clear hst hxl hpp h2 hsg
          go_wp2_with fail
          refine (sign_in s m i _ _ _ hi hc1 hc2).mono ?_
          rintro e w1 ⟨rfl, n, rfl⟩
          rw [Hsg.out]
          have hc1' : (wr.drewN n).cell? ⟨w.heap.size, 0, none⟩ = some (.string s) := by simpa using hc1
          go_wp2_with fail
          refine (HPC.out _).mono ?_
          rintro e w2 ⟨rfl, rfl⟩
          go_wp2_with fail
          refine (Tryd.writeByte (w.heap.size + 1 + 1) (w.heap.size + 1 + 1) _ 39 _ (builder_drewN hI _) (by rw [Lib.byteCells_length]; omega) (Nat.le_of_lt hsz)).mono ?_
          rintro e w3 ⟨rfl, h3, hb3, _⟩
          have Hb3 := Lib.hid hb3; have H3 := Lib.hid h3; clear hb3 h3
          go_wp2_with fail
          go_roundw
          case rel =>
            refine ⟨i + 2, acc ++ [39], by go_num, by omega, by simp; omega, ?_, ?_, (belowN hbw _).trans (Hb3.out.mono (by omega)), Nat.lt_of_lt_of_le hsz Hb3.out.size, ?_, ?_⟩
            · have h := HQ.out
              rw [Hst.out, Lx.add_add] at h; exact h
            · rw [Lib.byteCells_append]; exact Or.inr H3.out
            · rw [Hb3.out.cell (p := ⟨_, 0, none⟩) (by simp; omega)]; exact hc1
            · rw [Hb3.out.cell (p := ⟨_, 0, none⟩) (by simp)]; exact hc2
          case measure => simp [RowKit.intOf]; omega
      · have hst := Lx.az_at_sign hxl hsg
        have Hst := Lib.hid hst; clear hst hxl
        go_wp2_with fail
        refine (sign_in s m i _ _ _ hi hc1 hc2).mono ?_
        rintro e w1 ⟨rfl, n, rfl⟩
        rw [hsg]
        go_wp2_with fail
        refine (Tryd.Builder_String_any_k (w.heap.size + 1 + 1) (w.heap.size + 1 + 1) acc _ (builder_drewN hI n) (Nat.le_of_lt hsz)).mono ?_
        rintro e w2 ⟨rfl, _, hb2, _⟩
        have Hb2 := Lib.hid hb2; clear hb2
        go_wp2_with fail
        go_ret3
        refine ⟨?_, (belowN hbw n).trans (Hb2.out.mono (by omega))⟩
        have h := HQ.out
        rw [Hst.out] at h
        rw [← h]
        show _ = Ending.returned (.tuple #[.string ⟨(acc ++ []).toArray⟩, .int .i64 ((i + 0 : Nat) : Int), .nilIface])
        rw [List.append_nil]; rfl
    · have hst := Lx.az_at_end m (l := s.data.toList) (i := i) (by rw [Hl.out]; omega)
      have Hst := Lib.hid hst; clear hst
      have hId : Lib.IsBuilderF 38 5 (w.heap.size + 1 + 1) (w.heap.size + 1 + 1) (Lib.byteCells acc) wr.drew := builder_below hI ((Below.refl _ _).drew)
      clear hI
      go_wp2_with fail
      go_region_with (go_at_call 15; refine (Tryd.Builder_String_any_k (w.heap.size + 1 + 1) (w.heap.size + 1 + 1) acc _ hId (Nat.le_of_lt hsz)).mono ?_; rintro e w2 ⟨rfl, _, hb2, _⟩; have hcx : w2.cell? ⟨w.heap.size, 0, none⟩ = some (.string s) := by rw [hb2.cell (p := ⟨_, 0, none⟩) (by simp; omega)]; exact hc1)
      all_goals
        go_wp2_with fail
        go_ret3
        refine ⟨?_, hbw.trans (((Below.refl _ wr).drew).trans (hb2.mono (by omega)))⟩
        have h := HQ.out
        rw [Hst.out] at h
        rw [← h]
        show _ = Ending.returned (.tuple #[.string ⟨(acc ++ []).toArray⟩, .int .i64 ((i + 0 : Nat) : Int), .nilIface])
        rw [List.append_nil, show i + 0 = s.size from by omega]; rfl
end Go.Proofs.YtlcomkhegppfgaaDoor
