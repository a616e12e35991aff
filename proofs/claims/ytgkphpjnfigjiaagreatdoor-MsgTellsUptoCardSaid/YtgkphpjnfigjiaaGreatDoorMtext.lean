/-
  msg.node, msg.text, msg.Text: the text of a right message.
-/
import Derived.Test.YtgkphpjnfigjiaaGreatDoorNodP
import Derived.Test.YtgkphpjnfigjiaaGreatDoorPparse
namespace Go.Proofs.YtgkphpjnfigjiaaGreatDoor
open Go.RowKit Ms

theorem cases_full {k : Int} {cs : T} {mark : Bool} (hk : k ≠ 0) (h : flt cs mark false k [] = 0) : cs ≠ .nil := by
  rintro rfl
  rw [flt_nilC hk] at h
  simp at h
theorem node_of (N : Nat) (IH : N ≠ 0 → TextIH N) : NodeIH N := by
  intro k f x v cs mark pw w hz hc hw hm hs hf
  obtain ⟨h1, h2, h3, h4⟩ := Ms.flt_node hf
  have hxl : x.length ≤ 2000000 := by simp only [wt] at hw; omega
  have hcw : wt cs ≤ 2000000 := by simp only [wt] at hw; omega
  rcases fine_kind h1 with rfl | rfl | rfl | rfl | rfl | ⟨rfl, _⟩
  · exact node_simple 1 f x v cs mark w (.inl rfl) hxl hm
  · exact node_simple 2 f x v cs mark w (.inr (.inl rfl)) hxl hm
  · exact node_simple 3 f x v cs mark w (.inr (.inr (.inl rfl))) hxl hm
  · have hf4 : flt cs true false 4 [] = 0 := by simpa using h3 rfl
    have hne := cases_full (by decide) hf4
    have hN : N ≠ 0 := by
      rintro rfl
      cases cs with
      | nil => exact hne rfl
      | node _ _ _ _ _ => simp [sz] at hz
      | case _ _ _ => simp [sz] at hz
    rcases hs with ⟨_, rfl⟩ | ⟨b, o, n, c, rfl, _, hr⟩
    · exact absurd rfl hne
    · by_cases h0 : f = 0
      · subst h0
        exact node_plural0 N (IH hN) x b o n c cs mark w hxl hz hc hcw hm hr hf4
      · obtain ⟨d, rfl⟩ : ∃ d : Nat, f = d := ⟨f.toNat, by omega⟩
        exact node_plural1 N (IH hN) d x b o n c cs mark w hxl hz hc hcw hm hr hf4 (by omega) (by omega)
  · have hf5 : flt cs mark false 5 [] = 0 := by simpa using h3 rfl
    have hne := cases_full (by decide) hf5
    have hN : N ≠ 0 := by
      rintro rfl
      cases cs with
      | nil => exact hne rfl
      | node _ _ _ _ _ => simp [sz] at hz
      | case _ _ _ => simp [sz] at hz
    rcases hs with ⟨_, rfl⟩ | ⟨b, o, n, c, rfl, _, hr⟩
    · exact absurd rfl hne
    · exact node_select N (IH hN) f x b o n c cs mark w hxl hz hc hcw hm hr hf5
  · exact node_simple 6 f x v cs mark w (.inr (.inr (.inr rfl))) hxl hm
theorem text_any : ∀ N : Nat, TextIH N
  | 0 => fun t v mark w hz hn hw hm hs hf => text_of 0 (node_of 0 (fun h => absurd rfl h)) t v mark w (by omega) hn hw hm hs hf
  | N + 1 => fun t v mark w hz hn hw hm hs hf => text_of N (node_of N (fun _ => text_any N)) t v mark w hz hn hw hm hs hf

set_option maxHeartbeats 1000000 in
set_option maxRecDepth 100000 in
/-- msg.Text -/
theorem mtext_any (t : T) (v : Value) (w : World) (hn : isN t = true) (hw : wt t ≤ 2000000) (hm : MW w) (hM : MaxAt w) (hs : SV w v t) :
    Calls Tryz.prog 10 #[v] w fun e w' => e = .returned (.tuple #[.string ⟨(if fault t = 0 then txt t false else []).toArray⟩, errVal (fault t)]) ∧ Below w.heap.size w w' := by
  have hv5 : ∃ a n' c', v = .slice a n' c' := by
    rcases hs with ⟨⟨_, h⟩, _⟩ | ⟨b', o', n', c', h, _⟩
    · exact ⟨_, _, _, h⟩
    · exact ⟨_, _, _, h⟩
  obtain ⟨a3, n3, c3', rfl⟩ := hv5
  have h1 := mcheck_any t (.slice a3 n3 c3') w hn hw hm hs
  by_cases hf : fault t = 0
  · have h2 := fun W (hB : Below w.heap.size w W) => text_any (sz t) t (.slice a3 n3 c3') false W (Nat.le_refl _) hn hw (MaxAt.below hM rfl hB) (SV.below hs hB) (fault_0 hf).1
    have H2 := Lib.hid h2
    have hv : (if fault t = 0 then txt t false else []) = txt t false := if_pos hf
    rw [hf, errVal_0] at h1
    rw [hv, hf, errVal_0]
    have H1 := Lib.hid h1
    clear h1 h2 hf hs hn hw hm hM hv
    go_enter Tryz.func10, Tryz.ntmps10
    go_wp2_with fail
    refine H1.out.mono ?_
    rintro e w2 ⟨rfl, hb⟩
    have HB := Lib.hid hb; clear hb
    go_wp2_with fail
    refine (H2.out _ HB.out).mono ?_
    rintro e w3 ⟨rfl, hb3⟩
    have HB3 := Lib.hid (HB.out.trans (hb3.mono HB.out.size)); clear hb3
    go_wp2_with fail
    go_ret2
    exact ⟨rfl, HB3.out⟩
  · have hv : (if fault t = 0 then txt t false else []) = [] := if_neg hf
    rw [errVal_no hf] at h1
    rw [hv, errVal_no hf]
    generalize fault t = q at h1
    have H1 := Lib.hid h1
    clear h1 hs hn hw hm hM hv hf
    go_enter Tryz.func10, Tryz.ntmps10
    go_wp2_with fail
    refine H1.out.mono ?_
    rintro e w2 ⟨rfl, hb⟩
    have HB := Lib.hid hb; clear hb
    go_wp2_with fail
    go_ret2
    exact ⟨rfl, HB.out⟩
end Go.Proofs.YtgkphpjnfigjiaaGreatDoor
