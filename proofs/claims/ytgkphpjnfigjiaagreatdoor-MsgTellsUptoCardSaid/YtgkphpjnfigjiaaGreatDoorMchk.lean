/-
  msg.Check: what is wrong with a message.
-/
import Derived.Test.YtgkphpjnfigjiaaGreatDoorChk
namespace Go.Proofs.YtgkphpjnfigjiaaGreatDoor
open Go.RowKit Ms

set_option maxHeartbeats 1000000 in
set_option maxRecDepth 100000 in
theorem mcheck_any (t : T) (v : Value) (w : World) (hn : isN t = true) (hw : wt t ≤ 2000000) (hm : MW w) (hs : SV w v t) :
    Calls Tryz.prog 15 #[v] w fun e w' => e = .returned (errVal (fault t)) ∧ Below w.heap.size w w' := by
  have h1 := fun W (hB : Below w.heap.size w W) => size_any (sz t) t v 0 W (Nat.le_refl _) hn hw (by omega) (SV.below hs hB)
  have h2 := fun W (hB : Below w.heap.size w W) => check_any (sz t) t v false W (Nat.le_refl _) hn hw (hm.below hB) (SV.below hs hB)
  have hv5 : ∃ a n' c', v = .slice a n' c' := by
    rcases hs with ⟨⟨_, h⟩, _⟩ | ⟨b', o', n', c', h, _⟩
    · exact ⟨_, _, _, h⟩
    · exact ⟨_, _, _, h⟩
  obtain ⟨a3, n3, c3', rfl⟩ := hv5
  have H1 := Lib.hid h1; have H2 := Lib.hid h2
  clear h1 h2 hs hn hw hm
  go_enter Tryz.func15, Tryz.ntmps15
  go_wp2_with fail
  refine (H1.out _ (Below.refl _ _)).mono ?_
  rintro e w2 ⟨⟨n, rfl, hn, _⟩, hb⟩
  have HB := Lib.hid hb; clear hb hn
  cases hbg : big t 0 with
  | true =>
    have hf : fault t = 4 := by unfold fault; rw [if_pos hbg]
    have HF := Lib.hid hf; clear hf hbg
    go_wp2_with fail
    go_ret
    exact ⟨by rw [HF.out] <;> rfl, HB.out⟩
  | false =>
    have hf : fault t = flt t false false 0 [] := by unfold fault; rw [if_neg (by rw [hbg]; decide)]
    have HF := Lib.hid hf; clear hf hbg
    go_wp2_with fail
    refine (H2.out _ HB.out).mono ?_
    rintro e w3 ⟨rfl, hb3⟩
    have HB3 := Lib.hid (HB.out.trans (hb3.mono HB.out.size))
    clear hb3
    go_wp2_with fail
    go_ret
    exact ⟨by rw [HF.out] <;> rfl, HB3.out⟩
end Go.Proofs.YtgkphpjnfigjiaaGreatDoor
