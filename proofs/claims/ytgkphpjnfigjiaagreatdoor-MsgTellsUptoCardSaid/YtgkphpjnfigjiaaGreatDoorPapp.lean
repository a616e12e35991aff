/- Plain laws of messages one behind the other, and of one case more. -/
import Derived.Test.YtgkphpjnfigjiaaGreatDoorRd
namespace Go.Proofs.YtgkphpjnfigjiaaGreatDoor
open Ms

/-- one chain behind another -/
def app : T → T → T
  | .nil, u => u
  | .node k x f cs nx, u => .node k x f cs (app nx u)
  | .case key body nx, u => .case key body (app nx u)
theorem app_isN : ∀ (t u : T), isN t = true → isN u = true → isN (app t u) = true
  | .nil, _, _, h => h
  | .node k x f cs nx, u, h1, h2 => by
    have h : isN.isC cs = true ∧ isN nx = true := by simpa [isN] using h1
    simp only [app, isN, h.1, app_isN nx u h.2 h2, Bool.and_true]
  | .case _ _ _, _, h, _ => by cases h
theorem app_wt : ∀ (t u : T), wt (app t u) + 1 = wt t + wt u
  | .nil, _ => by simp [app, wt]; omega
  | .node k x f cs nx, u => by have := app_wt nx u; simp only [app, wt]; omega
  | .case _ _ nx, u => by have := app_wt nx u; simp only [app, wt]; omega
theorem app_txt : ∀ (t u : T) (mark : Bool), txt (app t u) mark = txt t mark ++ txt u mark
  | .nil, _, _ => by simp [app, txt]
  | .node k x f cs nx, u, mark => by simp only [app, txt, app_txt nx u mark, List.append_assoc]
  | .case key body nx, u, mark => by simp only [app, txt, app_txt nx u mark, List.append_assoc, List.cons_append]
/-- a name between: what is wrong with a right chain, and that behind it -/
theorem flt_who (f : Int) (x : List UInt8) (t : T) (mark pw : Bool) (hx : nameB x = true) : flt (.node 2 x f .nil t) mark pw 0 [] = flt t mark false 0 [] := by
  simp [flt, fine, hx, hasC]
theorem app_flt : ∀ (t u : T) (mark pw : Bool), isN t = true → (∀ pw, flt u mark pw 0 [] = 0) → flt t mark pw 0 [] = 0 → flt (app t u) mark pw 0 [] = 0
  | .nil, _, _, _, _, h, _ => h _
  | .node k x f cs nx, u, mark, pw, hn, h, ht => by
    obtain ⟨h1, h2, h3, h4⟩ := Ms.flt_node ht
    have hnn : isN.isC cs = true ∧ isN nx = true := by simpa [isN] using hn
    have ih := app_flt nx u mark (k == 1) hnn.2 h h4
    simp only [app, flt]
    rw [if_neg (by rw [h1]; decide), if_neg h2, if_neg (fun hh => hh.2 (h3 hh.1))]
    exact ih
  | .case _ _ _, _, _, _, hn, _, _ => by cases hn
theorem app_len : ∀ (t u : T), len (app t u) = len t + len u
  | .nil, _ => by simp [app, len]
  | .node _ _ _ _ nx, u => by have := app_len nx u; simp only [app, len]; omega
  | .case _ _ nx, u => by have := app_len nx u; simp only [app, len]; omega
/-- what is right is right within a Select -/
theorem flt_in (t : T) (x : List UInt8) (f : Int) (hx : nameB x = true) (h : flt t false false 0 [] = 0) : flt (.node 5 x f (.case otherK t .nil) .nil) false false 0 [] = 0 := by
  have hk : keyB 5 otherK = true := by decide
  simp [flt, fine, hx, hasC, hk, h]
theorem fault_fine {t : T} (h : flt t false false 0 [] = 0) : fault t = 0 ∨ fault t = 4 := by
  unfold fault; split
  · exact .inr rfl
  · exact .inl h
theorem fault_0 {t : T} (h : fault t = 0) : flt t false false 0 [] = 0 ∧ big t 0 = false := by
  unfold fault at h
  split at h
  · cases h
  · rename_i hb
    exact ⟨h, by simpa using hb⟩
theorem Rd.app {W : World} : ∀ (t u : T) (b o n m : Nat), isN t = true → Rd W t b o n → Rd W u b (o + 4 * n) m → Rd W (app t u) b o (n + m)
  | .nil, u, b, o, n, m, _, h, hu => by
    have h0 : n = 0 := h
    subst h0; simpa [Go.Proofs.YtgkphpjnfigjiaaGreatDoor.app] using hu
  | .node k x f cs nx, u, b, o, n, m, hn, h, hu => by
    have hnn : isN.isC cs = true ∧ isN nx = true := by simpa [isN] using hn
    obtain ⟨v, m', h1, h2, h3, h4, h5, h6, h7⟩ := h
    subst h1
    refine ⟨v, m' + m, by omega, h2, h3, h4, h5, h6, ?_⟩
    exact Rd.app nx u b (o + 4) m' m hnn.2 h7 (by rw [show o + 4 + 4 * m' = o + 4 * (m' + 1) by omega]; exact hu)
  | .case _ _ _, _, _, _, _, _, hn, _, _ => by cases hn
/-- cells that were copied read alike (in a world that kept what there was) -/
theorem Rd.copy {W W' : World} (hc : ∀ b o v, W.cell? ⟨b, o, none⟩ = some v → W'.cell? ⟨b, o, none⟩ = some v) : ∀ (t : T) (b o n b' o' : Nat), isN t = true → Rd W t b o n →
    (∀ j v, j < 4 * n → W.cell? ⟨b, o + j, none⟩ = some v → W'.cell? ⟨b', o' + j, none⟩ = some v) → Rd W' t b' o' n
  | .nil, _, _, _, _, _, _, h, _ => h
  | .node k x f cs nx, b, o, n, b', o', hn, h, hj => by
    have hnn : isN.isC cs = true ∧ isN nx = true := by simpa [isN] using hn
    obtain ⟨v, m', h1, h2, h3, h4, h5, h6, h7⟩ := h
    subst h1
    refine ⟨v, m', rfl, by simpa using hj 0 _ (by omega) (by simpa using h2), hj 1 _ (by omega) h3, hj 2 _ (by omega) h4, hj 3 _ (by omega) h5, ?_, ?_⟩
    · rcases h6 with h6 | ⟨b'', o'', n'', c'', e1, e2, e3⟩
      · exact .inl h6
      · exact .inr ⟨b'', o'', n'', c'', e1, e2, Rd.keep hc cs _ _ _ e3⟩
    · refine Rd.copy hc nx b (o + 4) m' b' (o' + 4) hnn.2 h7 (fun j v hjn hv => ?_)
      have := hj (4 + j) v (by omega) (by rw [show o + (4 + j) = o + 4 + j by omega]; exact hv)
      rw [show o' + 4 + j = o' + (4 + j) by omega]; exact this
  | .case _ _ _, _, _, _, _, _, hn, _, _ => by cases hn
end Go.Proofs.YtgkphpjnfigjiaaGreatDoor
