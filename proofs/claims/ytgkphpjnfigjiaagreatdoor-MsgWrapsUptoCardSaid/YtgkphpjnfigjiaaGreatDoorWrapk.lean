/-
  Messages one behind the other, and one within a case: their cells, what is wrong with them, their text.
-/
import Derived.Test.YtgkphpjnfigjiaaGreatDoorWplain
import Derived.Test.YtgkphpjnfigjiaaGreatDoorMrowH
import Derived.Test.YtgkphpjnfigjiaaGreatDoorErr
namespace Go.Proofs.YtgkphpjnfigjiaaGreatDoor
open Go.RowKit Ms

theorem RdX.app {P : Nat → Prop} {W : World} {u : T} {ys : List Value} (hu : RdX P W u ys) : ∀ (t : T) (xs : List Value), RdX P W t xs → RdX P W (app t u) (xs ++ ys)
  | .nil, xs, h => by
    have h0 : xs = [] := h
    subst h0; exact hu
  | .node _ _ _ _ nx, _, ⟨v, r, h1, h2, h3⟩ => ⟨v, r ++ ys, by rw [h1]; rfl, h2, RdX.app hu nx r h3⟩
  | .case _ _ nx, _, ⟨v, r, h1, h2, h3⟩ => ⟨v, r ++ ys, by rw [h1]; rfl, h2, RdX.app hu nx r h3⟩
theorem Rd.rdp {W : World} : ∀ (t : T) (b o n : Nat), Rd W t b o n → RdP (fun b => b < W.heap.size) W t b o n
  | .nil, _, _, _, h => h
  | .node k x f cs nx, b, o, n, h => by
    obtain ⟨v, m, h1, h2, h3, h4, h5, h6, h7⟩ := h
    refine ⟨v, m, h1, h2, h3, h4, h5, ?_, Rd.rdp nx _ _ _ h7⟩
    rcases h6 with h6 | ⟨b', o', n', c', e1, e2, e3⟩
    · exact .inl h6
    · exact .inr ⟨b', o', n', c', e1, e2, (Rd.rdp cs _ _ _ e3).lt, Rd.rdp cs _ _ _ e3⟩
  | .case key body nx, b, o, n, h => by
    obtain ⟨v, m, h1, h2, h3, h6, h7⟩ := h
    refine ⟨v, m, h1, h2, h3, ?_, Rd.rdp nx _ _ _ h7⟩
    rcases h6 with h6 | ⟨b', o', n', c', e1, e2, e3⟩
    · exact .inl h6
    · exact .inr ⟨b', o', n', c', e1, e2, (Rd.rdp body _ _ _ e3).lt, Rd.rdp body _ _ _ e3⟩
theorem SV.svp {W : World} {v : Value} {t : T} (h : SV W v t) : SVP (fun b => b < W.heap.size) W v t := by
  rcases h with h | ⟨b, o, n, c, e1, e2, e3⟩
  · exact .inl h
  · exact .inr ⟨b, o, n, c, e1, e2, (Rd.rdp t _ _ _ e3).lt, Rd.rdp t _ _ _ e3⟩
/-- the cells of a chain of nodes -/
theorem Rd.news {W : World} : ∀ (t : T) (b o n : Nat), isN t = true → Rd W t b o n → ∃ xs : List Value, xs.length = n * 4 ∧ (∀ j u, xs[j]? = some u → W.cell? ⟨b, o + j, none⟩ = some u) ∧ (∀ u ∈ xs, u.oneCell' = true) ∧ RdX (fun b => b < W.heap.size) W t xs
  | .nil, _, _, _, _, h => ⟨[], by have h0 := h; unfold Rd at h0; subst h0; rfl, (fun j u h => by simp at h), (fun u h => by simp at h), rfl⟩
  | .case _ _ _, _, _, _, hn, _ => by cases hn
  | .node k x f cs nx, b, o, n, hn, h => by
    have hnn : isN.isC cs = true ∧ isN nx = true := by simpa [isN] using hn
    obtain ⟨v, m, h1, h2, h3, h4, h5, h6, h7⟩ := h
    obtain ⟨xs, g1, g2, g3, g4⟩ := Rd.news nx b (o + 4) m hnn.2 h7
    have hsv : SV W v cs := h6
    refine ⟨.int .i64 k :: .string ⟨x.toArray⟩ :: .int .i64 f :: v :: xs, ?_, ?_, ?_, v, xs, rfl, hsv.svp, g4⟩
    · subst h1; simp only [List.length_cons, g1]; omega
    · intro j u hj
      match j, hj with
      | 0, hj => simp at hj; subst hj; exact h2
      | 1, hj => simp at hj; subst hj; exact h3
      | 2, hj => simp at hj; subst hj; exact h4
      | 3, hj => simp at hj; subst hj; exact h5
      | j + 4, hj =>
        have := g2 j u (by simpa using hj)
        rw [show o + (j + 4) = o + 4 + j by omega]; exact this
    · intro u hu
      simp only [List.mem_cons] at hu
      rcases hu with rfl | rfl | rfl | rfl | hu
      · rfl
      · rfl
      · rfl
      · obtain ⟨a, n', c', rfl⟩ := hsv.form; rfl
      · exact g3 u hu

theorem add_at (b o j : Nat) : (⟨b, o, none⟩ : Addr).add j = ⟨b, o + j, none⟩ := by unfold Addr.add; split <;> simp_all
def whoL : List UInt8 := [119, 104, 111]
def inT (t : T) : T := .node 5 whoL 0 (.case otherK t .nil) .nil
def bothT (t u : T) : T := app t (.node 2 whoL 0 .nil u)
def whoC : List Value := [.int .i64 2, .string ⟨whoL.toArray⟩, .int .i64 0, .slice none 0 0]
theorem both_rdx {P : Nat → Prop} {W : World} {t u : T} {xs ys : List Value} (h : RdX P W t xs) (h' : RdX P W u ys) : RdX P W (bothT t u) (xs ++ (whoC ++ ys)) :=
  RdX.app (u := .node 2 whoL 0 .nil u) (ys := whoC ++ ys) ⟨.slice none 0 0, ys, rfl, SVP.nil _ _, h'⟩ t xs h
theorem both_len (t u : T) : len (bothT t u) = len t + 1 + len u := by unfold bothT; rw [app_len]; simp only [len]; omega
theorem both_wt {t u : T} (h : wt t + wt u ≤ 1100000) : wt (bothT t u) ≤ 2100000 := by
  have h1 := app_wt t (.node 2 whoL 0 .nil u)
  unfold bothT; simp only [wt, whoL, List.length_cons, List.length_nil] at h1 ⊢; omega
theorem both_isN {t u : T} (h : isN t = true) (h' : isN u = true) : isN (bothT t u) = true := app_isN _ _ h (by simp [isN, isN.isC, h'])
theorem in_isN {t : T} (h : isN t = true) : isN (inT t) = true := by simp [inT, isN, isN.isC, h]
theorem in_wt {t : T} (h : wt t ≤ 1999000) : wt (inT t) ≤ 2100000 := by simp only [inT, wt, whoL, otherK, List.length_cons, List.length_nil]; omega
theorem in_fault {t : T} (h : fault t = 0) : fault (inT t) = 0 ∨ fault (inT t) = 4 := fault_fine (flt_in t whoL 0 (by decide) (fault_0 h).1)
theorem both_fault {t u : T} (hn : isN t = true) (h : fault t = 0) (h' : fault u = 0) : fault (bothT t u) = 0 ∨ fault (bothT t u) = 4 :=
  fault_fine (app_flt t _ false false hn (fun pw => by rw [flt_who 0 whoL u false pw (by decide)]; exact (fault_0 h').1) (fault_0 h).1)
theorem both_txt (t u : T) : txt (bothT t u) false = txt t false ++ [123, 119, 104, 111, 125] ++ txt u false := by
  unfold bothT; rw [app_txt]; simp [txt, whoL]
end Go.Proofs.YtgkphpjnfigjiaaGreatDoor
