/-
  Chains of nodes and of cases by places; the reference's CasesOf.
-/
import Derived.Test.YtgkphpjnfigjiaaGreatDoorSize
namespace Go.Proofs.YtgkphpjnfigjiaaGreatDoor
open Go.RowKit Ms

/-- the cases of a slice, from one of them on -/
def CasesFrom (w : World) (a : Option Addr) (n j : Nat) (t : T) : Prop := (n = j ∧ t = .nil) ∨ ∃ b o, a = some ⟨b, o, none⟩ ∧ Rd w t b (o + j * 2) (n - j)
/-- the nodes of a slice, from one of them on -/
def NodesFrom (w : World) (a : Option Addr) (n j : Nat) (t : T) : Prop := (n = j ∧ t = .nil) ∨ ∃ b o, a = some ⟨b, o, none⟩ ∧ Rd w t b (o + j * 4) (n - j)
theorem casesFrom_start {w : World} {v : Value} {t : T} (h : SV w v t) : ∃ a n c, v = .slice a n c ∧ n = len t ∧ CasesFrom w a n 0 t := by
  rcases h with ⟨⟨a, rfl⟩, rfl⟩ | ⟨b, o, n, c, rfl, _, hr⟩
  · exact ⟨a, 0, 0, rfl, rfl, .inl ⟨rfl, rfl⟩⟩
  · exact ⟨_, n, c, rfl, Rd.len t b o n hr, .inr ⟨b, o, rfl, by simpa using hr⟩⟩
theorem nodesFrom_start {w : World} {v : Value} {t : T} (h : SV w v t) : ∃ a n c, v = .slice a n c ∧ n = len t ∧ NodesFrom w a n 0 t := by
  rcases h with ⟨⟨a, rfl⟩, rfl⟩ | ⟨b, o, n, c, rfl, _, hr⟩
  · exact ⟨a, 0, 0, rfl, rfl, .inl ⟨rfl, rfl⟩⟩
  · exact ⟨_, n, c, rfl, Rd.len t b o n hr, .inr ⟨b, o, rfl, by simpa using hr⟩⟩
theorem rd_zero {w : World} {t : T} {b o : Nat} (h : Rd w t b o 0) : t = .nil := by
  cases t with
  | nil => rfl
  | node _ _ _ _ _ => obtain ⟨_, _, h, _⟩ := h; cases h
  | case _ _ _ => obtain ⟨_, _, h, _⟩ := h; cases h
theorem casesFrom_end {w : World} {a : Option Addr} {n : Nat} {t : T} (h : CasesFrom w a n n t) : t = .nil := by
  rcases h with ⟨_, h⟩ | ⟨b, o, _, h⟩
  · exact h
  · rw [Nat.sub_self] at h; exact rd_zero h
theorem nodesFrom_end {w : World} {a : Option Addr} {n : Nat} {t : T} (h : NodesFrom w a n n t) : t = .nil := by
  rcases h with ⟨_, h⟩ | ⟨b, o, _, h⟩
  · exact h
  · rw [Nat.sub_self] at h; exact rd_zero h
theorem casesFrom_next {w : World} {a : Option Addr} {n j : Nat} {t : T} (h : CasesFrom w a n j t) (hj : j < n) (hc : isN.isC t = true) : ∃ key body nx b o v, t = .case key body nx ∧ a = some ⟨b, o, none⟩ ∧
    w.cell? ⟨b, o + j * 2, none⟩ = some (.string ⟨key.toArray⟩) ∧ w.cell? ⟨b, o + j * 2 + 1, none⟩ = some v ∧ SV w v body ∧ CasesFrom w a n (j + 1) nx := by
  rcases h with ⟨h, _⟩ | ⟨b, o, ha, hr⟩
  · omega
  · cases t with
    | nil => have h0 : n - j = 0 := hr; omega
    | node _ _ _ _ _ => cases hc
    | case key body nx =>
      obtain ⟨v, m, hm, q0, q1, hv, hrest⟩ := hr
      exact ⟨key, body, nx, b, o, v, rfl, ha, q0, q1, hv, .inr ⟨b, o, ha, by rw [show o + (j + 1) * 2 = o + j * 2 + 2 by omega, show n - (j + 1) = m by omega]; exact hrest⟩⟩
theorem nodesFrom_next {w : World} {a : Option Addr} {n j : Nat} {t : T} (h : NodesFrom w a n j t) (hj : j < n) (hc : isN t = true) : ∃ k x f cs nx b o v, t = .node k x f cs nx ∧ a = some ⟨b, o, none⟩ ∧
    w.cell? ⟨b, o + j * 4, none⟩ = some (.int .i64 k) ∧ w.cell? ⟨b, o + j * 4 + 1, none⟩ = some (.string ⟨x.toArray⟩) ∧ w.cell? ⟨b, o + j * 4 + 2, none⟩ = some (.int .i64 f) ∧ w.cell? ⟨b, o + j * 4 + 3, none⟩ = some v ∧ SV w v cs ∧ NodesFrom w a n (j + 1) nx := by
  rcases h with ⟨h, _⟩ | ⟨b, o, ha, hr⟩
  · omega
  · cases t with
    | nil => have h0 : n - j = 0 := hr; omega
    | case _ _ _ => cases hc
    | node k x f cs nx =>
      obtain ⟨v, m, hm, q0, q1, q2, q3, hv, hrest⟩ := hr
      exact ⟨k, x, f, cs, nx, b, o, v, rfl, ha, q0, q1, q2, q3, hv, .inr ⟨b, o, ha, by rw [show o + (j + 1) * 4 = o + j * 4 + 4 by omega, show n - (j + 1) = m by omega]; exact hrest⟩⟩
set_option maxRecDepth 100000 in
/-- ref.CasesOf: a node's cases, if its kind has some -/
theorem casesOf_any (k f : Int) (x : ByteArray) (v : Value) (w : World) :
    Calls Tryz.prog 26 #[.agg #[.int .i64 k, .string x, .int .i64 f, v]] w fun e w' => e = .returned (if hasC k = true then v else .slice none 0 0) ∧ Below w.heap.size w w' := by
  have hb : ∃ p q : Bool, (k == 4) = p ∧ (k == 5) = q := ⟨_, _, rfl, rfl⟩
  obtain ⟨p, q, hp, hq⟩ := hb
  have hh : hasC k = (p || q) := by unfold hasC; rw [hp, hq]
  rw [hh]
  clear hh
  cases p <;> cases q
  all_goals
    go_enter Tryz.func26, Tryz.ntmps26
    go_wp2_with fail
    go_ret
    exact ⟨rfl, (Below.refl _ _).alloc (Nat.le_refl _) _⟩
theorem cases_val (k f : Int) (x : List UInt8) (v vc : Value) (hv : vc = if hasC k = true then v else .slice none 0 0) (W : World) :
    Calls Tryz.prog 26 #[.agg #[.int .i64 k, .string ⟨x.toArray⟩, .int .i64 f, v]] W fun e w' => e = .returned vc ∧ Below W.heap.size W w' := by
  subst hv; exact casesOf_any k f ⟨x.toArray⟩ v W
theorem cases_sv {w : World} {k : Int} {v vc : Value} {cs : T} (h : SV w v cs) (hv : vc = if hasC k = true then v else .slice none 0 0) : SV w vc (if hasC k = true then cs else .nil) := by
  subst hv
  split
  · exact h
  · exact .inl ⟨⟨_, rfl⟩, rfl⟩
end Go.Proofs.YtgkphpjnfigjiaaGreatDoor
