/-
  Cells of blocks, and worlds that only grew.
-/
import Derived.Test.YtgkphpjnfigjiaaGreatDoorRd
namespace Go.Proofs.YtgkphpjnfigjiaaGreatDoor
open Go.RowKit Ms

theorem far_cell {w : World} {b o cb : Nat} {u : Value} (hne : b ≠ cb) (v : Value) (i : Nat) (h : w.cell? ⟨b, o, none⟩ = some u) : (w.setCell ⟨cb, i, none⟩ v).cell? ⟨b, o, none⟩ = some u := by
  unfold World.cell? at h ⊢
  rw [heap_setCell_other w ⟨cb, i, none⟩ b v hne]; exact h
theorem block_cell {w : World} {cb i : Nat} {cs : Array Value} {t : TypeId} {u : Value} (h : w.heap[cb]? = some (.cells cs t)) (hi : cs[i]? = some u) : w.cell? ⟨cb, i, none⟩ = some u := by
  simp [World.cell?, h, hi]
theorem size_setCell (w : World) (a : Addr) (v : Value) : (w.setCell a v).heap.size = w.heap.size := by simp
theorem below_grown {B : Nat} {w a b : World} {row : Option Nat} (h : Below B w a) (hg : a.grownBy b row) (hr : ∀ k, row = some k → B ≤ k) (hB : B ≤ a.heap.size) : Below B w b :=
  ⟨hg.os.trans h.os, hg.tape.trans h.tape, hg.output.trans h.output, Nat.le_trans h.size hg.size, fun k hk => by
    rw [hg.block k (by omega) (fun e => by have := hr k e.symm; omega)]; exact h.block k hk⟩
end Go.Proofs.YtgkphpjnfigjiaaGreatDoor
