/-
  Three cells of a block, kept by whatever only lays new blocks.
-/
import Derived.Test.YtmaccmhpcagcnaaGreatDoorDateA
namespace Go.Proofs.YtmaccmhpcagcnaaGreatDoor
open Go.RowKit

/-- three cells of a block -/
structure Tre (W : World) (b : Nat) (x y z : Int) : Prop where
  c0 : W.cell? ⟨b, 0, none⟩ = some (.int .i64 x)
  c1 : W.cell? ⟨b, 1, none⟩ = some (.int .i64 y)
  c2 : W.cell? ⟨b, 2, none⟩ = some (.int .i64 z)
theorem Tre.keep {W W' : World} {b : Nat} {x y z : Int} (h : Tre W b x y z) (hb : Below W.heap.size W W') : Tre W' b x y z :=
  ⟨by rw [hb.cell (p := ⟨_, _, none⟩) (cell_lt h.c0)]; exact h.c0, by rw [hb.cell (p := ⟨_, _, none⟩) (cell_lt h.c0)]; exact h.c1, by rw [hb.cell (p := ⟨_, _, none⟩) (cell_lt h.c0)]; exact h.c2⟩
theorem Tre.made (W : World) (x y z : Int) (T : TypeId) : Tre (W.alloc (.cells #[.int .i64 x, .int .i64 y, .int .i64 z] T)) W.heap.size x y z :=
  ⟨by simp, by simp, by simp⟩
theorem Tre.alloc {W : World} {b : Nat} {x y z : Int} (h : Tre W b x y z) (o : Obj) : Tre (W.alloc o) b x y z := h.keep ((Below.refl _ _).alloc (Nat.le_refl _) _)
theorem below_step {w W W' : World} (h : Below w.heap.size w W) (hb : Below W.heap.size W W') : Below w.heap.size w W' := h.trans (hb.mono h.size)

theorem Tre.stored {W : World} {b : Nat} {x y z : Int} (h : Tre W b x y z) (k v A : Int) : Tre (((W.setCell ⟨b, 0, none⟩ (.int .i64 k)).setCell ⟨b, 1, none⟩ (.int .i64 v)).setCell ⟨b, 2, none⟩ (.int .i64 A)) b k v A := by
  have e1 : (W.setCell ⟨b, 0, none⟩ (.int .i64 k)).cell? ⟨b, 1, none⟩ = some (.int .i64 y) := by rw [World.cell?_setCell_other _ _ _ _ (by intro e; cases e)]; exact h.c1
  have e2 : ((W.setCell ⟨b, 0, none⟩ (.int .i64 k)).setCell ⟨b, 1, none⟩ (.int .i64 v)).cell? ⟨b, 2, none⟩ = some (.int .i64 z) := by
    rw [World.cell?_setCell_other _ _ _ _ (by intro e; cases e), World.cell?_setCell_other _ _ _ _ (by intro e; cases e)]; exact h.c2
  refine ⟨?_, ?_, ?_⟩
  · rw [World.cell?_setCell_other _ _ _ _ (by intro e; cases e), World.cell?_setCell_other _ _ _ _ (by intro e; cases e)]
    exact World.cell?_setCell_same _ _ _ h.c0
  · rw [World.cell?_setCell_other _ _ _ _ (by intro e; cases e)]
    exact World.cell?_setCell_same _ _ _ e1
  · exact World.cell?_setCell_same _ _ _ e2
theorem Tre.beside {W : World} {b b' : Nat} {x y z : Int} (h : Tre W b x y z) (hne : b ≠ b') (k v A : Int) : Tre (((W.setCell ⟨b', 0, none⟩ (.int .i64 k)).setCell ⟨b', 1, none⟩ (.int .i64 v)).setCell ⟨b', 2, none⟩ (.int .i64 A)) b x y z := by
  have hc : ∀ o u, W.cell? ⟨b, o, none⟩ = some u → (((W.setCell ⟨b', 0, none⟩ (.int .i64 k)).setCell ⟨b', 1, none⟩ (.int .i64 v)).setCell ⟨b', 2, none⟩ (.int .i64 A)).cell? ⟨b, o, none⟩ = some u := fun o u hu => by
    rw [World.cell?_setCell_other _ _ _ _ (by intro e; cases e; exact hne rfl), World.cell?_setCell_other _ _ _ _ (by intro e; cases e; exact hne rfl), World.cell?_setCell_other _ _ _ _ (by intro e; cases e; exact hne rfl)]; exact hu
  exact ⟨hc _ _ h.c0, hc _ _ h.c1, hc _ _ h.c2⟩
end Go.Proofs.YtmaccmhpcagcnaaGreatDoor
