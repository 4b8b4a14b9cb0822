/- A disk that a call made itself; rows that are laid with their elements. -/
import Derived.Test.YthnodmbenbiahaaGreatDoorDiskH
namespace Go.Proofs.YthnodmbenbiahaaGreatDoor
open Go.RowKit Go.Maps

/-- A disk that the call (begun in w) made itself. -/
def Mine (w w' : World) (p : Nat) (m : List FileD) : Prop := DiskAt w' p (fun k => w.heap.size ≤ k) m ∧ Below w.heap.size w w'
theorem Mine.after {w w1 w2 : World} {p : Nat} {m m' : List FileD} (h : Mine w w1 p m) (h' : After w1 w2 p (fun k => w.heap.size ≤ k) m') : Mine w w2 p m' := by
  refine ⟨h'.1.mono (fun k hk _ => ?_), ?_⟩
  · rcases hk with hk | hk
    · exact hk
    · exact Nat.le_trans h.2.size hk
  · have := h'.2
    exact h.2.trans ⟨this.os, this.tape, this.output, this.size, fun k hk => this.same k (by omega) (Nat.lt_of_lt_of_le hk h.2.size)⟩
theorem Mine.below {w w1 w2 : World} {p : Nat} {m : List FileD} (h : Mine w w1 p m) (hb : Below w1.heap.size w1 w2) : Mine w w2 p m := ⟨h.1.step (Same.of_below hb _), h.2.trans (hb.mono h.2.size)⟩
theorem Mine.alloc {w w1 : World} {p : Nat} {m : List FileD} (h : Mine w w1 p m) (o : Obj) : Mine w (w1.alloc o) p m := h.below ((Below.refl _ _).alloc (Nat.le_refl _) o)
theorem reads_new (w : World) (l : List UInt8) (fr : Nat × Nat) (hl : l.length ≤ 9223372036854775807) : Bytes (w.alloc (.cells (l.map byteV).toArray 5 fr)) (fun k => k = w.heap.size) (.slice (some ⟨w.heap.size, 0, none⟩) l.length l.length) l :=
  ⟨_, _, rfl, Nat.le_refl _, hl, Cells.of_blk (heap_alloc_new w _)⟩
theorem ints_new (w : World) (l : List Int) (hl : l.length ≤ 9223372036854775807) : Ints (w.alloc (.cells (l.map intV).toArray 3)) (fun k => k = w.heap.size) (.slice (some ⟨w.heap.size, 0, none⟩) l.length l.length) l :=
  ⟨_, _, rfl, Nat.le_refl _, hl, Cells.of_blk (heap_alloc_new w _)⟩
end Go.Proofs.YthnodmbenbiahaaGreatDoor
