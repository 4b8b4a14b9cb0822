/- Law 5's awake: a crash leaves what the cut says. -/
import Derived.Test.YthnodmbenbiahaaDoorDiskI
import Derived.Lib.SlBytesConst
namespace Go.Proofs.YthnodmbenbiahaaDoor
open Go.RowKit Go.Maps

/-- A disk that the call (begun in w) made itself. -/
def Mine (w w' : World) (p : Nat) (m : List FileD) : Prop := DiskAt w' p (fun k => w.heap.size ≤ k) m ∧ Below w.heap.size w w'
theorem Mine.after {w w1 w2 : World} {p : Nat} {m m' : List FileD} (h : Mine w w1 p m) (h' : After w1 w2 p (fun k => w.heap.size ≤ k) m') : Mine w w2 p m' := by
  refine ⟨h'.1.mono (fun k hk _ => ?_), ?_⟩
  · rcases hk with hk | hk
    · exact hk
    · exact Nat.le_trans h.2.size hk
  · have := h'.2
    exact h.2.trans ⟨this.os, this.tape, this.output, this.size, fun k hk => this.same k (by omega) (Nat.lt_of_lt_of_le hk h.2.size)⟩
theorem Mine.below {w w1 w2 : World} {p : Nat} {m : List FileD} (h : Mine w w1 p m) (hb : Below w1.heap.size w1 w2) : Mine w w2 p m := ⟨h.1.step (Same.of_below hb _), h.2.trans (hb.mono h.2.size)⟩
theorem Mine.alloc {w w1 : World} {p : Nat} {m : List FileD} (h : Mine w w1 p m) (o : Obj) : Mine w (w1.alloc o) p m := h.below ((Below.refl _ _).alloc (Nat.le_refl _) o)
theorem reads_new (w : World) (l : List UInt8) (fr : Nat × Nat) (hl : l.length ≤ 9223372036854775807) : Bytes (w.alloc (.cells (l.map byteV).toArray 5 fr)) (fun k => k = w.heap.size) (.slice (some ⟨w.heap.size, 0, none⟩) l.length l.length) l :=
  ⟨_, _, rfl, Nat.le_refl _, hl, Cells.of_blk (heap_alloc_new w _)⟩
theorem ints_new (w : World) (l : List Int) (hl : l.length ≤ 9223372036854775807) : Ints (w.alloc (.cells (l.map intV).toArray 3)) (fun k => k = w.heap.size) (.slice (some ⟨w.heap.size, 0, none⟩) l.length l.length) l :=
  ⟨_, _, rfl, Nat.le_refl _, hl, Cells.of_blk (heap_alloc_new w _)⟩

def nmA : ByteArray := ⟨#[97]⟩
theorem aw1 : pAppend [] nmA [97, 98] = ([⟨nmA, [97, 98], 0⟩], 0) := by decide +kernel
theorem aw2 : pSync [⟨nmA, [97, 98], 0⟩] nmA = ([⟨nmA, [97, 98], 2⟩], 0) := by decide +kernel
theorem aw3 : pAppend [⟨nmA, [97, 98], 2⟩] nmA [99, 100] = ([⟨nmA, [97, 98, 99, 100], 2⟩], 0) := by decide +kernel
theorem aw4 : pCrash [⟨nmA, [97, 98, 99, 100], 2⟩] [1] = [⟨nmA, [97, 98, 99], 3⟩] := by decide +kernel
theorem aw5 : fFind [⟨nmA, [97, 98, 99], 3⟩] nmA = some ⟨nmA, [97, 98, 99], 3⟩ := by decide +kernel
theorem nmA_size : nmA.size ≤ maxLen := by decide +kernel
set_option maxRecDepth 100000 in
set_option maxHeartbeats 1000000 in
theorem awake5 (w : World) : Calls Tryd.prog 11 #[] w fun e w' => e = .returned (.bool true) ∧ Below w.heap.size w w' := by
  have kc := fun (w : World) (C : Array Value) (n c : Nat) => Lib.run_convert_bytes_const (P := Tryd.prog) w 22 5 C n c Tryd.underlying22 Tryd.underlying5
  go_enter Tryd.func11, Tryd.ntmps11
  go_wp2_with fail
  refine (new_any w).mono ?_
  rintro e w1 ⟨p, rfl, hd, hb⟩
  have hM : Mine w w1 p [] := ⟨hd, hb⟩
  clear hd hb
  go_wp2_with fail
  have hM1 := hM.alloc (.cells #[.int .u8 97, .int .u8 98] 5 (2, 3))
  refine (append_any hM1.1 nmA nmA_size (reads_new w1 [97, 98] (2, 3) (by decide))).mono ?_
  rintro e w2 ⟨rfl, hA⟩
  rw [aw1] at hA
  have hM := hM1.after hA
  clear hM1 hA
  rw [aw1]
  go_wp2_with fail
  refine (sync_any hM.1 nmA nmA_size).mono ?_
  rintro e w3 ⟨rfl, hA⟩
  rw [aw2] at hA
  have hM2 := hM.after hA
  clear hM hA
  go_wp2_with fail
  have hM3 := hM2.alloc (.cells #[.int .u8 99, .int .u8 100] 5 (2, 3))
  refine (append_any hM3.1 nmA nmA_size (reads_new w3 [99, 100] (2, 3) (by decide))).mono ?_
  rintro e w4 ⟨rfl, hA⟩
  rw [aw3] at hA
  have hM4 := hM3.after hA
  clear hM2 hM3 hA
  go_wp2_with fail
  have hM5 := hM4.alloc (.cells #[.int .i64 1] 3)
  refine (crash_any (ok := fun k => w.heap.size ≤ k ∧ k ≠ w4.heap.size) (m := [⟨nmA, [97, 98, 99, 100], 2⟩]) ((hM4.1.mono (fun k hk hlt => ⟨hk, by omega⟩)).step (Same.alloc _ _ _)) (ints_new w4 [1] (by decide)) (fun k hk h => h.2 hk) (by decide)).mono ?_
  rintro e w5 ⟨rfl, hA⟩
  rw [aw4] at hA
  have hM6 : Mine w w5 p [⟨nmA, [97, 98, 99], 3⟩] := hM5.after ⟨hA.1.mono (fun k hk _ => hk.imp (fun h => h.1) id), hA.2.mono (fun k hk => hk.1)⟩
  clear hM4 hM5 hA
  go_wp2_with fail
  refine (read_any hM6.1 nmA nmA_size).mono ?_
  rintro e w6 ⟨v, rfl, hr, hb⟩
  rw [aw5] at hr ⊢
  change w6.ownsRow w5.heap.size 5 1 v ([97, 98, 99] : List UInt8).length (([97, 98, 99] : List UInt8).map byteV) at hr
  have hM7 := hM6.below hb
  have hs : (convert 22 9 v).run Tryd.prog w6 = .ok (.string ⟨#[97, 98, 99]⟩) w6 := run_string (P := Tryd.prog) (Reads.of_own (α := UInt8) (enc := byteV) hr) Tryd.underlying22 Tryd.underlying5 Tryd.underlying9
  simp only [List.length_cons, List.length_nil] at hr
  obtain ⟨A, c, rfl, _⟩ := own_form hr
  clear hM6 hr
  go_wp2_with fail
  go_ret
  exact ⟨rfl, hM7.2⟩
end Go.Proofs.YthnodmbenbiahaaDoor
