/- Law HardNobody, walked: nobody's disk has no state. -/
import Derived.Test.YthnodmbenbiahaaDoorSaveX
import Derived.Test.YthnodmbenbiahaaDoorAwake7
namespace Go.Proofs.YthnodmbenbiahaaDoor
open Go.RowKit Go.Maps

set_option maxRecDepth 100000 in
set_option maxHeartbeats 2000000 in
theorem hardNobody_walk (w : World) (hT : Tabs w) (g : Int) (g0 : -9223372036854775808 ≤ g) (g1 : g ≤ 9223372036854775807) (h : HardD) (hf : HardFit h) :
    Calls Tryd.prog 8 #[.int .i64 g, .agg #[.int .u64 h.term, .int .i64 h.vote, .int .u64 h.commit]] w fun e w' => e = .returned (.bool true) ∧ Below w.heap.size w w' := by
  generalize hO : (Obj.cells #[.int .u64 (h.term : Int), .int .i64 h.vote, .int .u64 (h.commit : Int)] 64) = O
  have bx : (w.alloc O).heap[w.heap.size]? = some (.cells #[.int .u64 (h.term : Int), .int .i64 h.vote, .int .u64 (h.commit : Int)] 64) := by rw [← hO]; exact heap_alloc_new w _
  have hb0 := ((Below.refl w.heap.size w).alloc (Nat.le_refl _) O)
  have hT0 := hT.below hb0
  subst hO
  generalize hW : w.alloc (.cells #[.int .u64 (h.term : Int), .int .i64 h.vote, .int .u64 (h.commit : Int)] 64) = W at *
  replace hT0 := Lib.hid hT0
  replace hb0 := Lib.hid hb0
  replace hf := Lib.hid hf
  replace bx := Lib.hid bx
  clear hT
  go_enter Tryd.func8, Tryd.ntmps8
  go_wp2_with fail
  go_loopw [5] (fun i wr => ∃ k : Nat, k ≤ 2 ∧ i = .int .i64 k ∧ Below W.heap.size W wr) (fun i _ => 2 - (intOf i).toNat)
  case atStart => exact ⟨0, Nat.zero_le _, rfl, Below.refl _ _⟩
  case round =>
    obtain ⟨k, hk, rfl, hB⟩ := hrel
    have hTr := Lib.hid (hT0.out.below hB)
    have hk3 : k = 0 ∨ k = 1 ∨ k = 2 := by omega
    rcases hk3 with rfl | rfl | rfl
    · have hl := hload_bad (w := wr) (v := .pointer none) g (fun W' hb => hname_no (hTr.out.below hb) (fun w' _ => nodisk_nil w') g g0 g1)
      replace hB := Lib.hid hB
      go_wp2_with fail
      refine hl.mono ?_
      clear hl
      rintro e w1 ⟨rfl, hb1⟩
      have hbA := (Below.refl w1.heap.size w1).alloc (Nat.le_refl _) (.cells #[.int .u64 0, .int .i64 0, .int .u64 0] 64)
      have hB1 := hB.out.trans ((hb1.trans (hbA.mono hb1.size)).mono hB.out.size)
      obtain ⟨y0, y1, y2, _, _, _, _⟩ := three_at bx.out hB1
      have hs := hsave_bad (hT0.out.below hB1) (v := .pointer none) g (fun W' hb => hname_no ((hT0.out.below hB1).below hb) (fun w' _ => nodisk_nil w') g g0 g1) h hf.out (.inl rfl)
      replace hB1 := Lib.hid hB1
      clear hb1 hbA hB
      go_wp2_with fail
      refine hs.mono ?_
      clear hs
      rintro e w2 ⟨rfl, hb2⟩
      go_wp2_with fail
      go_roundw
      case measure => simp [intOf]
      case rel => exact ⟨1, by omega, by first | rfl | go_num, hB1.out.trans (hb2.mono hB1.out.size)⟩
    · have hbD := (Below.refl wr.heap.size wr).alloc (Nat.le_refl _) (.cells #[.map none] 46)
      have z0 : (wr.alloc (.cells #[.map none] 46)).cell? ⟨wr.heap.size, 0, none⟩ = some (.map none) := cell_blk (heap_alloc_new wr _) 0
      have hB' := hB.trans (hbD.mono hB.size)
      replace hTr := Lib.hid (hT0.out.below hB')
      have hno : ∀ w', Below (wr.alloc (.cells #[.map none] 46)).heap.size (wr.alloc (.cells #[.map none] 46)) w' → NoDisk w' (.pointer (some ⟨wr.heap.size, 0, none⟩)) := fun w' hb => nodisk_cell w' _ ((hb.cell (p := ⟨wr.heap.size, 0, none⟩) (cell_lt z0)).trans z0)
      generalize hWD : wr.alloc (.cells #[.map none] 46) = WD at *
      have hl := hload_bad (w := WD) (v := .pointer (some ⟨wr.heap.size, 0, none⟩)) g (fun W' hb => hname_no (hTr.out.below hb) (fun w' hb' => hno w' (hb.trans (hb'.mono hb.size))) g g0 g1)
      replace hB' := Lib.hid hB'
      replace hno := Lib.hid hno
      clear hB hbD z0
      go_wp2_with fail
      refine hl.mono ?_
      clear hl
      rintro e w1 ⟨rfl, hb1⟩
      have hbA := (Below.refl w1.heap.size w1).alloc (Nat.le_refl _) (.cells #[.int .u64 0, .int .i64 0, .int .u64 0] 64)
      have hbD1 := hb1.trans (hbA.mono hb1.size)
      have hB1 := hB'.out.trans (hbD1.mono hB'.out.size)
      obtain ⟨y0, y1, y2, _, _, _, _⟩ := three_at bx.out hB1
      have hs := hsave_bad (hT0.out.below hB1) (v := .pointer (some ⟨wr.heap.size, 0, none⟩)) g (fun W' hb => hname_no ((hT0.out.below hB1).below hb) (fun w' hb' => hno.out w' (hbD1.trans ((hb.trans (hb'.mono hb.size)).mono hbD1.size))) g g0 g1) h hf.out (.inl rfl)
      replace hB1 := Lib.hid hB1
      clear hb1 hbA hbD1
      go_wp2_with fail
      refine hs.mono ?_
      clear hs
      rintro e w2 ⟨rfl, hb2⟩
      go_wp2_with fail
      go_roundw
      case measure => simp [intOf]
      case rel => exact ⟨2, by omega, by first | rfl | go_num, hB1.out.trans (hb2.mono hB1.out.size)⟩
    · replace hB := Lib.hid hB
      have haw := awake7 hTr.out
      go_wp2_with fail
      refine haw.mono ?_
      clear haw
      rintro e w2 ⟨rfl, hb2⟩
      go_wp2_with fail
      go_ret
      exact ⟨rfl, hb0.out.trans ((hB.out.trans (hb2.mono hB.out.size)).mono hb0.out.size)⟩
end Go.Proofs.YthnodmbenbiahaaDoor
