/- Law SnapNobody, walked: nobody's disk and basket have no snapshot. -/
import Derived.Test.YthnodmbenbiahaaGreatDoorBask
import Derived.Test.YthnodmbenbiahaaGreatDoorAwake8
namespace Go.Proofs.YthnodmbenbiahaaGreatDoor
open Go.RowKit Go.Maps

set_option maxRecDepth 100000 in
set_option maxHeartbeats 2000000 in
theorem snapNobody_walk (w : World) (hT : Tabs w) (g m : Int) (g0 : -9223372036854775808 ≤ g) (g1 : g ≤ 9223372036854775807) (m0 : -9223372036854775808 ≤ m) (m1 : m ≤ 9223372036854775807) :
    Calls Tryz.prog 8 #[.int .i64 g, .int .i64 m] w fun e w' => e = .returned (.bool true) ∧ Below w.heap.size w w' := by
  replace hT := Lib.hid hT
  go_enter Tryz.func8, Tryz.ntmps8
  go_wp2_with fail
  go_loopw [5] (fun i wr => ∃ k : Nat, k ≤ 2 ∧ i = .int .i64 k ∧ Below w.heap.size w wr) (fun i _ => 2 - (intOf i).toNat)
  case atStart => exact ⟨0, Nat.zero_le _, rfl, Below.refl _ _⟩
  case round =>
    obtain ⟨k, hk, rfl, hB⟩ := hrel
    have hTr := Lib.hid (hT.out.below hB)
    have hk3 : k = 0 ∨ k = 1 ∨ k = 2 := by omega
    rcases hk3 with rfl | rfl | rfl
    · have hl := sload_bad (w := wr) (v := .pointer none) g (fun W' hb => sname_no (hTr.out.below hb) (fun w' _ => nodisk_nil w') g g0 g1)
      replace hB := Lib.hid hB
      go_wp2_with fail
      refine hl.mono ?_
      clear hl
      rintro e w1 ⟨rfl, hb1⟩
      have hby := bbytes_no (w := w1) (v := .pointer none) (.inl rfl)
      have hT1 := Lib.hid (hTr.out.below hb1)
      have hs := ssave_bad (w := w1) (v := .pointer none) g (fun W' hb => sname_no (hT1.out.below hb) (fun w' _ => nodisk_nil w') g g0 g1) 1 1 (.slice none 0 0)
      have hB1 := Lib.hid (hB.out.trans (hb1.mono hB.out.size))
      clear hb1 hB hTr
      go_wp2_with fail
      refine hby.mono ?_
      clear hby
      rintro e w' ⟨rfl, rfl⟩
      go_wp2_with fail
      refine hs.mono ?_
      clear hs
      rintro e w2 ⟨rfl, hb2⟩
      have hpu := bput_no (w := w2) (v := .pointer none) (.inl rfl)
      have hmi := bmissing_no (w := w2) (v := .pointer none) (.inl rfl)
      have hB2 := Lib.hid (hB1.out.trans (hb2.mono hB1.out.size))
      clear hb2 hB1
      go_wp2_with fail
      refine hpu.mono ?_
      clear hpu
      rintro e w' ⟨rfl, rfl⟩
      go_wp2_with fail
      refine hmi.mono ?_
      clear hmi
      rintro e w' ⟨rfl, rfl⟩
      go_wp2_with fail
      go_roundw
      case measure => simp [intOf]
      case rel => exact ⟨1, by omega, by first | rfl | go_num, hB2.out⟩
    · have hbD := ((Below.refl wr.heap.size wr).alloc (Nat.le_refl _) (.cells #[.map none] 76)).alloc (by simp) (.cells #[.int .i64 0, .slice none 0 0, .slice none 0 0] 78)
      have z0 : ((wr.alloc (.cells #[.map none] 76)).alloc (.cells #[.int .i64 0, .slice none 0 0, .slice none 0 0] 78)).cell? ⟨wr.heap.size, 0, none⟩ = some (.map none) := (Below.refl _ _ |>.alloc (Nat.le_refl _) _ |>.cell (p := ⟨wr.heap.size, 0, none⟩) (by simp)).trans (cell_blk (heap_alloc_new wr _) 0)
      have bx : ((wr.alloc (.cells #[.map none] 76)).alloc (.cells #[.int .i64 0, .slice none 0 0, .slice none 0 0] 78)).heap[wr.heap.size + 1]? = some (.cells #[.int .i64 0, .slice none 0 0, .slice none 0 0] 78) := heap_alloc_new2 wr _ _
      have hB' := hB.trans (hbD.mono hB.size)
      replace hTr := Lib.hid (hT.out.below hB')
      generalize hWD : (wr.alloc (.cells #[.map none] 76)).alloc (.cells #[.int .i64 0, .slice none 0 0, .slice none 0 0] 78) = WD at *
      have hno : ∀ w', Below WD.heap.size WD w' → NoDisk w' (.pointer (some ⟨wr.heap.size, 0, none⟩)) := fun w' hb => nodisk_cell w' _ ((hb.cell (p := ⟨wr.heap.size, 0, none⟩) (cell_lt z0)).trans z0)
      have hnb : ∀ w', Below WD.heap.size WD w' → NoBask w' (.pointer (some ⟨wr.heap.size + 1, 0, none⟩)) := fun w' hb => by
        obtain ⟨x0, x1, x2, _⟩ := three_at bx hb
        exact .inr ⟨_, rfl, x0, x1, x2⟩
      have hl := sload_bad (w := WD) (v := .pointer (some ⟨wr.heap.size, 0, none⟩)) g (fun W' hb => sname_no (hTr.out.below hb) (fun w' hb' => hno w' (hb.trans (hb'.mono hb.size))) g g0 g1)
      replace hB' := Lib.hid hB'
      replace hno := Lib.hid hno
      replace hnb := Lib.hid hnb
      clear hB hbD z0 bx
      go_wp2_with fail
      refine hl.mono ?_
      clear hl
      rintro e w1 ⟨rfl, hb1⟩
      have hby := bbytes_no (hnb.out w1 hb1)
      have hT1 := Lib.hid (hTr.out.below hb1)
      have hs := ssave_bad (w := w1) (v := .pointer (some ⟨wr.heap.size, 0, none⟩)) g (fun W' hb => sname_no (hT1.out.below hb) (fun w' hb' => hno.out w' (hb1.trans ((hb.trans (hb'.mono hb.size)).mono hb1.size))) g g0 g1) 1 1 (.slice none 0 0)
      have hb1' := Lib.hid hb1
      have hB1 := Lib.hid (hB'.out.trans (hb1.mono hB'.out.size))
      clear hb1 hTr
      go_wp2_with fail
      refine hby.mono ?_
      clear hby
      rintro e w' ⟨rfl, rfl⟩
      go_wp2_with fail
      refine hs.mono ?_
      clear hs
      rintro e w2 ⟨rfl, hb2⟩
      have hnb2 := hnb.out w2 (hb1'.out.trans (hb2.mono hb1'.out.size))
      have hpu := bput_no hnb2
      have hmi := bmissing_no hnb2
      have hB2 := Lib.hid (hB1.out.trans (hb2.mono hB1.out.size))
      clear hb2 hB1 hnb2
      go_wp2_with fail
      refine hpu.mono ?_
      clear hpu
      rintro e w' ⟨rfl, rfl⟩
      go_wp2_with fail
      refine hmi.mono ?_
      clear hmi
      rintro e w' ⟨rfl, rfl⟩
      go_wp2_with fail
      go_roundw
      case measure => simp [intOf]
      case rel => exact ⟨2, by omega, by first | rfl | go_num, hB2.out⟩
    · replace hB := Lib.hid hB
      by_cases hm : 0 ≤ m ∧ m ≤ 32768
      · obtain ⟨M, rfl⟩ : ∃ M : Nat, m = M := ⟨m.toNat, by omega⟩
        have hga := sgather_yes (w := wr) M (by omega)
        have j0 : (0 : Int) ≤ M := hm.1
        have j1 : (M : Int) ≤ 32768 := hm.2
        have j2 : decide ((0 : Int) ≤ M) = true := decide_eq_true j0
        have j3 : decide ((M : Int) ≤ 32768) = true := decide_eq_true j1
        clear hm
        go_wp2_with fail
        refine hga.mono ?_
        clear hga
        rintro e w2 ⟨b, rfl, hb2⟩
        have hB2 := Lib.hid (hB.out.trans (hb2.mono hB.out.size))
        have haw := awake8 (hT.out.below hB2.out)
        go_wp2_with fail
        refine haw.mono ?_
        clear haw
        rintro e w3 ⟨rfl, hb3⟩
        go_wp2_with fail
        go_ret
        exact ⟨rfl, hB2.out.trans (hb3.mono hB2.out.size)⟩
      · have hga := sgather_no (w := wr) m (by omega)
        have haw : ∀ W, Below wr.heap.size wr W → Calls Tryz.prog 13 #[] W fun e w' => e = .returned (.bool true) ∧ Below W.heap.size W w' := fun W hb => awake8 (hTr.out.below hb)
        replace haw := Lib.hid haw
        by_cases h0 : 0 ≤ m
        · have j1 : ¬ m ≤ 32768 := by omega
          have j2 : decide (0 ≤ m) = true := decide_eq_true h0
          have j3 : decide (m ≤ 32768) = false := decide_eq_false j1
          clear hm
          go_wp2_with fail
          refine hga.mono ?_
          clear hga
          rintro e w2 ⟨rfl, hb2⟩
          have hB2 := Lib.hid (hB.out.trans (hb2.mono hB.out.size))
          have haw := haw.out w2 hb2
          go_wp2_with fail
          refine haw.mono ?_
          clear haw
          rintro e w3 ⟨rfl, hb3⟩
          go_wp2_with fail
          go_ret
          exact ⟨rfl, hB2.out.trans (hb3.mono hB2.out.size)⟩
        · have j2 : decide (0 ≤ m) = false := decide_eq_false h0
          clear hm
          go_wp2_with fail
          refine hga.mono ?_
          clear hga
          rintro e w2 ⟨rfl, hb2⟩
          have hB2 := Lib.hid (hB.out.trans (hb2.mono hB.out.size))
          have haw := haw.out w2 hb2
          go_wp2_with fail
          refine haw.mono ?_
          clear haw
          rintro e w3 ⟨rfl, hb3⟩
          go_wp2_with fail
          go_ret
          exact ⟨rfl, hB2.out.trans (hb3.mono hB2.out.size)⟩
end Go.Proofs.YthnodmbenbiahaaGreatDoor
