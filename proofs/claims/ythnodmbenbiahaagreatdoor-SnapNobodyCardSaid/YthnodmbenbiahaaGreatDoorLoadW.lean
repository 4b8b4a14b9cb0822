/- The program's layer 7 (hard): Load. -/
import Derived.Test.YthnodmbenbiahaaGreatDoorHardC
import Derived.Test.YthnodmbenbiahaaGreatDoorReadAt
namespace Go.Proofs.YthnodmbenbiahaaGreatDoor
open Go.RowKit Go.Maps

set_option maxRecDepth 100000 in
theorem hload_bad {w : World} {v : Value} (g : Int) {S : ByteArray} (hn : ∀ W, Below w.heap.size w W → Calls Tryz.prog 89 #[v, .int .i64 g] W fun e w' => e = .returned (.tuple #[.string S, .bool false]) ∧ Below W.heap.size W w') :
    Calls Tryz.prog 37 #[v, .int .i64 g] w fun e w' => e = .returned (.tuple #[.agg #[.int .u64 0, .int .i64 0, .int .u64 0], .int .i64 1]) ∧ Below w.heap.size w w' := by
  generalize hO : (Obj.cells #[.int .u64 0, .int .i64 0, .int .u64 0] 49) = O
  have bx : (w.alloc O).heap[w.heap.size]? = some (.cells #[.int .u64 0, .int .i64 0, .int .u64 0] 49) := by rw [← hO]; exact heap_alloc_new w _
  have hb0 := ((Below.refl w.heap.size w).alloc (Nat.le_refl _) O)
  have hsz : (w.alloc O).heap.size = w.heap.size + 1 := by simp
  subst hO
  have hn1 := hn _ hb0
  clear hn
  generalize hW : w.alloc (.cells #[.int .u64 0, .int .i64 0, .int .u64 0] 49) = W at *
  go_enter Tryz.func37, Tryz.ntmps37
  go_wp2_with fail
  refine hn1.mono ?_
  clear hn1
  rintro e wa ⟨rfl, hba⟩
  obtain ⟨y0, y1, y2, y3, y4, y5, hbk'⟩ := three_at bx hba
  have hbB' := hb0.trans (hba.mono hb0.size)
  have hbk := Lib.hid hbk'
  have hbB := Lib.hid hbB'
  clear bx hba hb0
  go_wp2_with fail
  generalize hW2 : ((wa.setCell ⟨w.heap.size, 0, none⟩ (.int .u64 0)).setCell ⟨w.heap.size, 1, none⟩ (.int .i64 0)).setCell ⟨w.heap.size, 2, none⟩ (.int .u64 0) = W2
  obtain ⟨q0, q1, q2, hb9⟩ := three_set hbk.out (Nat.le_refl _) hW2
  refine bodyPost_ret (v := .tuple #[.agg #[.int .u64 0, .int .i64 0, .int .u64 0], .int .i64 1]) (by simp [results, Tryz.results37, go_sem, q0, q1, q2]) rfl ⟨rfl, hbB.out.trans hb9⟩
set_option maxRecDepth 100000 in
set_option maxHeartbeats 1000000 in
theorem hload_none {w : World} {p : Nat} {ok : Nat → Prop} {m : List FileD} (hT : Tabs w) (hD : DiskAt w p ok m) (g : Int) (g0 : -9223372036854775808 ≤ g) (g1 : g ≤ 9223372036854775807) (hgi : nameIn g = true) (hfd : fFind m (gName hardPre g) = none) :
    Calls Tryz.prog 37 #[.pointer (some ⟨p, 0, none⟩), .int .i64 g] w fun e w' => e = .returned (.tuple #[.agg #[.int .u64 0, .int .i64 0, .int .u64 0], .int .i64 0]) ∧ Below w.heap.size w w' := by
  generalize hO : (Obj.cells #[.int .u64 0, .int .i64 0, .int .u64 0] 49) = O
  have bx : (w.alloc O).heap[w.heap.size]? = some (.cells #[.int .u64 0, .int .i64 0, .int .u64 0] 49) := by rw [← hO]; exact heap_alloc_new w _
  have hb0 := ((Below.refl w.heap.size w).alloc (Nat.le_refl _) O)
  have hsz : (w.alloc O).heap.size = w.heap.size + 1 := by simp
  subst hO
  have hNs := gName_size (head := hardPre) rfl g g0 g1
  have hn := hname_at (hT.below hb0) (hD.step (Same.of_below hb0 ok)) g g0 g1 hgi
  have hD0 := Lib.hid (hD.step (Same.of_below hb0 ok))
  have hT0 := Lib.hid (hT.below hb0)
  clear hD hT
  generalize hW : w.alloc (.cells #[.int .u64 0, .int .i64 0, .int .u64 0] 49) = W at *
  change Calls Tryz.prog 89 _ W (fun e w' => e = .returned (.tuple #[.string (gName hardPre g), .bool true]) ∧ Below W.heap.size W w') at hn
  generalize gName hardPre g = NM at *
  go_enter Tryz.func37, Tryz.ntmps37
  go_wp2_with fail
  refine hn.mono ?_
  clear hn
  rintro e wa ⟨rfl, hba⟩
  obtain ⟨y0, y1, y2, y3, y4, y5, hbk'⟩ := three_at bx hba
  have hbB' := hb0.trans (hba.mono hb0.size)
  have hbk := Lib.hid hbk'
  have hbB := Lib.hid hbB'
  have hrd := read_none (hD0.out.step (Same.of_below hba ok)) NM (small_max (by omega)) hfd
  clear bx hba hb0 hT0 hfd hbk' hbB'
  go_wp2_with fail
  refine hrd.mono ?_
  clear hrd
  rintro e wb ⟨A1, c1, rfl, hb1⟩
  obtain ⟨x0, x1, x2, x3, x4, x5, hbk'⟩ := three_at hbk.out hb1
  have hbB' := hbB.out.trans (hb1.mono hbB.out.size)
  replace hbk := Lib.hid hbk'
  replace hbB := Lib.hid hbB'
  clear hb1 y0 y1 y2 y3 y4 y5 hbk' hbB'
  go_wp2_with fail
  generalize hW2 : ((wb.setCell ⟨w.heap.size, 0, none⟩ (.int .u64 0)).setCell ⟨w.heap.size, 1, none⟩ (.int .i64 0)).setCell ⟨w.heap.size, 2, none⟩ (.int .u64 0) = W2
  obtain ⟨q0, q1, q2, hb9⟩ := three_set hbk.out (Nat.le_refl _) hW2
  refine bodyPost_ret (v := .tuple #[.agg #[.int .u64 0, .int .i64 0, .int .u64 0], .int .i64 0]) (by simp [results, Tryz.results37, go_sem, q0, q1, q2]) rfl ⟨rfl, hbB.out.trans hb9⟩
set_option maxRecDepth 100000 in
set_option maxHeartbeats 1000000 in
theorem hload_not {w : World} {p : Nat} {ok : Nat → Prop} {m : List FileD} (hT : Tabs w) (hD : DiskAt w p ok m) (g : Int) (g0 : -9223372036854775808 ≤ g) (g1 : g ≤ 9223372036854775807) (hgi : nameIn g = true) {f : FileD} (hfd : fFind m (gName hardPre g) = some f) (hdc : hDec f.data = none) :
    Calls Tryz.prog 37 #[.pointer (some ⟨p, 0, none⟩), .int .i64 g] w fun e w' => e = .returned (.tuple #[.agg #[.int .u64 0, .int .i64 0, .int .u64 0], .int .i64 5]) ∧ Below w.heap.size w w' := by
  generalize hO : (Obj.cells #[.int .u64 0, .int .i64 0, .int .u64 0] 49) = O
  have bx : (w.alloc O).heap[w.heap.size]? = some (.cells #[.int .u64 0, .int .i64 0, .int .u64 0] 49) := by rw [← hO]; exact heap_alloc_new w _
  have hb0 := ((Below.refl w.heap.size w).alloc (Nat.le_refl _) O)
  have hsz : (w.alloc O).heap.size = w.heap.size + 1 := by simp
  subst hO
  have hNs := gName_size (head := hardPre) rfl g g0 g1
  have hn := hname_at (hT.below hb0) (hD.step (Same.of_below hb0 ok)) g g0 g1 hgi
  have hD0 := Lib.hid (hD.step (Same.of_below hb0 ok))
  have hT0 := Lib.hid (hT.below hb0)
  clear hD hT
  generalize hW : w.alloc (.cells #[.int .u64 0, .int .i64 0, .int .u64 0] 49) = W at *
  change Calls Tryz.prog 89 _ W (fun e w' => e = .returned (.tuple #[.string (gName hardPre g), .bool true]) ∧ Below W.heap.size W w') at hn
  generalize gName hardPre g = NM at *
  go_enter Tryz.func37, Tryz.ntmps37
  go_wp2_with fail
  refine hn.mono ?_
  clear hn
  rintro e wa ⟨rfl, hba⟩
  obtain ⟨y0, y1, y2, y3, y4, y5, hbk'⟩ := three_at bx hba
  have hbB' := hb0.trans (hba.mono hb0.size)
  have hbk := Lib.hid hbk'
  have hbB := Lib.hid hbB'
  have hsz65 := (DiskAt.sz hD0.out).1 f (lfind_some hfd).1
  have hrd := read_some (hD0.out.step (Same.of_below hba ok)) NM (small_max (by omega)) hfd
  have hTa := Lib.hid (hT0.out.below hba)
  clear bx hba hb0 hT0 hfd hbk' hbB'
  go_wp2_with fail
  refine hrd.mono ?_
  clear hrd
  rintro e wb ⟨A1, c1, rfl, r1, hb1⟩
  have hdec := hdecode_no (hTa.out.below hb1) (Reads.of_own (α := UInt8) (enc := byteV) r1) (by omega) hdc
  obtain ⟨x0, x1, x2, x3, x4, x5, hbk'⟩ := three_at hbk.out hb1
  have hbB' := hbB.out.trans (hb1.mono hbB.out.size)
  replace hbk := Lib.hid hbk'
  replace hbB := Lib.hid hbB'
  clear hb1 y0 y1 y2 y3 y4 y5 hbk' hbB' r1 x0 x1 x2 x3 x4 x5
  go_wp2_with fail
  refine hdec.mono ?_
  clear hdec
  rintro e wc ⟨rfl, hb2⟩
  obtain ⟨y0, y1, y2, y3, y4, y5, hbk'⟩ := three_at hbk.out hb2
  have hbB' := hbB.out.trans (hb2.mono hbB.out.size)
  replace hbk := Lib.hid hbk'
  replace hbB := Lib.hid hbB'
  clear hb2 hbk' hbB'
  go_wp2_with fail
  generalize hW2 : ((wc.setCell ⟨w.heap.size, 0, none⟩ (.int .u64 0)).setCell ⟨w.heap.size, 1, none⟩ (.int .i64 0)).setCell ⟨w.heap.size, 2, none⟩ (.int .u64 0) = W2
  obtain ⟨q0, q1, q2, hb9⟩ := three_set hbk.out (Nat.le_refl _) hW2
  refine bodyPost_ret (v := .tuple #[.agg #[.int .u64 0, .int .i64 0, .int .u64 0], .int .i64 5]) (by simp [results, Tryz.results37, go_sem, q0, q1, q2]) rfl ⟨rfl, hbB.out.trans hb9⟩
set_option maxRecDepth 100000 in
set_option maxHeartbeats 1000000 in
theorem hload_yes {w : World} {p : Nat} {ok : Nat → Prop} {m : List FileD} (hT : Tabs w) (hD : DiskAt w p ok m) (g : Int) (g0 : -9223372036854775808 ≤ g) (g1 : g ≤ 9223372036854775807) (hgi : nameIn g = true) {f : FileD} (hfd : fFind m (gName hardPre g) = some f) {h : HardD} (hdc : hDec f.data = some h) :
    Calls Tryz.prog 37 #[.pointer (some ⟨p, 0, none⟩), .int .i64 g] w fun e w' => e = .returned (.tuple #[.agg #[.int .u64 h.term, .int .i64 h.vote, .int .u64 h.commit], .int .i64 0]) ∧ Below w.heap.size w w' := by
  generalize hO : (Obj.cells #[.int .u64 0, .int .i64 0, .int .u64 0] 49) = O
  have bx : (w.alloc O).heap[w.heap.size]? = some (.cells #[.int .u64 0, .int .i64 0, .int .u64 0] 49) := by rw [← hO]; exact heap_alloc_new w _
  have hb0 := ((Below.refl w.heap.size w).alloc (Nat.le_refl _) O)
  have hsz : (w.alloc O).heap.size = w.heap.size + 1 := by simp
  subst hO
  have hNs := gName_size (head := hardPre) rfl g g0 g1
  have hn := hname_at (hT.below hb0) (hD.step (Same.of_below hb0 ok)) g g0 g1 hgi
  have hD0 := Lib.hid (hD.step (Same.of_below hb0 ok))
  have hT0 := Lib.hid (hT.below hb0)
  clear hD hT
  generalize hW : w.alloc (.cells #[.int .u64 0, .int .i64 0, .int .u64 0] 49) = W at *
  change Calls Tryz.prog 89 _ W (fun e w' => e = .returned (.tuple #[.string (gName hardPre g), .bool true]) ∧ Below W.heap.size W w') at hn
  generalize gName hardPre g = NM at *
  go_enter Tryz.func37, Tryz.ntmps37
  go_wp2_with fail
  refine hn.mono ?_
  clear hn
  rintro e wa ⟨rfl, hba⟩
  obtain ⟨y0, y1, y2, y3, y4, y5, hbk'⟩ := three_at bx hba
  have hbB' := hb0.trans (hba.mono hb0.size)
  have hbk := Lib.hid hbk'
  have hbB := Lib.hid hbB'
  have hsz65 := (DiskAt.sz hD0.out).1 f (lfind_some hfd).1
  have hrd := read_some (hD0.out.step (Same.of_below hba ok)) NM (small_max (by omega)) hfd
  have hTa := Lib.hid (hT0.out.below hba)
  clear bx hba hb0 hT0 hfd hbk' hbB'
  go_wp2_with fail
  refine hrd.mono ?_
  clear hrd
  rintro e wb ⟨A1, c1, rfl, r1, hb1⟩
  have hdec := hdecode_yes (hTa.out.below hb1) (Reads.of_own (α := UInt8) (enc := byteV) r1) (by omega) hdc
  obtain ⟨x0, x1, x2, x3, x4, x5, hbk'⟩ := three_at hbk.out hb1
  have hbB' := hbB.out.trans (hb1.mono hbB.out.size)
  replace hbk := Lib.hid hbk'
  replace hbB := Lib.hid hbB'
  clear hb1 y0 y1 y2 y3 y4 y5 hbk' hbB' r1 x0 x1 x2 x3 x4 x5
  go_wp2_with fail
  refine hdec.mono ?_
  clear hdec
  rintro e wc ⟨rfl, hb2⟩
  obtain ⟨y0, y1, y2, y3, y4, y5, hbk'⟩ := three_at hbk.out hb2
  have hbB' := hbB.out.trans (hb2.mono hbB.out.size)
  replace hbk := Lib.hid hbk'
  replace hbB := Lib.hid hbB'
  clear hb2 hbk' hbB'
  go_wp2_with fail
  generalize hW2 : ((wc.setCell ⟨w.heap.size, 0, none⟩ (.int .u64 (h.term : Int))).setCell ⟨w.heap.size, 1, none⟩ (.int .i64 h.vote)).setCell ⟨w.heap.size, 2, none⟩ (.int .u64 (h.commit : Int)) = W2
  obtain ⟨q0, q1, q2, hb9⟩ := three_set hbk.out (Nat.le_refl _) hW2
  refine bodyPost_ret (v := .tuple #[.agg #[.int .u64 (h.term : Int), .int .i64 h.vote, .int .u64 (h.commit : Int)], .int .i64 0]) (by simp [results, Tryz.results37, go_sem, q0, q1, q2]) rfl ⟨rfl, hbB.out.trans hb9⟩
end Go.Proofs.YthnodmbenbiahaaGreatDoor
