/- Law DiskNobody, walked: a disk that nobody made has nothing. The disk's calls at a nil pointer and at an empty disk. -/
import Derived.Test.YthnodmbenbiahaaDoorActs
namespace Go.Proofs.YthnodmbenbiahaaDoor
open Go.RowKit Go.Maps

/-- v is no disk, in w. -/
def NoDisk (w : World) (v : Value) : Prop := Calls Tryd.prog 32 #[v] w fun e w' => e = .returned (.bool false) ∧ w = w'
theorem nodisk_nil (w : World) : NoDisk w (.pointer none) := is_nil w
theorem nodisk_cell (w : World) (p : Nat) (hc : w.cell? ⟨p, 0, none⟩ = some (.map none)) : NoDisk w (.pointer (some ⟨p, 0, none⟩)) := is_cell w p none hc
section
variable {w : World} {v : Value}
theorem names_no (h : NoDisk w v) : Calls Tryd.prog 36 #[v] w fun e w' => e = .returned (.slice none 0 0) ∧ w = w' := by
  unfold NoDisk at h
  go_enter Tryd.func36, Tryd.ntmps36
  go_wp2_with (go_at_call 32; refine h.mono ?_; rintro e w' ⟨rfl, rfl⟩)
  go_ret
  exact ⟨rfl, rfl⟩
theorem crash_no (h : NoDisk w v) (cv : Value) : Calls Tryd.prog 16 #[v, cv] w fun e w' => e = .returned (.tuple #[]) ∧ w = w' := by
  have hn := names_no h
  clear h
  go_enter Tryd.func16, Tryd.ntmps16
  go_wp2_with (go_at_call 36; refine hn.mono ?_; rintro e w' ⟨rfl, rfl⟩)
  go_loopw [11] (fun i wr => i = .int .i64 0 ∧ wr = w) (fun _ _ => 0)
  case atStart => exact ⟨rfl, by first | trivial | rfl⟩
  case round =>
    obtain ⟨rfl, rfl⟩ := hrel
    go_wp2_with fail
    go_end0
    exact ⟨rfl, rfl⟩
theorem files_no (h : NoDisk w v) : Calls Tryd.prog 13 #[v] w fun e w' => e = .returned (.slice none 0 0) ∧ w = w' := by
  have hn := names_no h
  clear h
  go_enter Tryd.func13, Tryd.ntmps13
  go_wp2_with (go_at_call 36; refine hn.mono ?_; rintro e w' ⟨rfl, rfl⟩)
  go_loopw [3, 10] (fun o i wr => o = .slice none 0 0 ∧ i = .int .i64 0 ∧ wr = w) (fun _ _ _ => 0)
  case atStart => exact ⟨rfl, rfl, by first | trivial | rfl⟩
  case round =>
    obtain ⟨rfl, rfl, rfl⟩ := hrel
    go_wp2_with fail
    go_ret
    exact ⟨rfl, rfl⟩
theorem append_nodisk (h : NoDisk w v) (s : ByteArray) (bv : Value) : Calls Tryd.prog 10 #[v, .string s, bv] w fun e w' => e = .returned (.int .i64 1) ∧ w = w' := by
  unfold NoDisk at h
  go_enter Tryd.func10, Tryd.ntmps10
  go_wp2_with (go_at_call 32; refine h.mono ?_; rintro e w' ⟨rfl, rfl⟩)
  go_ret
  exact ⟨rfl, rfl⟩
theorem read_no (h : NoDisk w v) (s : ByteArray) : Calls Tryd.prog 12 #[v, .string s] w fun e w' => e = .returned (.tuple #[.slice none 0 0, .bool false]) ∧ w = w' := by
  have hf := find_nobody w v s h
  clear h
  go_enter Tryd.func12, Tryd.ntmps12
  go_wp2_with (go_at_call 34; refine hf.mono ?_; rintro e w' ⟨rfl, rfl⟩)
  go_ret2
  exact ⟨rfl, rfl⟩
theorem sync_no (h : NoDisk w v) (s : ByteArray) : Calls Tryd.prog 17 #[v, .string s] w fun e w' => e = .returned (.int .i64 1) ∧ w = w' := by
  have hf := find_nobody w v s h
  clear h
  go_enter Tryd.func17, Tryd.ntmps17
  go_wp2_with (go_at_call 34; refine hf.mono ?_; rintro e w' ⟨rfl, rfl⟩)
  go_ret
  exact ⟨rfl, rfl⟩
theorem cut_no (h : NoDisk w v) (s : ByteArray) (n : Int) : Calls Tryd.prog 18 #[v, .string s, .int .i64 n] w fun e w' => e = .returned (.int .i64 1) ∧ w = w' := by
  have hf := find_nobody w v s h
  clear h
  go_enter Tryd.func18, Tryd.ntmps18
  go_wp2_with (go_at_call 34; refine hf.mono ?_; rintro e w' ⟨rfl, rfl⟩)
  go_ret
  exact ⟨rfl, rfl⟩
theorem rename_no (h : NoDisk w v) (s t : ByteArray) : Calls Tryd.prog 19 #[v, .string s, .string t] w fun e w' => e = .returned (.int .i64 1) ∧ w = w' := by
  have hf := find_nobody w v s h
  clear h
  go_enter Tryd.func19, Tryd.ntmps19
  go_wp2_with (go_at_call 34; refine hf.mono ?_; rintro e w' ⟨rfl, rfl⟩)
  go_ret
  exact ⟨rfl, rfl⟩
theorem remove_no (h : NoDisk w v) (s : ByteArray) : Calls Tryd.prog 20 #[v, .string s] w fun e w' => e = .returned (.int .i64 1) ∧ w = w' := by
  have hf := find_nobody w v s h
  clear h
  go_enter Tryd.func20, Tryd.ntmps20
  go_wp2_with (go_at_call 34; refine hf.mono ?_; rintro e w' ⟨rfl, rfl⟩)
  go_ret
  exact ⟨rfl, rfl⟩
end

set_option maxRecDepth 100000 in
set_option maxHeartbeats 4000000 in
theorem diskNobody_walk (w : World) (a : ActD) (bv cv : Value) (hbv : ∃ A n c, bv = .slice A n c) (hcv : ∃ A n c, cv = .slice A n c) :
    Calls Tryd.prog 5 #[.agg #[.int .i64 a.act, .string a.name, .string a.dst, bv, .int .i64 a.n, cv]] w fun e w' => e = .returned (.bool true) ∧ Below w.heap.size w w' := by
  obtain ⟨BA, bn, bc, rfl⟩ := hbv
  obtain ⟨CA, cn, cc, rfl⟩ := hcv
  obtain ⟨act, name, tn, bs, n, cuts⟩ := a
  simp only
  generalize hO : (Obj.cells #[.int .i64 act, .string name, .string tn, .slice BA bn bc, .int .i64 n, .slice CA cn cc] 41) = O
  have bx : (w.alloc O).heap[w.heap.size]? = some (.cells #[.int .i64 act, .string name, .string tn, .slice BA bn bc, .int .i64 n, .slice CA cn cc] 41) := by rw [← hO]; exact heap_alloc_new w _
  have hBel : Below w.heap.size w (w.alloc O) := (Below.refl _ _).alloc (Nat.le_refl _) O
  have hs1 : (w.alloc O).heap.size = w.heap.size + 1 := by simp
  generalize hw1 : w.alloc O = w1 at *
  rw [← hO] at hw1
  clear hO
  replace bx := Lib.hid bx
  replace hBel := Lib.hid hBel
  replace hs1 := Lib.hid hs1
  go_enter Tryd.func5, Tryd.ntmps5
  go_wp2_with fail
  go_loopw [3] (fun i wr => ∃ k : Nat, k ≤ 2 ∧ i = .int .i64 k ∧ Below w1.heap.size w1 wr) (fun i _ => 2 - (intOf i).toNat)
  case atStart => exact ⟨0, by omega, rfl, Below.refl _ _⟩
  case round =>
    obtain ⟨k, hk, rfl, hB⟩ := hrel
    have b0 := (hB.block w.heap.size (by have := hs1.out; omega)).trans bx.out
    by_cases h2 : k = 2
    · subst h2
      replace hB := Lib.hid hB
      go_wp2_with (go_at_call 11; refine (awake5 _).mono ?_; rintro e w7 ⟨rfl, hb7⟩)
      go_ret
      exact ⟨rfl, (hBel.out.trans (hB.out.mono (by have := hs1.out; omega))).trans (hb7.mono (by have := hs1.out; have := hB.out.size; omega))⟩
    have z1 : wr.cell? ⟨w.heap.size, 1, none⟩ = some (.string name) := cell_blk b0 1
    have z2 : wr.cell? ⟨w.heap.size, 2, none⟩ = some (.string tn) := cell_blk b0 2
    have z3 : wr.cell? ⟨w.heap.size, 3, none⟩ = some (.slice BA bn bc) := cell_blk b0 3
    have z4 : wr.cell? ⟨w.heap.size, 4, none⟩ = some (.int .i64 n) := cell_blk b0 4
    have z5 : wr.cell? ⟨w.heap.size, 5, none⟩ = some (.slice CA cn cc) := cell_blk b0 5
    by_cases h0 : k = 0
    · subst h0
      have hnd := nodisk_nil wr
      go_wp2_with (first | (go_at_call 16; refine (crash_no hnd _).mono ?_; rintro e w' ⟨rfl, rfl⟩) | (go_at_call 12; refine (read_no hnd _).mono ?_; rintro e w' ⟨rfl, rfl⟩) | (go_at_call 10; refine (append_nodisk hnd _ _).mono ?_; rintro e w' ⟨rfl, rfl⟩) | (go_at_call 17; refine (sync_no hnd _).mono ?_; rintro e w' ⟨rfl, rfl⟩) | (go_at_call 18; refine (cut_no hnd _ _).mono ?_; rintro e w' ⟨rfl, rfl⟩) | (go_at_call 19; refine (rename_no hnd _ _).mono ?_; rintro e w' ⟨rfl, rfl⟩) | (go_at_call 20; refine (remove_no hnd _).mono ?_; rintro e w' ⟨rfl, rfl⟩) | (go_at_call 13; refine (files_no hnd).mono ?_; rintro e w' ⟨rfl, rfl⟩))
      go_roundw
      case measure => simp [intOf]
      case rel => exact ⟨1, by omega, rfl, hB⟩
    · obtain rfl : k = 1 := by omega
      have hx := heap_alloc_new wr (.cells #[.map none] 46)
      have hnd := nodisk_cell (wr.alloc (.cells #[.map none] 46)) wr.heap.size (cell_blk hx 0)
      have hB2 := Lib.hid (hB.alloc hB.size (.cells #[.map none] 46))
      have y1 : (wr.alloc (.cells #[.map none] 46)).cell? ⟨w.heap.size, 1, none⟩ = some (.string name) := (World.cell?_alloc_lt wr _ _ (cell_lt z1)).trans z1
      have y2 : (wr.alloc (.cells #[.map none] 46)).cell? ⟨w.heap.size, 2, none⟩ = some (.string tn) := (World.cell?_alloc_lt wr _ _ (cell_lt z2)).trans z2
      have y3 : (wr.alloc (.cells #[.map none] 46)).cell? ⟨w.heap.size, 3, none⟩ = some (.slice BA bn bc) := (World.cell?_alloc_lt wr _ _ (cell_lt z3)).trans z3
      have y4 : (wr.alloc (.cells #[.map none] 46)).cell? ⟨w.heap.size, 4, none⟩ = some (.int .i64 n) := (World.cell?_alloc_lt wr _ _ (cell_lt z4)).trans z4
      have y5 : (wr.alloc (.cells #[.map none] 46)).cell? ⟨w.heap.size, 5, none⟩ = some (.slice CA cn cc) := (World.cell?_alloc_lt wr _ _ (cell_lt z5)).trans z5
      clear hx b0 hB
      generalize hW : wr.alloc (.cells #[.map none] 46) = W at *
      go_wp2_with (first | (go_at_call 16; refine (crash_no hnd _).mono ?_; rintro e w' ⟨rfl, rfl⟩) | (go_at_call 12; refine (read_no hnd _).mono ?_; rintro e w' ⟨rfl, rfl⟩) | (go_at_call 10; refine (append_nodisk hnd _ _).mono ?_; rintro e w' ⟨rfl, rfl⟩) | (go_at_call 17; refine (sync_no hnd _).mono ?_; rintro e w' ⟨rfl, rfl⟩) | (go_at_call 18; refine (cut_no hnd _ _).mono ?_; rintro e w' ⟨rfl, rfl⟩) | (go_at_call 19; refine (rename_no hnd _ _).mono ?_; rintro e w' ⟨rfl, rfl⟩) | (go_at_call 20; refine (remove_no hnd _).mono ?_; rintro e w' ⟨rfl, rfl⟩) | (go_at_call 13; refine (files_no hnd).mono ?_; rintro e w' ⟨rfl, rfl⟩))
      go_roundw
      case measure => simp [intOf]
      case rel => exact ⟨2, by omega, rfl, hB2.out⟩
end Go.Proofs.YthnodmbenbiahaaDoor
