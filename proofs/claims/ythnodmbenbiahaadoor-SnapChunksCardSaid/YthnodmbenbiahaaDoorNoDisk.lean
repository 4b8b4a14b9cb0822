/- The disk's calls at a nil pointer and at an empty disk: nothing. -/
import Derived.Test.YthnodmbenbiahaaDoorDiskA
namespace Go.Proofs.YthnodmbenbiahaaDoor
open Go.RowKit Go.Maps

/-- v is no disk, in w. -/
def NoDisk (w : World) (v : Value) : Prop := Calls Tryd.prog 32 #[v] w fun e w' => e = .returned (.bool false) ∧ w = w'
theorem nodisk_nil (w : World) : NoDisk w (.pointer none) := is_nil w
theorem nodisk_cell (w : World) (p : Nat) (hc : w.cell? ⟨p, 0, none⟩ = some (.map none)) : NoDisk w (.pointer (some ⟨p, 0, none⟩)) := is_cell w p none hc
section
variable {w : World} {v : Value}
theorem names_no (h : NoDisk w v) : Calls Tryd.prog 36 #[v] w fun e w' => e = .returned (.slice none 0 0) ∧ w = w' := by
  unfold NoDisk at h
  go_enter Tryd.func36, Tryd.ntmps36
  go_wp2_with (go_at_call 32; refine h.mono ?_; rintro e w' ⟨rfl, rfl⟩)
  go_ret
  exact ⟨rfl, rfl⟩
theorem crash_no (h : NoDisk w v) (cv : Value) : Calls Tryd.prog 16 #[v, cv] w fun e w' => e = .returned (.tuple #[]) ∧ w = w' := by
  have hn := names_no h
  clear h
  go_enter Tryd.func16, Tryd.ntmps16
  go_wp2_with (go_at_call 36; refine hn.mono ?_; rintro e w' ⟨rfl, rfl⟩)
  go_loopw [11] (fun i wr => i = .int .i64 0 ∧ wr = w) (fun _ _ => 0)
  case atStart => exact ⟨rfl, by first | trivial | rfl⟩
  case round =>
    obtain ⟨rfl, rfl⟩ := hrel
    go_wp2_with fail
    go_end0
    exact ⟨rfl, rfl⟩
theorem files_no (h : NoDisk w v) : Calls Tryd.prog 13 #[v] w fun e w' => e = .returned (.slice none 0 0) ∧ w = w' := by
  have hn := names_no h
  clear h
  go_enter Tryd.func13, Tryd.ntmps13
  go_wp2_with (go_at_call 36; refine hn.mono ?_; rintro e w' ⟨rfl, rfl⟩)
  go_loopw [3, 10] (fun o i wr => o = .slice none 0 0 ∧ i = .int .i64 0 ∧ wr = w) (fun _ _ _ => 0)
  case atStart => exact ⟨rfl, rfl, by first | trivial | rfl⟩
  case round =>
    obtain ⟨rfl, rfl, rfl⟩ := hrel
    go_wp2_with fail
    go_ret
    exact ⟨rfl, rfl⟩
theorem append_nodisk (h : NoDisk w v) (s : ByteArray) (bv : Value) : Calls Tryd.prog 10 #[v, .string s, bv] w fun e w' => e = .returned (.int .i64 1) ∧ w = w' := by
  unfold NoDisk at h
  go_enter Tryd.func10, Tryd.ntmps10
  go_wp2_with (go_at_call 32; refine h.mono ?_; rintro e w' ⟨rfl, rfl⟩)
  go_ret
  exact ⟨rfl, rfl⟩
theorem read_no (h : NoDisk w v) (s : ByteArray) : Calls Tryd.prog 12 #[v, .string s] w fun e w' => e = .returned (.tuple #[.slice none 0 0, .bool false]) ∧ w = w' := by
  have hf := find_nobody w v s h
  clear h
  go_enter Tryd.func12, Tryd.ntmps12
  go_wp2_with (go_at_call 34; refine hf.mono ?_; rintro e w' ⟨rfl, rfl⟩)
  go_ret2
  exact ⟨rfl, rfl⟩
theorem sync_no (h : NoDisk w v) (s : ByteArray) : Calls Tryd.prog 17 #[v, .string s] w fun e w' => e = .returned (.int .i64 1) ∧ w = w' := by
  have hf := find_nobody w v s h
  clear h
  go_enter Tryd.func17, Tryd.ntmps17
  go_wp2_with (go_at_call 34; refine hf.mono ?_; rintro e w' ⟨rfl, rfl⟩)
  go_ret
  exact ⟨rfl, rfl⟩
theorem cut_no (h : NoDisk w v) (s : ByteArray) (n : Int) : Calls Tryd.prog 18 #[v, .string s, .int .i64 n] w fun e w' => e = .returned (.int .i64 1) ∧ w = w' := by
  have hf := find_nobody w v s h
  clear h
  go_enter Tryd.func18, Tryd.ntmps18
  go_wp2_with (go_at_call 34; refine hf.mono ?_; rintro e w' ⟨rfl, rfl⟩)
  go_ret
  exact ⟨rfl, rfl⟩
theorem rename_no (h : NoDisk w v) (s t : ByteArray) : Calls Tryd.prog 19 #[v, .string s, .string t] w fun e w' => e = .returned (.int .i64 1) ∧ w = w' := by
  have hf := find_nobody w v s h
  clear h
  go_enter Tryd.func19, Tryd.ntmps19
  go_wp2_with (go_at_call 34; refine hf.mono ?_; rintro e w' ⟨rfl, rfl⟩)
  go_ret
  exact ⟨rfl, rfl⟩
theorem remove_no (h : NoDisk w v) (s : ByteArray) : Calls Tryd.prog 20 #[v, .string s] w fun e w' => e = .returned (.int .i64 1) ∧ w = w' := by
  have hf := find_nobody w v s h
  clear h
  go_enter Tryd.func20, Tryd.ntmps20
  go_wp2_with (go_at_call 34; refine hf.mono ?_; rintro e w' ⟨rfl, rfl⟩)
  go_ret
  exact ⟨rfl, rfl⟩
end
end Go.Proofs.YthnodmbenbiahaaDoor
