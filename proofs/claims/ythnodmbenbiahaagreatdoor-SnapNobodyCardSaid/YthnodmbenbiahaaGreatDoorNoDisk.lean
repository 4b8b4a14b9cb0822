/- The disk's calls at a nil pointer and at an empty disk: nothing. -/
import Derived.Test.YthnodmbenbiahaaGreatDoorDiskA
namespace Go.Proofs.YthnodmbenbiahaaGreatDoor
open Go.RowKit Go.Maps

/-- v is no disk, in w. -/
def NoDisk (w : World) (v : Value) : Prop := Calls Tryz.prog 115 #[v] w fun e w' => e = .returned (.bool false) ∧ w = w'
theorem nodisk_nil (w : World) : NoDisk w (.pointer none) := is_nil w
theorem nodisk_cell (w : World) (p : Nat) (hc : w.cell? ⟨p, 0, none⟩ = some (.map none)) : NoDisk w (.pointer (some ⟨p, 0, none⟩)) := is_cell w p none hc
section
variable {w : World} {v : Value}
theorem names_no (h : NoDisk w v) : Calls Tryz.prog 62 #[v] w fun e w' => e = .returned (.slice none 0 0) ∧ w = w' := by
  unfold NoDisk at h
  go_enter Tryz.func62, Tryz.ntmps62
  go_wp2_with (go_at_call 115; refine h.mono ?_; rintro e w' ⟨rfl, rfl⟩)
  go_ret
  exact ⟨rfl, rfl⟩
theorem crash_no (h : NoDisk w v) (cv : Value) : Calls Tryz.prog 16 #[v, cv] w fun e w' => e = .returned (.tuple #[]) ∧ w = w' := by
  have hn := names_no h
  clear h
  go_enter Tryz.func16, Tryz.ntmps16
  go_wp2_with (go_at_call 62; refine hn.mono ?_; rintro e w' ⟨rfl, rfl⟩)
  go_loopw [11] (fun i wr => i = .int .i64 0 ∧ wr = w) (fun _ _ => 0)
  case atStart => exact ⟨rfl, by first | trivial | rfl⟩
  case round =>
    obtain ⟨rfl, rfl⟩ := hrel
    go_wp2_with fail
    go_end0
    exact ⟨rfl, rfl⟩
theorem files_no (h : NoDisk w v) : Calls Tryz.prog 21 #[v] w fun e w' => e = .returned (.slice none 0 0) ∧ w = w' := by
  have hn := names_no h
  clear h
  go_enter Tryz.func21, Tryz.ntmps21
  go_wp2_with (go_at_call 62; refine hn.mono ?_; rintro e w' ⟨rfl, rfl⟩)
  go_loopw [3, 10] (fun o i wr => o = .slice none 0 0 ∧ i = .int .i64 0 ∧ wr = w) (fun _ _ _ => 0)
  case atStart => exact ⟨rfl, rfl, by first | trivial | rfl⟩
  case round =>
    obtain ⟨rfl, rfl, rfl⟩ := hrel
    go_wp2_with fail
    go_ret
    exact ⟨rfl, rfl⟩
theorem append_nodisk (h : NoDisk w v) (s : ByteArray) (bv : Value) : Calls Tryz.prog 67 #[v, .string s, bv] w fun e w' => e = .returned (.int .i64 1) ∧ w = w' := by
  unfold NoDisk at h
  go_enter Tryz.func67, Tryz.ntmps67
  go_wp2_with (go_at_call 115; refine h.mono ?_; rintro e w' ⟨rfl, rfl⟩)
  go_ret
  exact ⟨rfl, rfl⟩
theorem read_no (h : NoDisk w v) (s : ByteArray) : Calls Tryz.prog 86 #[v, .string s] w fun e w' => e = .returned (.tuple #[.slice none 0 0, .bool false]) ∧ w = w' := by
  have hf := find_nobody w v s h
  clear h
  go_enter Tryz.func86, Tryz.ntmps86
  go_wp2_with (go_at_call 121; refine hf.mono ?_; rintro e w' ⟨rfl, rfl⟩)
  go_ret2
  exact ⟨rfl, rfl⟩
theorem sync_no (h : NoDisk w v) (s : ByteArray) : Calls Tryz.prog 68 #[v, .string s] w fun e w' => e = .returned (.int .i64 1) ∧ w = w' := by
  have hf := find_nobody w v s h
  clear h
  go_enter Tryz.func68, Tryz.ntmps68
  go_wp2_with (go_at_call 121; refine hf.mono ?_; rintro e w' ⟨rfl, rfl⟩)
  go_ret
  exact ⟨rfl, rfl⟩
theorem cut_no (h : NoDisk w v) (s : ByteArray) (n : Int) : Calls Tryz.prog 66 #[v, .string s, .int .i64 n] w fun e w' => e = .returned (.int .i64 1) ∧ w = w' := by
  have hf := find_nobody w v s h
  clear h
  go_enter Tryz.func66, Tryz.ntmps66
  go_wp2_with (go_at_call 121; refine hf.mono ?_; rintro e w' ⟨rfl, rfl⟩)
  go_ret
  exact ⟨rfl, rfl⟩
theorem rename_no (h : NoDisk w v) (s t : ByteArray) : Calls Tryz.prog 69 #[v, .string s, .string t] w fun e w' => e = .returned (.int .i64 1) ∧ w = w' := by
  have hf := find_nobody w v s h
  clear h
  go_enter Tryz.func69, Tryz.ntmps69
  go_wp2_with (go_at_call 121; refine hf.mono ?_; rintro e w' ⟨rfl, rfl⟩)
  go_ret
  exact ⟨rfl, rfl⟩
theorem remove_no (h : NoDisk w v) (s : ByteArray) : Calls Tryz.prog 94 #[v, .string s] w fun e w' => e = .returned (.int .i64 1) ∧ w = w' := by
  have hf := find_nobody w v s h
  clear h
  go_enter Tryz.func94, Tryz.ntmps94
  go_wp2_with (go_at_call 121; refine hf.mono ?_; rintro e w' ⟨rfl, rfl⟩)
  go_ret
  exact ⟨rfl, rfl⟩
end
end Go.Proofs.YthnodmbenbiahaaGreatDoor
