/- The program's layer 8 (snap): Count and Chunk. -/
import Derived.Test.YthnodmbenbiahaaGreatDoorHardC
namespace Go.Proofs.YthnodmbenbiahaaGreatDoor
open Go.RowKit Go.Maps

/-- How many chunks n bytes have. -/
def cnt (n : Nat) : Nat := max 1 (n / 256 + min 1 (n % 256))
set_option maxRecDepth 100000 in
theorem scount_neg {w : World} (n : Int) (h : n < 0) :
    Calls Tryz.prog 58 #[.int .i64 n] w fun e w' => e = .returned (.int .i64 0) ∧ w = w' := by
  go_enter Tryz.func58, Tryz.ntmps58
  go_wp2_with fail
  go_ret
  exact ⟨rfl, rfl⟩
set_option maxRecDepth 100000 in
theorem scount_nat {w : World} (n : Nat) (h : n ≤ 9223372036854775807) {k : Nat} (hk : k = cnt n) :
    Calls Tryz.prog 58 #[.int .i64 n] w fun e w' => e = .returned (.int .i64 k) ∧ w = w' := by
  have h0 : ¬ (n : Int) < 0 := by omega
  replace hk := Lib.hid hk
  go_enter Tryz.func58, Tryz.ntmps58
  go_wp2_with fail
  go_ret
  have hc : (max 1 ((n : Int) / 256 + min 1 ((n : Int) % 256))) = k := by rw [hk.out]; unfold cnt; omega
  rw [← hc]
  exact ⟨rfl, rfl⟩
theorem cnt_pos (n : Nat) : 1 ≤ cnt n := by unfold cnt; omega
end Go.Proofs.YthnodmbenbiahaaGreatDoor
