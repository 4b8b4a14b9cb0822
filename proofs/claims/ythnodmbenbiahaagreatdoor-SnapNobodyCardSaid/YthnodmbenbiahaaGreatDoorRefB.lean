/- The document's answer for disks (package gudgeonref05), walked: Name, put. -/
import Derived.Test.YthnodmbenbiahaaGreatDoorRefA
import Derived.Test.YthnodmbenbiahaaGreatDoorRefP
namespace Go.Proofs.YthnodmbenbiahaaGreatDoor
open Go.RowKit Go.Maps

def okByte (c : UInt8) : Bool := (decide (97 ≤ c.toNat) && decide (c.toNat ≤ 122)) || (decide (48 ≤ c.toNat) && decide (c.toNat ≤ 57)) || decide (c.toNat = 46) || decide (c.toNat = 45)
theorem okName_all {s : ByteArray} (h1 : 1 ≤ s.size) (h2 : s.size ≤ 32) : okName s = s.data.toList.all okByte := by
  unfold okName okByte
  simp [h1, h2]

set_option maxHeartbeats 400000 in
theorem rname_any (s : ByteArray) (w : World) (_hs : s.size ≤ maxLen) : Calls Tryz.prog 123 #[.string s] w fun e w' => e = .returned (.bool (okName s)) ∧ w = w' := by
  by_cases h1 : s.size < 1
  · have e := okName_short h1
    go_enter Tryz.func123, Tryz.ntmps123
    go_wp2_with fail
    go_ret
    first | exact ⟨rfl, rfl⟩ | exact ⟨by rw [e]; rfl, rfl⟩
  by_cases h2 : 32 < s.size
  · have e := okName_long h2
    go_enter Tryz.func123, Tryz.ntmps123
    go_wp2_with fail
    go_ret
    first | exact ⟨rfl, rfl⟩ | exact ⟨by rw [e]; rfl, rfl⟩
  have e := Lib.hid (okName_all (s := s) (by omega) (by omega))
  go_enter Tryz.func123, Tryz.ntmps123
  go_wp2_with fail
  go_loopw [3] (fun i wr => ∃ k : Nat, k ≤ s.size ∧ i = .int .i64 k ∧ Hid ((s.data.toList.take k).all okByte = true) ∧ wr = w) (fun i _ => s.size - (intOf i).toNat)
  case atStart => exact ⟨0, Nat.zero_le _, rfl, Lib.hid (by simp), by first | trivial | rfl⟩
  case round =>
    obtain ⟨k, hk, rfl, hno, rfl⟩ := hrel
    by_cases hlt : k < s.size
    · have i1 : (k : Int) < s.size := by omega
      have hlt' : k < s.data.toList.length := by simpa using hlt
      have htk : s.data.toList.take (k + 1) = s.data.toList.take k ++ [s.data.toList[k]] := List.take_succ_eq_append_getElem hlt'
      have hc : s.data.toList[k] = s[k] := rfl
      rw [hc] at htk
      have hgood : (97 ≤ s[k].toNat ∧ s[k].toNat ≤ 122 ∨ 48 ≤ s[k].toNat ∧ s[k].toNat ≤ 57 ∨ s[k].toNat = 46 ∨ s[k].toNat = 45) → (s.data.toList.take (k + 1)).all okByte = true := fun h => by
        rw [htk, List.all_append, hno.out]
        simp only [List.all_cons, List.all_nil, Bool.and_true, Bool.true_and]
        unfold okByte
        simp only [Bool.or_eq_true, Bool.and_eq_true, decide_eq_true_eq]
        omega
      have hbad : ¬ (97 ≤ s[k].toNat ∧ s[k].toNat ≤ 122 ∨ 48 ≤ s[k].toNat ∧ s[k].toNat ≤ 57 ∨ s[k].toNat = 46 ∨ s[k].toNat = 45) → okName s = false := fun h => by
        rw [e.out, List.all_eq_false]
        refine ⟨s[k], by rw [← hc]; exact List.getElem_mem _, ?_⟩
        unfold okByte
        simp only [Bool.or_eq_true, Bool.and_eq_true, decide_eq_true_eq]
        omega
      have hgood := Lib.hid hgood
      have hbad := Lib.hid hbad
      clear htk
      go_wp2_with fail
      all_goals first
        | (go_roundw
           case measure => simp [intOf]; omega
           case rel => exact ⟨k + 1, by omega, by go_num, Lib.hid (hgood.out (by first | omega | (simp only [Bool.not_eq_false', decide_eq_true_eq, beq_iff_eq] at * <;> omega))), by first | trivial | rfl⟩)
        | (go_ret
           refine ⟨?_, rfl⟩
           rw [hbad.out (by first | omega | (simp only [Bool.not_eq_true', beq_eq_false_iff_ne, ne_eq] at * <;> omega))]
           rfl)
    · obtain rfl : k = s.size := by omega
      clear hlt
      go_wp2_with fail
      go_ret
      refine ⟨?_, rfl⟩
      rw [e.out]
      have := hno.out
      rw [List.take_of_length_le (by simp)] at this
      rw [this]; rfl
end Go.Proofs.YthnodmbenbiahaaGreatDoor
