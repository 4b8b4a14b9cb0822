/- The program's layer 3 (crc): the sum, bytes behind their sum. -/
import Derived.Test.YthnodmbenbiahaaGreatDoorWire
import Derived.Test.YthnodmbenbiahaaGreatDoorNum
import Derived.Laws.BitsAllLaws
namespace Go.Proofs.YthnodmbenbiahaaGreatDoor
open Go.RowKit Go.Maps

/-- The sum's table lies in memory. -/
def Known (w : World) : Prop := ∀ i : Nat, i < 16 → w.cell? ⟨1, i, none⟩ = some (.int .u32 ((crcTab.getD i 0 : Nat) : Int))
theorem Known.below {w w' : World} {B : Nat} (h : Known w) (hb : Below B w w') (hB : 1 < B) : Known w' := fun i hi => (hb.cell (p := ⟨1, i, none⟩) hB).trans (h i hi)
theorem Known.kept {w w' : World} {S : Nat → Prop} (h : Known w) (hk : Kept w w' S) (hS : ¬ S 1) : Known w' := fun i hi => hk.same.cell (a := ⟨1, i, none⟩) hS (h i hi)
theorem Known.lt {w : World} (h : Known w) : 1 < w.heap.size := cell_lt (h 0 (by decide))
theorem and15 {x : Nat} (h : x < 4294967296) : bits .and .u32 (x : Int) 15 = ((x % 16 : Nat) : Int) := by
  rw [show (15 : Int) = ((15 : Nat) : Int) from rfl, u32_and_nat _ _ h (by decide), nat_mask4]
theorem tab_lt (i : Nat) : crcTab.getD i 0 < 4294967296 := by
  rcases Nat.lt_or_ge i 16 with h | h
  · have : ∀ i : Fin 16, crcTab.getD i.val 0 < 4294967296 := by decide
    exact this ⟨i, h⟩
  · rw [List.getD_eq_getElem?_getD, List.getElem?_eq_none (by simpa [crcTab] using h)]
    decide
theorem tab_step {x : Nat} (h : x < 4294967296) : bits .xor .u32 ((crcTab.getD (x % 16) 0 : Nat) : Int) ((x : Int) / 16) = ((half4 x : Nat) : Int) := by
  rw [show (x : Int) / 16 = ((x / 16 : Nat) : Int) by omega, u32_xor_nat _ _ (tab_lt _) (by omega), ← half4_tab]

theorem not32 {x : Nat} (h : x < 4294967296) : bits .xor .u32 IntKind.u32.max (x : Int) = ((x ^^^ 4294967295 : Nat) : Int) := by
  have e : IntKind.u32.max = ((4294967295 : Nat) : Int) := by decide
  rw [e, u32_xor_nat _ _ (by decide) h, Nat.xor_comm]
set_option maxRecDepth 100000 in
set_option maxHeartbeats 1000000 in
theorem cstep_any {w : World} {ok : Nat → Prop} {A : Option Addr} {n c : Nat} {l : List UInt8} (hK : Known w) (hBy : Bytes w ok (.slice A n c) l) {r : Nat} (hr : r = crcOf l) :
    Calls Tryz.prog 182 #[.int .u32 0, .slice A n c] w fun e w' => e = .returned (.int .u32 r) ∧ w = w' := by
  obtain rfl := hBy.len
  have hmx : l.length ≤ 9223372036854775807 := hBy.max
  replace hK := Lib.hid hK
  replace hBy := Lib.hid hBy
  replace hr := Lib.hid hr
  go_enter Tryz.func182, Tryz.ntmps182
  go_wp2_with fail
  go_loop [5, 12] (fun v i => ∃ k x : Nat, k ≤ l.length ∧ i = .int .i64 k ∧ v = .int .u32 x ∧ Hid (x = crcFrom 4294967295 (l.take k)) ∧ x < 4294967296) (fun _ i => l.length - (intOf i).toNat)
  case atStart => exact ⟨0, 4294967295, Nat.zero_le _, rfl, congrArg (Value.int .u32) (not32 (x := 0) (by decide)), Lib.hid rfl, by decide⟩
  case round =>
    obtain ⟨k, x, hk, rfl, rfl, hx, hlt⟩ := hrel
    by_cases hkl : k < l.length
    · have i1 : (k : Int) < l.length := by omega
      have i2 : (0 : Int) ≤ k := by omega
      obtain ⟨b, o, rfl, _, q0⟩ := hBy.out.get k hkl
      change w.cell? ⟨b, o + k, none⟩ = some (.int .u8 (l[k].toNat : Int)) at q0
      have hc := l[k].toNat_lt
      have hstep := crcFrom_take 4294967295 l k hkl
      rw [← hx.out] at hstep
      generalize l[k] = y at *
      have eX := u32_xor_nat x y.toNat hlt (by omega)
      have hY := xor_lt (a := x) (b := y.toNat) hlt (by omega)
      have hz : crcStep x y = half4 (half4 (x ^^^ y.toNat)) := rfl
      rw [hz] at hstep
      clear hz
      generalize y.toNat = m at *
      generalize x ^^^ m = X at *
      have eA := and15 hY
      have eT := tab_step hY
      have q1 := hK.out (X % 16) (Nat.mod_lt _ (by decide))
      have hA : X % 16 < 16 := Nat.mod_lt _ (by decide)
      have hZ := half4_lt hY
      generalize X % 16 = a at *
      generalize crcTab.getD a 0 = T1 at *
      generalize half4 X = Z at *
      have eA2 := and15 hZ
      have eT2 := tab_step hZ
      have q2 := hK.out (Z % 16) (Nat.mod_lt _ (by decide))
      have hA2 : Z % 16 < 16 := Nat.mod_lt _ (by decide)
      have hR := half4_lt hZ
      generalize Z % 16 = a2 at *
      generalize crcTab.getD a2 0 = T2 at *
      generalize half4 Z = R at *
      have i3 : (a : Int) < 16 := by omega
      have i4 : (0 : Int) ≤ a := by omega
      have i5 : (a2 : Int) < 16 := by omega
      have i6 : (0 : Int) ≤ a2 := by omega
      replace hstep := Lib.hid hstep.symm
      clear hx
      go_wp2_with fail
      go_round
      case measure => simp [intOf]; omega
      case rel => exact ⟨k + 1, R, by omega, by go_num, rfl, hstep, hR⟩
    · obtain rfl : k = l.length := by omega
      have hx1 := hx.out
      rw [List.take_length] at hx1
      have e1 := not32 hlt
      have e2 : x ^^^ 4294967295 = r := by rw [hr.out, hx1]; rfl
      rw [e2] at e1
      clear hx hx1 e2 hr
      go_wp2_with fail
      go_ret
      exact ⟨rfl, rfl⟩
end Go.Proofs.YthnodmbenbiahaaGreatDoor
