/- Law 8's awake: a snapshot that was saved is there behind a crash. -/
import Derived.Test.YthnodmbenbiahaaGreatDoorSnapA
import Derived.Test.YthnodmbenbiahaaGreatDoorSnapL
import Derived.Test.YthnodmbenbiahaaGreatDoorAwake7
import Derived.Lib.SlBytesConst
namespace Go.Proofs.YthnodmbenbiahaaGreatDoor
open Go.RowKit Go.Maps

theorem sEnc_length {s : SnapD} (hi : s.index < 2 ^ 64) (ht : s.term < 2 ^ 64) (hb : s.b.length ≤ 32768) : (sEnc s).length ≤ 40000 := by
  unfold sEnc
  rw [frameB_length]
  have h1 := uv_ten hi
  have h2 := uv_ten ht
  have := uv_ten (show (uv s.index ++ uv s.term ++ s.b).length + 5 < 2 ^ 64 by simp only [List.length_append]; omega)
  simp only [List.length_append] at *
  omega
def snapAB : SnapD := ⟨3, 2, [97, 98]⟩
theorem two_bytes (w : World) : Bytes (w.alloc (.cells #[.int .u8 97, .int .u8 98] 5 (2, 3))) (fun k => k = w.heap.size) (.slice (some ⟨w.heap.size, 0, none⟩) 2 2) [97, 98] := by
  refine ⟨some ⟨w.heap.size, 0, none⟩, 2, rfl, Nat.le_refl _, Nat.le_trans (show 2 ≤ 3 by decide) (by unfold maxLen; decide), ?_⟩
  exact Cells.of_blk (cs := [.int .u8 97, .int .u8 98]) (heap_alloc_new w _)
set_option maxRecDepth 100000 in
set_option maxHeartbeats 1000000 in
theorem awake8 {w : World} (hT : Tabs w) : Calls Tryz.prog 13 #[] w fun e w' => e = .returned (.bool true) ∧ Below w.heap.size w w' := by
  have hgi : nameIn 4 = true := by decide
  have hsv := pSave_nil (name := gName snapPre 4) (nw := gNew snapPre 4) (enc := sEnc snapAB) (gNew_ok rfl snapPre_ok hgi) (by have := sEnc_length (s := snapAB) (by decide) (by decide) (by decide); omega)
  have hfd := pSave_find nil_rising (gName_ok rfl snapPre_ok hgi) hsv
  have hrs := pSave_rising nil_rising (gName snapPre 4) (gNew snapPre 4) (sEnc snapAB)
  have hdc := sDec_enc (s := snapAB) (by decide) (by decide) (by decide) (by decide)
  have hfc := crash_find hrs [] hfd rfl
  obtain ⟨enc, hE⟩ : ∃ enc, enc = sEnc snapAB := ⟨_, rfl⟩
  rw [← hE] at hsv hfd hrs hdc hfc
  have hTw := Lib.hid hT
  replace hE := Lib.hid hE
  go_enter Tryz.func13, Tryz.ntmps13
  go_wp2_with fail
  refine (new_any w).mono ?_
  rintro e w1 ⟨p, rfl, hd, hB⟩
  have hd1 : DiskAt w1 p (fun k => w.heap.size ≤ k ∧ ¬ k = w1.heap.size) [] := hd.mono (fun k hk hlt => ⟨hk, by omega⟩)
  have hbA := (Below.refl w1.heap.size w1).alloc (Nat.le_refl _) (.cells #[.int .u8 97, .int .u8 98] 5 (2, 3))
  have hM : MineN w (w1.alloc (.cells #[.int .u8 97, .int .u8 98] 5 (2, 3))) (fun k => k = w1.heap.size) p [] := ⟨hd1.step (Same.of_below hbA _), fun k hk => by subst hk; simp, hB.trans (hbA.mono hB.size)⟩
  have bx := two_bytes w1
  clear hd hB hT hd1 hbA
  have kc : (convert 22 22 (.slice (some ⟨w1.heap.size, 0, none⟩) 2 2)).run Tryz.prog (w1.alloc (.cells #[.int .u8 97, .int .u8 98] 5)) = .ok (.slice (some ⟨w1.heap.size, 0, none⟩) 2 2) (w1.alloc (.cells #[.int .u8 97, .int .u8 98] 5 (2, 3))) := Lib.run_convert_bytes_const (P := Tryz.prog) w1 22 5 #[.int .u8 97, .int .u8 98] 2 2 Tryz.underlying22 Tryz.underlying5
  generalize hW : w1.alloc (.cells #[.int .u8 97, .int .u8 98] 5 (2, 3)) = W at *
  have hsave := ssave_at (hTw.out.below hM.2.2) hM.at_ (fun k hk => hk.2) 4 (by decide) (by decide) 3 2 (by decide) (by decide) (by decide) bx (by decide) hgi (enc := enc) hE.out
  rw [hsv] at hsave
  replace hM := Lib.hid hM
  replace bx := Lib.hid bx
  generalize hS : (pSave [] (gName snapPre 4) (gNew snapPre 4) enc).1 = m1 at *
  generalize hNM : gName snapPre 4 = NM at *
  replace hrs := Lib.hid hrs
  replace hfc := Lib.hid hfc
  replace hdc := Lib.hid hdc
  go_wp2_with fail
  refine hsave.mono ?_
  clear hsave hS hfd hsv
  rintro e w2 ⟨rfl, hA⟩
  obtain ⟨hM2, hs2⟩ := hM.out.next hA
  have hcr := crash_any hM2.at_ (okc := fun _ => False) (cuts := []) (Reads.nil _ _ _) (fun k hk => hk.elim) (fun c hc => by cases hc)
  replace hM2 := Lib.hid hM2
  clear hM hA hs2 bx
  go_wp2_with fail
  refine hcr.mono ?_
  clear hcr
  rintro e w3 ⟨rfl, hA⟩
  obtain ⟨hM3, hs3⟩ := hM2.out.next hA
  have hld := sload_yes (hTw.out.below hM3.2.2) hM3.at_ 4 (by decide) (by decide) hgi (by rw [hNM]; exact hfc.out) hdc.out (bs := [97, 98]) rfl
  replace hM3 := Lib.hid hM3
  clear hM2 hA hs3
  go_wp2_with fail
  refine hld.mono ?_
  clear hld
  rintro e w4 ⟨⟨A1, c1, rfl, r1⟩, hb4⟩
  have hM4 := Lib.hid (hM3.out.below hb4)
  have cv := run_string (P := Tryz.prog) (Reads.of_own (α := UInt8) (enc := byteV) r1) Tryz.underlying22 Tryz.underlying5 Tryz.underlying9
  change (convert 22 9 (.slice A1 2 c1)).run Tryz.prog w4 = .ok (.string ⟨#[97, 98]⟩) w4 at cv
  have hcn : Calls Tryz.prog 58 #[.int .i64 300] w4 fun e w' => e = .returned (.int .i64 2) ∧ w4 = w' := scount_nat (w := w4) 300 (by decide) (k := 2) rfl
  clear r1 hb4 hM3
  go_wp2_with fail
  refine hcn.mono ?_
  clear hcn
  rintro e w5 ⟨rfl, rfl⟩
  go_wp2_with fail
  go_ret
  exact ⟨rfl, hM4.out.2.2⟩
end Go.Proofs.YthnodmbenbiahaaGreatDoor
