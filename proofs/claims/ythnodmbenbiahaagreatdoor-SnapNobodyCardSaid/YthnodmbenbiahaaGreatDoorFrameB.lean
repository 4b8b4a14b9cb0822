import Derived.Test.YthnodmbenbiahaaGreatDoorCrcW
import Derived.Test.YthnodmbenbiahaaGreatDoorWire
import Derived.Test.YthnodmbenbiahaaGreatDoorRdr
import Derived.Test.YthnodmbenbiahaaGreatDoorRefA
namespace Go.Proofs.YthnodmbenbiahaaGreatDoor
/- The program's layers 3 and 4 (crc, frame): Seal, Open; Put, size, Next. -/
section
open Go.RowKit Go.Maps

theorem cof_any {w : World} {ok : Nat → Prop} {A : Option Addr} {n c : Nat} {l : List UInt8} (hK : Known w) (hBy : Bytes w ok (.slice A n c) l) {r : Nat} (hr : r = crcOf l) :
    Calls Tryz.prog 160 #[.slice A n c] w fun e w' => e = .returned (.int .u32 r) ∧ w = w' := by
  have hc := cstep_any hK hBy hr
  clear hK hBy hr
  go_enter Tryz.func160, Tryz.ntmps160
  go_wp2_with fail
  refine hc.mono ?_
  clear hc
  rintro e w' ⟨rfl, rfl⟩
  go_wp2_with fail
  go_ret
  exact ⟨rfl, rfl⟩
theorem crcB_cells {s : Nat} (hs : s < 4294967296) : (crcB s).map byteV = [.int .u8 ((s : Int) / 16777216), .int .u8 ((s : Int) / 65536 % 256), .int .u8 ((s : Int) / 256 % 256), .int .u8 ((s : Int) % 256)] := by
  simp only [crcB, List.map_cons, List.map_nil, byteV, UInt8.toNat_ofNat']
  simp only [List.cons.injEq, Value.int.injEq, true_and, and_true]
  refine ⟨?_, ?_, ?_, ?_⟩ <;> omega
/-- A row that is laid with its elements. -/
theorem row_lit (w : World) (e : TypeId) (cs : List Value) (n : Nat) (hn : cs.length = n) (h : n ≤ 1000) : (w.alloc (.cells cs.toArray e)).ownsRow w.heap.size e 1 (.slice (some ⟨w.heap.size, 0, none⟩) n n) n cs := by
  subst hn
  refine ⟨by simp, .inr ⟨w.heap.size, cs.length, cs.toArray, rfl, Nat.le_refl _, heap_alloc_new w _, Nat.le_refl _, ?_, by simp, by simp⟩⟩
  exact Nat.le_trans h (by unfold maxLen; decide)
set_option maxRecDepth 100000 in
theorem cseal_any {w : World} {ok : Nat → Prop} {A : Option Addr} {n c : Nat} {l : List UInt8} (hK : Known w) (hBy : Bytes w ok (.slice A n c) l) (hl : n ≤ 1000000000) {L : List UInt8} (hL : L = sealed l) :
    Calls Tryz.prog 119 #[.slice A n c] w fun e w' => ∃ A' c', e = .returned (.slice A' L.length c') ∧ w'.ownsRow w.heap.size 5 1 (.slice A' L.length c') L.length (L.map byteV) ∧ Below w.heap.size w w' := by
  have hc := cof_any hK hBy (r := crcOf l) rfl
  have hlt := crcOf_lt l
  have hcells := crcB_cells hlt
  have hLs : L = crcB (crcOf l) ++ l := hL
  obtain rfl := hBy.len
  have hN : L.length = 4 + l.length := by rw [hL, sealed_length]; omega
  clear hL
  generalize crcOf l = s at *
  replace hcells := Lib.hid hcells
  replace hLs := Lib.hid hLs
  replace hBy := Lib.hid hBy
  go_enter Tryz.func119, Tryz.ntmps119
  go_wp2_with fail
  refine hc.mono ?_
  clear hc
  rintro e w' ⟨rfl, rfl⟩
  have hrow := row_lit w 5 _ 4 (congrArg List.length hcells.out.symm) (by decide)
  rw [← hcells.out] at hrow
  have hrow1 : (w.alloc (.cells #[.int .u8 ((s : Int) / 16777216), .int .u8 ((s : Int) / 65536 % 256), .int .u8 ((s : Int) / 256 % 256), .int .u8 ((s : Int) % 256)] 5)).ownsRow w.heap.size 5 1 (.slice (some ⟨w.heap.size, 0, none⟩) 4 4) 4 ((crcB s).map byteV) := by
    rw [hcells.out] at hrow ⊢
    exact hrow
  have hb1 := Lib.hid ((Below.refl w.heap.size w).alloc (Nat.le_refl _) (.cells #[.int .u8 ((s : Int) / 16777216), .int .u8 ((s : Int) / 65536 % 256), .int .u8 ((s : Int) / 256 % 256), .int .u8 ((s : Int) % 256)] 5))
  replace hrow1 := Lib.hid hrow1
  have hBy1 := Lib.hid (hBy.out.step (Same.of_below hb1.out ok))
  clear hrow
  replace hN := Lib.hid hN
  have hLm : L.length ≤ 1000000004 := by have := hN.out; omega
  go_wp2_with (at_builtin; refine wpList_onto rfl _ _ rfl rfl hrow1.out rfl hBy1.out (N := L.length) hN.out (by omega) (by have := hb1.out.size; omega) ?_; intro A1 c1 w1 r1 r2; rw [← hLs.out] at r1)
  go_ret
  exact ⟨_, _, rfl, r1, hb1.out.trans r2⟩
/-! ### Open -/
set_option maxRecDepth 100000 in
set_option maxHeartbeats 1000000 in
theorem copen_yes {w : World} {ok : Nat → Prop} {A : Option Addr} {n c : Nat} {l : List UInt8} (hK : Known w) (hBy : Bytes w ok (.slice A n c) l) (h4 : 5 ≤ n) (hl : n ≤ 1000000000) (hs : sealed (l.drop 4) = l) :
    Calls Tryz.prog 126 #[.slice A n c] w fun e w' => (∃ A' c', e = .returned (.tuple #[.slice A' (n - 4) c', .bool true]) ∧ w'.ownsRow w.heap.size 5 1 (.slice A' (n - 4) c') (n - 4) ((l.drop 4).map byteV)) ∧ Below w.heap.size w w' := by
  have hlc : n ≤ c := by obtain ⟨A', c', e, h1, _⟩ := hBy; injection e with e1 e2 e3; omega
  have hfrom := hBy.drop 4 (by omega)
  obtain rfl := hBy.len
  have hmx : l.length ≤ 9223372036854775807 := hBy.max
  have hseal := fun m => cseal_any (w := w.drewN m) (L := sealed (l.drop 4)) (fun i hi => hK i hi) (hfrom.step (Same.drewN w m ok)) (by omega) rfl
  have hclone := fun (W : World) (hb : Below w.heap.size w W) => clone_sl (hfrom.step (Same.of_below hb ok)) (by omega)
  generalize l.drop 4 = D at *
  have i2 : (4 : Int) ≤ l.length := by omega
  have i3 : decide ((l.length : Int) < 4) = false := by rw [decide_eq_false_iff_not]; omega
  have i4 : ¬ c = 4 := by omega
  have cv : ∀ W, Below w.heap.size w W → (convert 22 9 (.slice A l.length c)).run Tryz.prog W = .ok (.string (strOf l)) W := fun W hb => run_string (P := Tryz.prog) (hBy.step (Same.of_below hb ok)) Tryz.underlying22 Tryz.underlying5 Tryz.underlying9
  have c0 := cv w (Below.refl _ _)
  have c1 := cv w.drew ⟨rfl, rfl, rfl, Nat.le_refl _, fun _ _ => rfl⟩
  replace cv := Lib.hid cv
  clear hfrom hBy hK
  replace hseal := Lib.hid hseal
  replace hclone := Lib.hid hclone
  have heq : ((strOf (sealed D)).toList == (strOf l).toList) = true := by
    rw [strOf_toList, strOf_toList, hs]
    simp
  replace hs := Lib.hid hs
  go_enter Tryz.func126, Tryz.ntmps126
  go_wp2_with fail
  go_region_with (first | (go_at_call 119; refine (hseal.out 1).mono ?_; rintro e w1 ⟨A1, d1, rfl, r1, r2⟩; have v1 := run_string (P := Tryz.prog) (Reads.of_own (α := UInt8) (enc := byteV) r1) Tryz.underlying22 Tryz.underlying5 Tryz.underlying9; have hb1 : Below w.heap.size w w1 := ⟨r2.os, r2.tape, r2.output, r2.size, r2.block⟩; have c2 := cv.out w1 hb1; replace r1 := Lib.hid r1))
  all_goals (clear c0 c1; go_wp2_with fail; refine (hclone.out w1 hb1).mono ?_; rintro e w2 ⟨A2, d2, rfl, q1, q2⟩; go_wp2_with fail; go_ret2; exact ⟨⟨A2, d2, rfl, own_lower q1 hb1.size⟩, hb1.trans (q2.mono hb1.size)⟩)
set_option maxRecDepth 100000 in
set_option maxHeartbeats 1000000 in
theorem copen_no {w : World} {ok : Nat → Prop} {A : Option Addr} {n c : Nat} {l : List UInt8} (hK : Known w) (hBy : Bytes w ok (.slice A n c) l) (h4 : 5 ≤ n) (hl : n ≤ 1000000000) (hs : ¬ sealed (l.drop 4) = l) :
    Calls Tryz.prog 126 #[.slice A n c] w fun e w' => e = .returned (.tuple #[.slice none 0 0, .bool false]) ∧ Below w.heap.size w w' := by
  have hlc : n ≤ c := by obtain ⟨A', c', e, h1, _⟩ := hBy; injection e with e1 e2 e3; omega
  have hfrom := hBy.drop 4 (by omega)
  obtain rfl := hBy.len
  have hmx : l.length ≤ 9223372036854775807 := hBy.max
  have hseal := fun m => cseal_any (w := w.drewN m) (L := sealed (l.drop 4)) (fun i hi => hK i hi) (hfrom.step (Same.drewN w m ok)) (by omega) rfl
  have hclone := fun (W : World) (hb : Below w.heap.size w W) => clone_sl (hfrom.step (Same.of_below hb ok)) (by omega)
  generalize l.drop 4 = D at *
  have i2 : (4 : Int) ≤ l.length := by omega
  have i3 : decide ((l.length : Int) < 4) = false := by rw [decide_eq_false_iff_not]; omega
  have i4 : ¬ c = 4 := by omega
  have cv : ∀ W, Below w.heap.size w W → (convert 22 9 (.slice A l.length c)).run Tryz.prog W = .ok (.string (strOf l)) W := fun W hb => run_string (P := Tryz.prog) (hBy.step (Same.of_below hb ok)) Tryz.underlying22 Tryz.underlying5 Tryz.underlying9
  have c0 := cv w (Below.refl _ _)
  have c1 := cv w.drew ⟨rfl, rfl, rfl, Nat.le_refl _, fun _ _ => rfl⟩
  replace cv := Lib.hid cv
  clear hfrom hBy hK
  replace hseal := Lib.hid hseal
  replace hclone := Lib.hid hclone
  have heq : ((strOf (sealed D)).toList == (strOf l).toList) = false := by
    rw [strOf_toList, strOf_toList]
    simpa using hs
  replace hs := Lib.hid hs
  go_enter Tryz.func126, Tryz.ntmps126
  go_wp2_with fail
  go_region_with (first | (go_at_call 119; refine (hseal.out 1).mono ?_; rintro e w1 ⟨A1, d1, rfl, r1, r2⟩; have v1 := run_string (P := Tryz.prog) (Reads.of_own (α := UInt8) (enc := byteV) r1) Tryz.underlying22 Tryz.underlying5 Tryz.underlying9; have hb1 : Below w.heap.size w w1 := ⟨r2.os, r2.tape, r2.output, r2.size, r2.block⟩; have c2 := cv.out w1 hb1; replace r1 := Lib.hid r1))
  all_goals (clear c0 c1; go_wp2_with fail; go_ret2; exact ⟨rfl, hb1⟩)
end
/- The program's layer 4 (frame): Put. -/
section
open Go.RowKit Go.Maps

set_option maxRecDepth 100000 in
set_option maxHeartbeats 1000000 in
theorem fput_any {w : World} {ok : Nat → Prop} {A : Option Addr} {n c : Nat} {l : List UInt8} (hK : Known w) (kind : UInt8) (hBy : Bytes w ok (.slice A n c) l) (hl : n + 5 ≤ 1048576) {L : List UInt8} (hL : L = frameB kind l) :
    Calls Tryz.prog 64 #[.int .u8 kind.toNat, .slice A n c] w fun e w' => ∃ A' c', e = .returned (.tuple #[.slice A' L.length c', .int .i64 0]) ∧ w'.ownsRow w.heap.size 5 1 (.slice A' L.length c') L.length (L.map byteV) ∧ Below w.heap.size w w' := by
  obtain rfl := hBy.len
  have hS : (sealed (kind :: l)).length = l.length + 5 := by rw [sealed_length]; simp
  have hS' : (kind :: l).length = 1 + l.length := by simp; omega
  have hLL : L.length = (uv (l.length + 5)).length + (l.length + 5) := by rw [hL, frameB_length]
  have hLs : L = uv (l.length + 5) ++ sealed (kind :: l) := hL
  have hu := uv_ten (show l.length + 5 < 2 ^ 64 by omega)
  have hb0 := (Below.refl w.heap.size w).alloc (Nat.le_refl _) (.cells #[.int .u8 (kind.toNat : Int)] 5)
  have hrow : (w.alloc (.cells #[.int .u8 (kind.toNat : Int)] 5)).ownsRow w.heap.size 5 1 (.slice (some ⟨w.heap.size, 0, none⟩) 1 1) 1 ([kind].map byteV) := row_lit w 5 _ 1 rfl (by decide)
  have hBy1 := Lib.hid (hBy.step (Same.of_below hb0 ok))
  have hK1 := Lib.hid (hK.below hb0 hK.lt)
  have hKw := hK.lt
  clear hL hBy hK
  replace hrow := Lib.hid hrow
  replace hb0 := Lib.hid hb0
  replace hS := Lib.hid hS
  replace hS' := Lib.hid hS'
  replace hLL := Lib.hid hLL
  replace hLs := Lib.hid hLs
  replace hu := Lib.hid hu
  have i1 : ¬ (1048571 : Int) < l.length := by omega
  generalize hP : kind :: l = P at *
  have hP1 : Hid ([kind] ++ l = P) := Lib.hid hP
  clear hP
  go_enter Tryz.func64, Tryz.ntmps64
  go_wp2_with (at_builtin; refine wpList_onto rfl _ _ rfl rfl hrow.out rfl hBy1.out (N := P.length) hS'.out (by have := hS'.out; omega) (by have := hb0.out.size; omega) ?_; intro A1 c1 w1 r1 r2; rw [hP1.out] at r1)
  have hb1 := hb0.out.trans r2
  have hse := cseal_any (w := w1) (L := sealed P) (hK1.out.below r2 hKw) (Reads.of_own (α := UInt8) (enc := byteV) r1) (by have := hS'.out; omega) rfl
  clear r1 r2
  replace hb1 := Lib.hid hb1
  have hKw1 : 1 < w1.heap.size := Nat.lt_of_lt_of_le hKw hb1.out.size
  rw [← hS.out] at hLL hLs hu
  generalize sealed P = S at *
  refine hse.mono ?_
  clear hse hBy1 hK1 hrow hb0 hP1
  rintro e w2 ⟨A2, c2, rfl, r2, b2⟩
  have hb2 := hb1.out.trans (b2.mono hb1.out.size)
  have hS2 : Bytes w2 (fun _ => True) (.slice A2 S.length c2) S := (Reads.of_own (α := UInt8) (enc := byteV) r2).mono (fun _ _ _ => trivial)
  have huv := wuv_any (w := w2) (ok := fun _ => True) (l := []) (L := uv S.length) (Reads.nil _ _ _) S.length (by have := hS.out; omega) (Nat.zero_le _) rfl
  have hSl : S.length ≤ 1048576 := by have := hS.out; omega
  have hw64 : IntKind.u64.wrap (S.length : Int) = S.length := by rw [IntKind.wrap_u64]; omega
  clear r2 b2 hb1 hS' hKw1
  generalize uv S.length = U at *
  replace hS2 := Lib.hid hS2
  replace hb2 := Lib.hid hb2
  go_wp2_with fail
  refine huv.mono ?_
  clear huv
  rintro e w3 ⟨A3, c3, rfl, r3, b3⟩
  have hb3 := Lib.hid (hb2.out.trans (b3.mono hb2.out.size))
  have hr3 := Lib.hid (own_lower r3 hb2.out.size)
  have hS3 := Lib.hid (hS2.out.step (Same.of_below b3 (fun _ => True)))
  have hL1 : L.length = U.length + S.length := by rw [hLs.out, List.length_append]
  have hLm : L.length ≤ 1048586 := by have := hu.out; omega
  replace hL1 := Lib.hid hL1
  clear r3 b3 hS2 hb2 hw64
  go_wp2_with (at_builtin; refine wpList_onto rfl _ _ rfl rfl hr3.out rfl hS3.out (N := L.length) hL1.out (by omega) (by have := hb3.out.size; omega) ?_; intro A4 c4 w4 r4 b4; rw [← hLs.out] at r4)
  go_ret2
  exact ⟨_, _, rfl, r4, hb3.out.trans b4⟩
end
end Go.Proofs.YthnodmbenbiahaaGreatDoor
