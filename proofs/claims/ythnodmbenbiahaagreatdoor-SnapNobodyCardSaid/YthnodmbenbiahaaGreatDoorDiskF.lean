/- The disk's call Append at a new file; all of Append. -/
import Derived.Test.YthnodmbenbiahaaGreatDoorDiskE
namespace Go.Proofs.YthnodmbenbiahaaGreatDoor
open Go.RowKit Go.Maps

set_option maxRecDepth 100000 in
set_option maxHeartbeats 1000000 in
theorem append_new {w : World} {p : Nat} {ok okb : Nat → Prop} {m : List FileD} (h : DiskAt w p ok m) (s : ByteArray) (hs : s.size ≤ maxLen) (ho : okName s = true) {v : Value} {b : List UInt8} (hb : Bytes w okb v b) (hfd : fFind m s = none) :
    Calls Tryz.prog 67 #[.pointer (some ⟨p, 0, none⟩), .string s, v] w fun e w' => e = .returned (.int .i64 (pAppend m s b).2) ∧ After w w' p ok (pAppend m s b).1 := by
  have h0 := h
  obtain ⟨mb, g, hg, rfl, hk⟩ := h
  rw [find_file] at hfd
  have hx : lfind Ent.name g s = none := by cases e : lfind Ent.name g s with | none => rfl | some x => rw [e] at hfd; cases hfd
  have hmay := may_any s w (by simpa [maxLen] using hs)
  rw [ho] at hmay
  obtain ⟨B, d, rfl, hld⟩ := hb.form
  have hbl := hb.max
  obtain ⟨D, hown, hD⟩ := hg.mp
  have hpl := hg.plt
  have hml := hg.mlt
  have hc0 : w.cell? ⟨p, 0, none⟩ = some (.map (some mb)) := (cell_blk hg.pc 0).trans rfl
  have hlook := Lib.hid (show ∀ W : World, Below w.heap.size w W → (Instr.lookup 74 (.map (some mb)) (.string s) true).run Tryz.prog W = .ok (.tuple #[.pointer none, .bool false]) W from by
    intro W hB
    obtain ⟨u, ps, hrun, hu⟩ := (ownsMap_step hown (hB.block mb hml)).look_ok strK Tryz.underlying74 (zeroP W) ptrR_none (WideMaps.keyOf_string_mk Tryz.underlying9 hs)
    change (Instr.lookup _ _ _ true).run Tryz.prog W = .ok (.tuple #[u, .bool (Maps.has D (lit s))]) W at hrun
    change ptrR u = some (D.atKey (lit s) _, ps) at hu
    rw [hD.has hg.so, hx] at hrun
    rw [hD.at_ hg.so, hx] at hu
    obtain rfl := ptrR_inv0 hu
    exact hrun)
  have hlen := Lib.hid (show ∀ W : World, Below w.heap.size w W → ∀ o, (Builtin.len_ #[74] 3 #[.map (some mb)]).run Tryz.prog (W.alloc o) = .ok (.int .i64 g.length) (W.alloc o) from by
    intro W hB o
    rw [← hD.size]
    exact ((ownsMap_step hown (hB.block mb hml)).alloc o).len Tryz.underlying74 3)
  have hct := hg.ct
  by_cases hbig : 64 ≤ g.length ∨ 65536 < b.length
  · have he : pAppend (g.map Ent.file) s b = (g.map Ent.file, 2) := by unfold pAppend; rw [find_file, hx, ho]; exact if_pos (show 64 ≤ (g.map Ent.file).length ∨ 65536 < b.length by rw [List.length_map]; exact hbig)
    rw [he]
    have h0 := Lib.hid h0
    have hbl' : b.length ≤ 9223372036854775807 := hbl
    clear he hg hk ho hx hfd hD hown hb hbl
    rcases Nat.lt_or_ge g.length 64 with h64 | h64
    · have hbg : 65536 < b.length := by omega
      clear hbig
      go_enter Tryz.func67, Tryz.ntmps67
      go_wp2_with (first | (go_at_call 115; refine (is_cell w p (some mb) hc0).mono ?_; rintro e w' ⟨rfl, rfl⟩) | (go_at_call 59; refine hmay.mono ?_; rintro e W ⟨rfl, hB⟩; have q0 := (hB.cell (p := ⟨p, 0, none⟩) hpl).trans hc0; have q2 := hlook.out _ hB; have q3 := hlen.out _ hB; have q4 := Nat.lt_of_lt_of_le hpl hB.size))
      go_ret
      exact ⟨rfl, After.below h0.out (hB.alloc hB.size _)⟩
    · clear hbig
      go_enter Tryz.func67, Tryz.ntmps67
      go_wp2_with (first | (go_at_call 115; refine (is_cell w p (some mb) hc0).mono ?_; rintro e w' ⟨rfl, rfl⟩) | (go_at_call 59; refine hmay.mono ?_; rintro e W ⟨rfl, hB⟩; have q0 := (hB.cell (p := ⟨p, 0, none⟩) hpl).trans hc0; have q2 := hlook.out _ hB; have q3 := hlen.out _ hB; have q4 := Nat.lt_of_lt_of_le hpl hB.size))
      go_ret
      exact ⟨rfl, After.below h0.out (hB.alloc hB.size _)⟩
  · have h64 : g.length < 64 := by omega
    have hbg : b.length ≤ 65536 := by omega
    have he : pAppend (g.map Ent.file) s b = (fPut (g.map Ent.file) ⟨s, b, 0⟩, 0) := by unfold pAppend; rw [find_file, hx, ho]; exact if_neg (show ¬ (64 ≤ (g.map Ent.file).length ∨ 65536 < b.length) by rw [List.length_map]; exact hbig)
    rw [he]
    have hcb := Lib.hid (show ∀ W : World, Below w.heap.size w W → ∀ o, Cells (W.alloc o) okb B (b.map byteV) from fun W hB o => by
      obtain ⟨A', c', e, _, _, h3⟩ := hb.step ((Same.of_below hB okb).trans (Same.alloc W o okb))
      injection e with e1
      subst e1
      exact h3)
    have H0 : ∀ (W w1 w2 : World) (A1 : Option Addr) (c1 : Nat), Below w.heap.size w W → w1.ownsRow (W.heap.size + 1) 5 1 (.slice A1 b.length c1) b.length (b.map byteV) → (W.alloc (.cells #[.slice none 0 0, .int .i64 0] 121)).grownBy w1 none →
        w2.ownsMap Tryz.prog 9 ptrR mb (Maps.size D + 1) (D.put (lit s) (.lit (.int .i64 (W.heap.size : Nat)))) → (w1.setCell ⟨W.heap.size, 0, none⟩ (.slice A1 b.length c1)).grownBy w2 (some mb) → After w w2 p ok (fPut (g.map Ent.file) ⟨s, b, 0⟩) := by
      intro W w1 w2 A1 c1 hB r1 r2 r4 r5
      have hb0 : (W.alloc (.cells #[.slice none 0 0, .int .i64 0] 121)).heap[W.heap.size]? = some (.cells #[.slice none 0 0, .int .i64 0] 121 (0, 0)) := heap_alloc_new W _
      have hb1 : w1.heap[W.heap.size]? = some (.cells #[.slice none 0 0, .int .i64 0] 121 (0, 0)) := (Same.of_grown r2 (ok := fun _ => True) (fun k _ e => by cases e)).blk trivial hb0
      have hb2 := set_blk hb1 0 (.slice A1 b.length c1)
      have hne : ∀ k, (Value.slice A1 b.length c1).ownBlock = some k → k ≠ W.heap.size := fun k hk' e => by have := own_base r1 k hk'; omega
      let x' : Ent := { name := s, data := b, safe := 0, fb := W.heap.size, v := .slice A1 b.length c1 }
      have hfile : FileAt (w1.setCell ⟨W.heap.size, 0, none⟩ (.slice A1 b.length c1)) x' := ⟨by simpa using hb2, own_step (own_lower r1 (Nat.zero_le _)) (Same.setCell w1 ⟨W.heap.size, 0, none⟩ (.slice A1 b.length c1) (ok := fun k => k ≠ W.heap.size) (fun _ h => h)) hne⟩
      have hbel : Below W.heap.size W (w1.setCell ⟨W.heap.size, 0, none⟩ (.slice A1 b.length c1)) := (((Below.refl _ _).alloc (Nat.le_refl _) _).grown r2 (by simp) (fun k e => by cases e)).setCell (Nat.le_refl _) _
      have hball : Below w.heap.size w (w1.setCell ⟨W.heap.size, 0, none⟩ (.slice A1 b.length c1)) := hB.trans (hbel.mono hB.size)
      have hgW : DiskG (w1.setCell ⟨W.heap.size, 0, none⟩ (.slice A1 b.length c1)) p mb g := hg.step (Same.of_below hball (fun _ => True)) (fun _ _ => trivial)
      have hlt := (hg.step (Same.of_below hB (fun _ => True)) (fun _ _ => trivial) : DiskG W p mb g).lt
      refine (After.below h0 hball).trans (after_put (ok := fun k => ok k ∨ w.heap.size ≤ k) hgW (fun k hk' => .inl (hk k hk')) x' (keptMap r5) ⟨_, ownsMap_tight r4, hD.put x'⟩ hfile ?_ ?_ ho ⟨hbg, by simp [x'], by simp [x']⟩ ?_).2
      · intro y hy _
        refine ⟨fun e => ?_, fun k hk' hk2 => ?_⟩
        · have := hlt _ (.inr (.inr ⟨y, hy, .inl rfl⟩))
          simp only [x'] at e
          omega
        · have := hlt k (.inr (.inr ⟨y, hy, .inr hk2⟩))
          have := own_base r1 k hk'
          omega
      · have := hB.size
        rintro k (rfl | hk')
        · exact .inr (by simp only [x']; omega)
        · have := own_base r1 k hk'
          exact .inr (by omega)
      · rw [lput_length_none (by exact hx)]
        omega
    have H := Lib.hid H0
    have hmx : Maps.size D < maxLen := by rw [hD.size]; unfold maxLen; omega
    have hmW0 : ∀ (W w1 : World) (o : Obj) (u : Value), Below w.heap.size w W → (W.alloc o).grownBy w1 none → (w1.setCell ⟨W.heap.size, 0, none⟩ u).ownsMap Tryz.prog 9 ptrR mb (Maps.size D) D := fun W w1 o u hB hgr => by
      refine ownsMap_step hown ?_
      have hmW := Nat.lt_of_lt_of_le hml hB.size
      rw [Below.heap_setCell _ _ _ _ (by simp only; omega), hgr.block mb (by simp; omega) (by simp), Below.heap_alloc _ _ _ hmW, hB.block mb hml]
    have hmW := Lib.hid hmW0
    have hbm := Lib.hid (show (b.map byteV).length = b.length * 1 by simp)
    clear he hg hk h0 ho hx hfd hD hown hb hbl H0 hmW0 hbig
    go_enter Tryz.func67, Tryz.ntmps67
    go_wp2_with (first | (go_at_call 115; refine (is_cell w p (some mb) hc0).mono ?_; rintro e w' ⟨rfl, rfl⟩) | (go_at_call 59; refine hmay.mono ?_; rintro e W ⟨rfl, hB⟩; have q0 := (hB.cell (p := ⟨p, 0, none⟩) hpl).trans hc0; have q2 := hlook.out _ hB; have q3 := hlen.out _ hB; have q4 := Nat.lt_of_lt_of_le hpl hB.size) | (at_builtin; refine wpList_append rfl _ _ 22 rfl Tryz.underlying22 info_u8 rfl (by decide) (v := .slice none 0 0) (n := 0) (xs := []) rfl (World.ownsRow_nil _ (W.heap.size + 1) _ _) rfl hbm.out (hcb.out _ hB _) (byte_one _) (by omega) (by omega) (by simp) ?_; intro v1 w1 r1 r2 r3; simp only [Nat.zero_add, List.nil_append] at r1; obtain ⟨A1, c1, rfl, _, _, _⟩ := own_form r1; have s0 : w1.cell? ⟨p, 0, none⟩ = some (.map (some mb)) := r2.cell ((World.cell?_alloc_lt W _ ⟨p, 0, none⟩ q4).trans q0) (by simp [Value.ownBlock]); have s1 : w1.heap[W.heap.size]? = some (.cells #[.slice none 0 0, .int .i64 0] 121 (0, 0)) := (Same.of_grown r2 (ok := fun _ => True) (fun k _ e => by cases e)).blk trivial (heap_alloc_new W _); have s2 : w1.cell? ⟨W.heap.size, 0, none⟩ = some (.slice none 0 0) := cell_blk s1 0; have s3 := frozen_blk s1 0) | (at_mapUpdate; refine wpList_mapUpdate_own _ rfl _ _ _ 74 rfl 9 118 strK Tryz.underlying74 _ mb _ _ rfl (hmW.out _ _ _ _ hB r2) hmx _ _ _ rfl rfl (WideMaps.keyOf_string_mk Tryz.underlying9 hs) _ [] (ptrR_some _) ?_; intro w2 r4 r5))
    go_ret
    exact ⟨rfl, H.out _ _ _ _ _ hB r1 r2 r4 r5⟩

theorem append_any {w : World} {p : Nat} {ok okb : Nat → Prop} {m : List FileD} (h : DiskAt w p ok m) (s : ByteArray) (hs : s.size ≤ maxLen) {v : Value} {b : List UInt8} (hb : Bytes w okb v b) :
    Calls Tryz.prog 67 #[.pointer (some ⟨p, 0, none⟩), .string s, v] w fun e w' => e = .returned (.int .i64 (pAppend m s b).2) ∧ After w w' p ok (pAppend m s b).1 := by
  cases ho : okName s with
  | false => exact append_no h s hs ho v b
  | true =>
    cases hf : fFind m s with
    | none => exact append_new h s hs ho hb hf
    | some f => exact append_old h s hs ho hb hf
end Go.Proofs.YthnodmbenbiahaaGreatDoor
