/- The disk's call Append. -/
import Derived.Test.YthnodmbenbiahaaGreatDoorDiskC
namespace Go.Proofs.YthnodmbenbiahaaGreatDoor
open Go.RowKit Go.Maps

theorem keptMap {w w' : World} {b : Nat} (h : w.grownBy w' (some b)) : Kept w w' (fun k => k = b) := ⟨h.os, h.tape, h.output, h.size, Same.of_grown h (fun _ hn e => hn (by injection e))⟩

set_option maxRecDepth 100000 in
set_option maxHeartbeats 1000000 in
theorem append_no {w : World} {p : Nat} {ok : Nat → Prop} {m : List FileD} (h : DiskAt w p ok m) (s : ByteArray) (hs : s.size ≤ maxLen) (ho : okName s = false) (v : Value) (b : List UInt8) :
    Calls Tryz.prog 67 #[.pointer (some ⟨p, 0, none⟩), .string s, v] w fun e w' => e = .returned (.int .i64 (pAppend m s b).2) ∧ After w w' p ok (pAppend m s b).1 := by
  have he : pAppend m s b = (m, 1) := by unfold pAppend; rw [ho]; rfl
  rw [he]
  have h0 := Lib.hid h
  obtain ⟨mb, g, hg, rfl, hk⟩ := h
  have hmay := may_any s w (by simpa [maxLen] using hs)
  rw [ho] at hmay
  have hc0 : w.cell? ⟨p, 0, none⟩ = some (.map (some mb)) := (cell_blk hg.pc 0).trans rfl
  clear he hg hk ho
  go_enter Tryz.func67, Tryz.ntmps67
  go_wp2_with (first | (go_at_call 115; refine (is_cell w p (some mb) hc0).mono ?_; rintro e w' ⟨rfl, rfl⟩) | (go_at_call 59; refine hmay.mono ?_; rintro e w' ⟨rfl, hB⟩))
  go_ret
  exact ⟨rfl, After.below h0.out hB⟩

set_option maxRecDepth 100000 in
set_option maxHeartbeats 1000000 in
theorem append_old {w : World} {p : Nat} {ok okb : Nat → Prop} {m : List FileD} (h : DiskAt w p ok m) (s : ByteArray) (hs : s.size ≤ maxLen) (ho : okName s = true) {v : Value} {b : List UInt8} (hb : Bytes w okb v b) {f : FileD} (hfd : fFind m s = some f) :
    Calls Tryz.prog 67 #[.pointer (some ⟨p, 0, none⟩), .string s, v] w fun e w' => e = .returned (.int .i64 (pAppend m s b).2) ∧ After w w' p ok (pAppend m s b).1 := by
  have h0 := h
  obtain ⟨mb, g, hg, rfl, hk⟩ := h
  rw [find_file] at hfd
  cases hx : lfind Ent.name g s with
  | none => rw [hx] at hfd; cases hfd
  | some x =>
    obtain ⟨hxm, rfl⟩ := lfind_some hx
    have hmay := may_any x.name w (by simpa [maxLen] using hs)
    rw [ho] at hmay
    have hf := hg.fl x hxm
    have hsz := hg.sz x hxm
    have hrd : Bytes w (fun k => x.v.ownBlock = some k) x.v x.data := Reads.of_own hf.row
    obtain ⟨A, c, hv, hlc⟩ := hrd.form
    obtain ⟨B, d, rfl, hld⟩ := hb.form
    have hbl := hb.max
    obtain ⟨D, hown, hD⟩ := hg.mp
    have hpl := hg.plt
    have hfl := hf.lt
    have hml := hg.mlt
    have hc0 : w.cell? ⟨p, 0, none⟩ = some (.map (some mb)) := (cell_blk hg.pc 0).trans rfl
    have hc1 : w.cell? ⟨x.fb, 0, none⟩ = some (.slice A x.data.length c) := by rw [cell_blk hf.blk 0, hv]; rfl
    have hf1 : w.frozen? ⟨x.fb, 0, none⟩ = false := frozen_blk hf.blk 0
    have hlook := Lib.hid (show ∀ W : World, Below w.heap.size w W → (Instr.lookup 74 (.map (some mb)) (.string x.name) true).run Tryz.prog W = .ok (.tuple #[.pointer (some ⟨x.fb, 0, none⟩), .bool true]) W from by
      intro W hB
      obtain ⟨u, ps, hrun, hu⟩ := (ownsMap_step hown (hB.block mb hml)).look_ok strK Tryz.underlying74 (zeroP W) ptrR_none (WideMaps.keyOf_string_mk Tryz.underlying9 hs)
      change (Instr.lookup _ _ _ true).run Tryz.prog W = .ok (.tuple #[u, .bool (Maps.has D (lit x.name))]) W at hrun
      change ptrR u = some (D.atKey (lit x.name) _, ps) at hu
      rw [hD.has hg.so, hx] at hrun
      rw [hD.at_ hg.so, hx] at hu
      obtain rfl := ptrR_inv hu
      exact hrun)
    by_cases hbig : 65536 < x.data.length + b.length
    · have he : pAppend (g.map Ent.file) x.name b = (g.map Ent.file, 2) := by unfold pAppend; rw [find_file, hx, ho]; exact if_pos hbig
      rw [he]
      have h0 := Lib.hid h0
      have hbl' : b.length ≤ 9223372036854775807 := hbl
      have hxl : x.data.length ≤ 65536 := hsz.1
      clear he hg hk ho hx hxm hfd hf hsz hrd hv hD hown hb hbl
      go_enter Tryz.func67, Tryz.ntmps67
      go_wp2_with (first | (go_at_call 115; refine (is_cell w p (some mb) hc0).mono ?_; rintro e w' ⟨rfl, rfl⟩) | (go_at_call 59; refine hmay.mono ?_; rintro e w' ⟨rfl, hB⟩; have q0 := (hB.cell (p := ⟨p, 0, none⟩) hpl).trans hc0; have q1 := (hB.cell (p := ⟨x.fb, 0, none⟩) hfl).trans hc1; have q2 := hlook.out _ hB))
      go_ret
      exact ⟨rfl, After.below h0.out hB⟩
    · have he : pAppend (g.map Ent.file) x.name b = (fPut (g.map Ent.file) (Ent.file { x with data := x.data ++ b }), 0) := by unfold pAppend; rw [find_file, hx, ho]; exact if_neg hbig
      rw [he]
      have hxr : ∀ k, x.v.ownBlock = some k → k ≠ x.fb ∧ k ≠ mb ∧ k ≠ p := fun k hk' => ⟨hf.ne hf k hk', fun e => hg.m_ne ⟨x, hxm, .inr (e ▸ hk')⟩, fun e => hg.p_ne.2 ⟨x, hxm, .inr (e ▸ hk')⟩⟩
      have hpf : p ≠ x.fb := fun e => hg.p_ne.2 ⟨x, hxm, .inl e⟩
      have hmf : mb ≠ x.fb := fun e => hg.m_ne ⟨x, hxm, .inl e⟩
      have hrow := Lib.hid (show ∀ W : World, Below w.heap.size w W → W.ownsRow 0 5 1 (.slice A x.data.length c) x.data.length (x.data.map byteV) from fun W hB => hv ▸ own_step hf.row (Same.of_below hB (fun _ => True)) (fun _ _ => trivial))
      have hcb := Lib.hid (show ∀ W : World, Below w.heap.size w W → Cells W okb B (b.map byteV) from fun W hB => by
        obtain ⟨A', c', e, _, _, h3⟩ := hb.step (Same.of_below hB okb)
        injection e with e1
        subst e1
        exact h3)
      have H0 : ∀ (W w1 w2 : World) (A1 : Option Addr) (c1 : Nat), Below w.heap.size w W → w1.ownsRow 0 5 1 (.slice A1 (x.data.length + b.length) c1) (x.data.length + b.length) (x.data.map byteV ++ b.map byteV) → W.grownBy w1 (Value.slice A x.data.length c).ownBlock →
          ((Value.slice A1 (x.data.length + b.length) c1).ownBlock = (Value.slice A x.data.length c).ownBlock ∨ (Value.slice A1 (x.data.length + b.length) c1).ownBlock = some W.heap.size) →
          w2.ownsMap Tryz.prog 9 ptrR mb (Maps.size D + 1) (D.put (lit x.name) (.lit (.int .i64 x.fb))) → (w1.setCell ⟨x.fb, 0, none⟩ (.slice A1 (x.data.length + b.length) c1)).grownBy w2 (some mb) → After w w2 p ok (fPut (g.map Ent.file) (Ent.file { x with data := x.data ++ b })) := by
        intro W w1 w2 A1 c1 hB r1 r2 r3 r4 r5
        rw [← hv] at r2 r3
        have a0 := After.below h0 hB
        have hgW : DiskG W p mb g := hg.step (Same.of_below hB (fun _ => True)) (fun _ _ => trivial)
        have hfW := hgW.fl x hxm
        have hb1 : w1.heap[x.fb]? = some (.cells #[x.v, .int .i64 x.safe] 121 (0, 0)) := (Same.of_grown r2 (ok := fun k => k = x.fb) (fun k hk' e => (hxr k e.symm).1 hk')).blk rfl hfW.blk
        have hb2 := set_blk hb1 0 (.slice A1 (x.data.length + b.length) c1)
        have hl : (x.data ++ b).length = x.data.length + b.length := by simp
        have hne : ∀ k, (Value.slice A1 (x.data.length + b.length) c1).ownBlock = some k → k ≠ x.fb := fun k hk' => by
          rcases r3 with r3 | r3
          · exact (hxr k (r3 ▸ hk')).1
          · rw [hk'] at r3
            injection r3 with r3
            have := hfW.lt
            omega
        let x' : Ent := { x with data := x.data ++ b, v := .slice A1 (x.data.length + b.length) c1 }
        have hfile : FileAt (w1.setCell ⟨x.fb, 0, none⟩ (.slice A1 (x.data.length + b.length) c1)) x' := ⟨by simpa using hb2, by
          have := own_step r1 (Same.setCell w1 ⟨x.fb, 0, none⟩ (.slice A1 (x.data.length + b.length) c1) (ok := fun k => k ≠ x.fb) (fun _ h => h)) hne
          simpa [x', hl] using this⟩
        have hkept : Kept W (w1.setCell ⟨x.fb, 0, none⟩ (.slice A1 (x.data.length + b.length) c1)) (fun k => k = x.fb ∨ x.v.ownBlock = some k) := ((Kept.refl W _).grown r2 (fun k e => .inl (.inr e))).setCell (.inl (.inl rfl)) _
        have hvv : ∀ k, x'.v.ownBlock = some k → x.v.ownBlock = some k ∨ W.heap.size ≤ k := fun k hk' => by
          rcases r3 with r3 | r3
          · exact .inl (r3 ▸ hk')
          · rw [show x'.v = .slice A1 (x.data.length + b.length) c1 from rfl, r3] at hk'
            injection hk' with hk'
            exact .inr (by omega)
        have hsz' : x'.data.length ≤ 65536 ∧ 0 ≤ x'.safe ∧ x'.safe ≤ x'.data.length := ⟨by simp only [x', hl]; omega, hsz.2.1, by simp only [x', hl]; omega⟩
        have a1 := after_turn (ok := fun k => ok k ∨ w.heap.size ≤ k) hgW (fun k hk' => .inl (hk k hk')) hxm x' rfl rfl hkept hfile hvv hsz'
        have d1 := hgW.turn hxm x' rfl rfl (hkept.part (fun k hk h => h.elim hk.1 hk.2)) hfile hvv hsz'
        have hm1 : x' ∈ lput Ent.name g x' := mem_lput.2 (.inl rfl)
        have a01 := a0.trans a1
        have hfin := (after_put (ok := fun k => ok k ∨ w.heap.size ≤ k) d1 (fun k hk' => ?_) x' (keptMap r5) ⟨_, ownsMap_tight r4, ?_⟩ hfile (fun y hy hne' => d1.nd x' hm1 y hy (fun e => hne' e.symm)) (fun k hk' => ?_) ho hsz' (by rw [lput_self d1.so hm1]; exact d1.ct)).2
        · have e : fPut (fPut (g.map Ent.file) x'.file) x'.file = fPut (g.map Ent.file) x'.file := lput_self (by rw [put_file]; exact (rising_map (nm := Ent.name) (nb := FileD.name) (f := Ent.file) (fun _ => rfl) _).2 d1.so) (mem_lput.2 (.inl rfl))
          rw [← put_file, e] at hfin
          exact a01.trans hfin
        · rcases hk' with rfl | rfl | ⟨y, hy, hk'⟩
          · exact .inl (hk _ (.inl rfl))
          · exact .inl (hk _ (.inr (.inl rfl)))
          · rcases mem_lput.1 hy with rfl | ⟨hy, _⟩
            · rcases hk' with rfl | hk'
              · exact .inl (hk _ (.inr (.inr ⟨x, hxm, .inl rfl⟩)))
              · rcases hvv k hk' with e | e
                · exact .inl (hk _ (.inr (.inr ⟨x, hxm, .inr e⟩)))
                · exact .inr (Nat.le_trans hB.size e)
            · exact .inl (hk _ (.inr (.inr ⟨y, hy, hk'⟩)))
        · rw [lput_self d1.so hm1]
          exact hD.put x'
        · rcases hk' with rfl | hk'
          · exact .inl (hk _ (.inr (.inr ⟨x, hxm, .inl rfl⟩)))
          · rcases hvv k hk' with e | e
            · exact .inl (hk _ (.inr (.inr ⟨x, hxm, .inr e⟩)))
            · exact .inr (Nat.le_trans hB.size e)
      have H := Lib.hid H0
      have hmx : Maps.size D < maxLen := by rw [hD.size]; have := hg.ct; unfold maxLen; omega
      have hmW0 : ∀ (W w1 : World) (u : Value), Below w.heap.size w W → W.grownBy w1 (Value.slice A x.data.length c).ownBlock → (w1.setCell ⟨x.fb, 0, none⟩ u).ownsMap Tryz.prog 9 ptrR mb (Maps.size D) D := fun W w1 u hB hgr => by
        refine ownsMap_step hown ?_
        rw [Below.heap_setCell _ _ _ _ (by exact hmf), hgr.block mb (Nat.lt_of_lt_of_le hml hB.size) (fun e => (hxr mb (by rw [hv]; exact e.symm)).2.1 rfl), hB.block mb hml]
      have hmW := Lib.hid hmW0
      have hnr0 : some x.fb ≠ (Value.slice A x.data.length c).ownBlock ∧ some p ≠ (Value.slice A x.data.length c).ownBlock := ⟨fun e => (hxr x.fb (by rw [hv]; exact e.symm)).1 rfl, fun e => (hxr p (by rw [hv]; exact e.symm)).2.2 rfl⟩
      have hnr := Lib.hid hnr0
      have hxl : x.data.length ≤ 65536 := hsz.1
      have hbl' : b.length ≤ 65536 := by omega
      have hbm := Lib.hid (show (b.map byteV).length = b.length * 1 by simp)
      clear he hg hk h0 ho hx hxm hfd hf hsz hrd hv hD hown hb hbl hxr H0 hmW0 hnr0
      go_enter Tryz.func67, Tryz.ntmps67
      go_wp2_with (first | (go_at_call 115; refine (is_cell w p (some mb) hc0).mono ?_; rintro e w' ⟨rfl, rfl⟩) | (go_at_call 59; refine hmay.mono ?_; rintro e W ⟨rfl, hB⟩; have q0 := (hB.cell (p := ⟨p, 0, none⟩) hpl).trans hc0; have q1 := (hB.cell (p := ⟨x.fb, 0, none⟩) hfl).trans hc1; have q3 := (hB.frozen (p := ⟨x.fb, 0, none⟩) hfl).trans hf1; have q2 := hlook.out _ hB) | (at_builtin; refine wpList_append rfl _ _ 22 rfl Tryz.underlying22 info_u8 rfl (by decide) rfl (hrow.out _ hB) rfl hbm.out (hcb.out _ hB) (byte_one _) (by omega) (by omega) (Nat.zero_le _) ?_; intro v1 w1 r1 r2 r3; obtain ⟨A1, c1, rfl, _, _, _⟩ := own_form r1; have s0 := r2.cell q0 hnr.out.2; have s1 := r2.cell q1 hnr.out.1; have s3 : w1.frozen? ⟨x.fb, 0, none⟩ = false := (World.frozen?_of_block (a := ⟨x.fb, 0, none⟩) (r2.block x.fb (cell_lt q1) hnr.out.1)).trans q3) | (at_mapUpdate; refine wpList_mapUpdate_own _ rfl _ _ _ 74 rfl 9 118 strK Tryz.underlying74 _ mb _ _ rfl (hmW.out _ _ _ hB r2) hmx _ _ _ rfl rfl (WideMaps.keyOf_string_mk Tryz.underlying9 hs) _ [] (ptrR_some _) ?_; intro w2 r4 r5))
      go_ret
      exact ⟨rfl, H.out _ _ _ _ _ hB r1 r2 r3 r4 r5⟩
end Go.Proofs.YthnodmbenbiahaaGreatDoor
