/- The document's answer for disks (package gudgeonref05), walked: Rename. -/
import Derived.Test.YthnodmbenbiahaaGreatDoorRefE
namespace Go.Proofs.YthnodmbenbiahaaGreatDoor
open Go.RowKit Go.Maps
attribute [local go_sem ↓] Go.wp_at_zero Go.wp_at_succ

set_option maxRecDepth 100000 in
set_option maxHeartbeats 2000000 in
theorem rrename_any {w : World} {ok : Nat → Prop} {v : Value} {l : List FileD} (h : FilesRd w ok v l) (hr : Rising FileD.name l) (hl : l.length ≤ 1000) (s t : ByteArray) (ht : t.size ≤ maxLen) :
    Calls Tryz.prog 74 #[v, .string s, .string t] w fun e w' => ∃ A m c, e = .returned (.tuple #[.slice A m c, .int .i64 (pRename l s t).2]) ∧ RefOut w w' ok (.slice A m c) (pRename l s t).1 := by
  obtain ⟨A, c, rfl, hc, _⟩ := h.form
  have hp := place_at h hr s hl
  have hnm := fun w => rname_any t w ht
  replace h := Lib.hid h
  replace hr := Lib.hid hr
  replace hnm := Lib.hid hnm
  have hl0 := Lib.hid hl
  go_enter Tryz.func74, Tryz.ntmps74
  go_wp2_with fail
  refine hp.mono ?_
  rintro e w' ⟨h1, rfl⟩
  rcases h1 with ⟨i, hi, rfl, hf, hn⟩ | ⟨rfl, hf⟩
  · have e0 : pRename l s t = if okName t then (fPut (fDel l s) { l[i] with name := t }, 0) else (l, 1) := by unfold pRename; rw [hf]
    obtain ⟨b, o, B, d, rfl, hb', c0, c1, c2, hd, hB⟩ := h.out.get i hi
    have i1 : (i : Int) < l.length := by omega
    generalize l[i] = x at *
    obtain ⟨xn, xd, xs⟩ := x
    simp only at hn c0 c1 c2 hB e0 hd
    subst hn
    replace hB := Lib.hid hB
    replace e0 := Lib.hid e0
    clear hf
    go_wp2_with fail
    refine (hnm.out _).mono ?_
    rintro e w' ⟨rfl, rfl⟩
    cases hok : okName t with
    | false =>
      have e := e0.out
      rw [hok, if_neg (by simp)] at e
      replace e := Lib.hid e
      clear hok
      go_wp2_with fail
      go_ret2
      rw [e.out]
      exact ⟨_, _, _, rfl, RefOut.none h.out⟩
    | true =>
      have e := e0.out
      rw [hok, if_pos rfl] at e
      replace e := Lib.hid e
      clear hok e0
      have bx := heap_alloc_new w (.cells #[.string t, .slice B xd.length d, .int .i64 xs] 25)
      have h1 := Lib.hid (h.out.step (Same.alloc w (.cells #[.string t, .slice B xd.length d, .int .i64 xs] 25) _))
      have hB1 := Lib.hid (hB.out.step (Same.alloc w (.cells #[.string t, .slice B xd.length d, .int .i64 xs] 25) _))
      have bx0 := cell_blk bx 0
      have bx1 := cell_blk bx 1
      have bx2 := cell_blk bx 2
      have hsz1 : (w.alloc (.cells #[.string t, .slice B xd.length d, .int .i64 xs] 25)).heap.size = w.heap.size + 1 := by simp
      have hBel := Lib.hid ((Below.refl w.heap.size w).alloc (Nat.le_refl _) (.cells #[.string t, .slice B xd.length d, .int .i64 xs] 25))
      go_wp2_with fail
      generalize w.alloc (.cells #[.string t, .slice B xd.length d, .int .i64 xs] 25) = W at *
      have y0 : W.cell? ⟨w.heap.size, 0, none⟩ = some (.string t) := bx0
      have y1 : W.cell? ⟨w.heap.size, 1, none⟩ = some (.slice B xd.length d) := bx1
      have y2 : W.cell? ⟨w.heap.size, 2, none⟩ = some (.int .i64 xs) := bx2
      have hlt : w.heap.size < W.heap.size := by omega
      clear bx bx0 bx1 bx2
      go_region_held3 (fun w' => w'.cell? ⟨w.heap.size, 0, none⟩ = some (.string t) ∧ w'.cell? ⟨w.heap.size, 1, none⟩ = some (.slice B xd.length d) ∧ w'.cell? ⟨w.heap.size, 2, none⟩ = some (.int .i64 xs)) (go_keep) (first | (go_at_call 124; refine (out_any (h1.out.step (Same.drew _ _)) xn hl0.out).mono ?_; rintro e2 w2 ⟨v1, rfl, r1, r2⟩; have p0 := (r2.cell (p := ⟨w.heap.size, 0, none⟩) hlt).trans y0; have p1 := (r2.cell (p := ⟨w.heap.size, 1, none⟩) hlt).trans y1; have p2 := (r2.cell (p := ⟨w.heap.size, 2, none⟩) hlt).trans y2; have hlt2 : w.heap.size < w2.heap.size := Nat.lt_of_lt_of_le hlt r2.size; obtain ⟨A1, c1, rfl, _, _⟩ := r1.form; have r1' := Lib.hid r1; have r2' := Lib.hid r2; have hl1 := Lib.hid (show (fDel l xn).length ≤ 1000 from Nat.le_trans (List.length_filter_le _ _) hl0.out); have hB2 := Lib.hid ((hB1.out.step ((Same.drew W ok).trans (Same.of_below r2 _))).mono (ok' := fun k => ok k ∨ W.drew.heap.size ≤ k) (fun k hk _ => .inl hk)); clear r1 r2) | (go_at_call 122; refine (put_any r1'.out (hr.out.del _) hl1.out ⟨t, xd, xs⟩ hB2.out).mono ?_; rintro e3 w3 ⟨v2, rfl, s1, s2⟩; have p3 := (s2.cell (p := ⟨w.heap.size, 0, none⟩) hlt2).trans p0; have p4 := (s2.cell (p := ⟨w.heap.size, 1, none⟩) hlt2).trans p1; have p5 := (s2.cell (p := ⟨w.heap.size, 2, none⟩) hlt2).trans p2; obtain ⟨A2, c2, rfl, _, _⟩ := s1.form; have s1' := Lib.hid s1; have s2' := Lib.hid s2; clear s1 s2))
      go_wp2
      go_ret2
      rw [e.out]
      refine ⟨_, _, _, rfl, s1'.out.mono (fun k hk _ => ?_), ?_⟩
      · rcases hk with (hk | hk) | hk
        · exact .inl hk
        · exact .inr (by have h : W.heap.size ≤ k := hk; omega)
        · exact .inr (by have := hlt2; omega)
      · have t2 : Below W.heap.size W w2 := ⟨r2'.out.os, r2'.out.tape, r2'.out.output, r2'.out.size, r2'.out.block⟩
        exact (hBel.out.trans (t2.mono (by omega))).trans (s2'.out.mono (by omega))
  · have e : pRename l s t = (l, 4) := by unfold pRename; rw [hf]
    replace e := Lib.hid e
    clear hf
    go_wp2_with fail
    go_ret2
    rw [e.out]
    exact ⟨_, _, _, rfl, RefOut.none h.out⟩
end Go.Proofs.YthnodmbenbiahaaGreatDoor
