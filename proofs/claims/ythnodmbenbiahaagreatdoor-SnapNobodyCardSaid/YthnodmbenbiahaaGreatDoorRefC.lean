/- The document's answer for disks (package gudgeonref05), walked: put. -/
import Derived.Test.YthnodmbenbiahaaGreatDoorRefB
namespace Go.Proofs.YthnodmbenbiahaaGreatDoor
open Go.RowKit Go.Maps

theorem below_drewN {B : Nat} {w w1 : World} (h : Below B w w1) (n : Nat) : Below B w (w1.drewN n) := ⟨h.os, h.tape, h.output, h.size, h.block⟩
theorem FilesMix.append {w w3 : World} {base : Nat} {ok : Nat → Prop} {V v3 : Value} {L : List FileD} {us : List Value} (hM : FilesMix w base ok V L us) (x : FileD) {u : Value} (hb : base ≤ w.heap.size) (hok : ∀ k, ok k → k < base) (hu : Bytes w ok u x.data) (o : Obj)
    (s1 : w3.ownsRow base 25 3 v3 (L.length + 1) (filesC L us ++ fileCells x u)) (s2 : (w.alloc o).grownBy w3 V.ownBlock) : FilesMix w3 base ok v3 (L ++ [x]) (us ++ [u]) ∧ Below base w w3 := by
  have t1 : Same w w3 ok := (Same.alloc _ _ _).trans (Same.of_grown s2 (fun b hb e => by have := own_base hM.2.1 b e.symm; have := hok b hb; omega))
  exact ⟨hM.snoc x t1 s1 (hu.step t1), ((Below.refl _ _).alloc hb _).grown s2 (by simp; omega) (fun b hb => own_base hM.2.1 b hb)⟩

set_option maxRecDepth 100000 in
set_option maxHeartbeats 4000000 in
theorem put_any {w : World} {ok : Nat → Prop} {v : Value} {l : List FileD} (h : FilesRd w ok v l) (hr : Rising FileD.name l) (hl : l.length ≤ 1000) (f : FileD) {FA : Option Addr} {fn fc : Nat} (hf : Bytes w ok (.slice FA fn fc) f.data) :
    Calls Tryz.prog 122 #[v, .agg #[.string f.name, .slice FA fn fc, .int .i64 f.safe]] w fun e w' => ∃ v', e = .returned v' ∧ FilesRd w' (fun k => ok k ∨ w.heap.size ≤ k) v' (fPut l f) ∧ Below w.heap.size w w' := by
  obtain ⟨A, c, rfl, hc, _⟩ := h.form
  obtain ⟨nm, fd, fs⟩ := f
  have hput := Lib.hid (put_is ⟨nm, fd, fs⟩ l hr)
  have h0 := Lib.hid (h.mono (ok' := fun k => ok k ∧ k < w.heap.size) (fun k h1 h2 => ⟨h1, h2⟩))
  have hf0 := Lib.hid (hf.mono (ok' := fun k => ok k ∧ k < w.heap.size) (fun k h1 h2 => ⟨h1, h2⟩))
  clear h hf hr
  have hBx := Lib.hid ((Below.refl w.heap.size w).alloc (Nat.le_refl _) (.cells #[.string nm, .slice FA fn fc, .int .i64 fs] 25))
  generalize hw1 : w.alloc (.cells #[.string nm, .slice FA fn fc, .int .i64 fs] 25) = w1 at hBx
  have hs1 : w1.heap.size = w.heap.size + 1 := by rw [← hw1]; simp
  have hb1 := heap_alloc_new w (.cells #[.string nm, .slice FA fn fc, .int .i64 fs] 25)
  rw [hw1] at hb1
  have hm := Lib.hid (World.ownsRow_made (base := w1.heap.size) (size := 3) (e := 25) w1 #[] 0 (Nat.le_refl _) (Nat.zero_le _) rfl)
  have hB1 := Lib.hid ((Below.refl w1.heap.size w1).alloc (Nat.le_refl _) (.cells #[] 25))
  have hb1 := Lib.hid hb1
  have hs1 := Lib.hid hs1
  go_enter Tryz.func122, Tryz.ntmps122
  go_wp2_with fail

  clear hw1
  go_loopw [5, 6, 7] (fun o dn i wr => ∃ (k : Nat) (us : List Value), k ≤ l.length ∧ i = .int .i64 k ∧ dn = .bool (putTo ⟨nm, fd, fs⟩ (l.take k)).2 ∧ FilesMix wr w1.heap.size (fun k => ok k ∧ k < w.heap.size) o (putTo ⟨nm, fd, fs⟩ (l.take k)).1 us ∧ Below w1.heap.size w1 wr) (fun _ _ i _ => l.length - (intOf i).toNat)
  case atStart =>
    refine ⟨0, [], Nat.zero_le _, rfl, rfl, ⟨rfl, ?_, fun i x u h => by simp [putTo] at h⟩, hB1.out⟩
    have := hm.out
    rw [hs1.out] at this
    rw [hs1.out]
    simpa [putTo, filesC] using this
  case round =>
    obtain ⟨k, us, hk, rfl, rfl, hF, hB⟩ := hrel
    have hsz := hB.size
    have hx1 := hs1.out
    have b0 : wr.heap[w.heap.size]? = some (.cells #[.string nm, .slice FA fn fc, .int .i64 fs] 25 (0, 0)) := (hB.block w.heap.size (by omega)).trans hb1.out
    have z0 : wr.cell? ⟨w.heap.size, 0, none⟩ = some (.string nm) := cell_blk b0 0
    have z1 : wr.cell? ⟨w.heap.size, 1, none⟩ = some (.slice FA fn fc) := cell_blk b0 1
    have z2 : wr.cell? ⟨w.heap.size, 2, none⟩ = some (.int .i64 fs) := cell_blk b0 2
    have hSame : Same w wr (fun k => ok k ∧ k < w.heap.size) := fun k hk hlt => ((hBx.out).trans (hB.mono (by omega))).block k hlt
    have hfB := hf0.out.step hSame
    have hacc := putTo_length ⟨nm, fd, fs⟩ (l.take k)
    have hacc : (putTo ⟨nm, fd, fs⟩ (l.take k)).1.length ≤ 2 * k := by simp at hacc; omega
    obtain ⟨VA, vc, hu5, _, _⟩ := own_form hF.2.1
    subst hu5
    by_cases hlt : k < l.length
    · obtain ⟨b, o, B, d, rfl, hb, c0, c1, c2, _, hBy⟩ := (h0.out.step hSame).get k hlt
      have i1 : (k : Int) < l.length := by omega
      have i2 : (0 : Int) ≤ k := by omega
      have htk : l.take (k + 1) = l.take k ++ [l[k]] := List.take_succ_eq_append_getElem hlt
      have hstep := putTo_snoc ⟨nm, fd, fs⟩ (l.take k) l[k]
      rw [← htk] at hstep
      generalize hP : putTo ⟨nm, fd, fs⟩ (l.take k) = P at *
      generalize hx : l[k] = x at *
      obtain ⟨xn, xd, xs⟩ := x
      obtain ⟨acc, dn⟩ := P
      simp only at hF hacc c0 c1 c2 hBy ⊢
      have hstep := Lib.hid hstep
      have hF := Lib.hid hF
      have hBy := Lib.hid hBy
      have hfB := Lib.hid hfB
      have hB := Lib.hid hB
      have hbw : b < w1.heap.size := by have := hb.2; omega
      have hbx : w.heap.size < w1.heap.size := by omega
      clear hP hx htk b0 hSame
      have hr1 := Lib.hid (fun n => own_step hF.out.2.1 (Same.drewN wr n (fun _ => True)) (fun _ _ => trivial))
      have hF := Lib.hid (fun n => hF.out.step (Same.drewN wr n _))
      have hBy := Lib.hid (fun n => hBy.out.step (Same.drewN wr n _))
      have hfB := Lib.hid (fun n => hfB.out.step (Same.drewN wr n _))
      have hB := Lib.hid (fun n => below_drewN hB.out n)
      cases dn with
      | true =>
        by_cases hn : xn = nm
        · have q2 := eq_yes hn
          have hend := Lib.hid (show putStep ⟨nm, fd, fs⟩ (acc, true) ⟨xn, xd, xs⟩ = (acc, true) by unfold putStep; simp [hn])
          clear hn
          go_wp2_with fail
          go_quiet (fail)
          go_wp2_with fail
          go_quiet (fail)
          go_wp2_with fail
          go_roundw
          case measure => simp [intOf]; omega
          case rel => exact ⟨k + 1, us, by omega, by go_num, by rw [hstep.out, hend.out], by rw [hstep.out, hend.out]; exact hF.out _, hB.out _⟩
        · have q2 := eq_no hn
          have hend := Lib.hid (show putStep ⟨nm, fd, fs⟩ (acc, true) ⟨xn, xd, xs⟩ = (acc ++ [⟨xn, xd, xs⟩], true) by unfold putStep; simp [hn])
          clear hn
          go_wp2_with fail
          go_quiet (fail)
          go_wp2_with fail
          go_quiet (fail)
          go_wp2_with (at_builtin; refine wpList_append rfl _ _ 26 (by rfl) Tryz.underlying26 info_File rfl (by decide) (v := .slice VA acc.length vc) (n := acc.length) rfl ((hr1.out _).alloc _) (by rfl) (m := 1) (by rfl) (news := fileCells ⟨xn, xd, xs⟩ (.slice B xd.length d)) (Cells.of_blk (heap_alloc_new _ _)) (fileCells_one ⟨xn, xd, xs⟩ (.slice B xd.length d) rfl) (by first | omega | (simp; omega)) (by first | omega | (simp; omega)) (by first | omega | (simp; omega)) ?_; intro v3 w3 s13 s23 s33)
          go_roundw
          case measure => simp [intOf]; omega
          case rel =>
            obtain ⟨p1, p2⟩ := (hF.out _).append ⟨xn, xd, xs⟩ hsz (fun k hk => by have := hk.2; omega) (hBy.out _) _ s13 s23
            exact ⟨k + 1, _, by omega, by go_num, by rw [hstep.out, hend.out], by rw [hstep.out, hend.out]; exact p1, (hB.out _).trans p2⟩
      | false =>
        by_cases hlt1 : nlt xn nm
        · have q1 := less_yes hlt1
          have q2 := eq_no (nlt_ne hlt1)
          have hend := Lib.hid (show putStep ⟨nm, fd, fs⟩ (acc, false) ⟨xn, xd, xs⟩ = (acc ++ [⟨xn, xd, xs⟩], false) by unfold putStep; simp [hlt1, nlt_ne hlt1])
          clear hlt1
          go_wp2_with fail
          go_quiet (fail)
          go_wp2_with fail
          go_quiet (fail)
          go_wp2_with (at_builtin; refine wpList_append rfl _ _ 26 (by rfl) Tryz.underlying26 info_File rfl (by decide) (v := .slice VA acc.length vc) (n := acc.length) rfl ((hr1.out _).alloc _) (by rfl) (m := 1) (by rfl) (news := fileCells ⟨xn, xd, xs⟩ (.slice B xd.length d)) (Cells.of_blk (heap_alloc_new _ _)) (fileCells_one ⟨xn, xd, xs⟩ (.slice B xd.length d) rfl) (by first | omega | (simp; omega)) (by first | omega | (simp; omega)) (by first | omega | (simp; omega)) ?_; intro v3 w3 s13 s23 s33)
          go_roundw
          case measure => simp [intOf]; omega
          case rel =>
            obtain ⟨p1, p2⟩ := (hF.out _).append ⟨xn, xd, xs⟩ hsz (fun k hk => by have := hk.2; omega) (hBy.out _) _ s13 s23
            exact ⟨k + 1, _, by omega, by go_num, by rw [hstep.out, hend.out], by rw [hstep.out, hend.out]; exact p1, (hB.out _).trans p2⟩
        · have q1 := less_no hlt1
          by_cases hn : xn = nm
          · have q2 := eq_yes hn
            have hend := Lib.hid (show putStep ⟨nm, fd, fs⟩ (acc, false) ⟨xn, xd, xs⟩ = (acc ++ [⟨nm, fd, fs⟩], true) by unfold putStep; simp [hn, nlt_irrefl])
            clear hn hlt1
            go_wp2_with fail
            go_quiet (fail)
            go_wp2_with (at_builtin; refine wpList_append rfl _ _ 26 (by rfl) Tryz.underlying26 info_File rfl (by decide) (v := .slice VA acc.length vc) (n := acc.length) rfl ((hr1.out _).alloc _) (by rfl) (m := 1) (by rfl) (news := fileCells ⟨nm, fd, fs⟩ (.slice FA fn fc)) (Cells.of_blk (heap_alloc_new _ _)) (fileCells_one ⟨nm, fd, fs⟩ (.slice FA fn fc) rfl) (by first | omega | (simp; omega)) (by first | omega | (simp; omega)) (by first | omega | (simp; omega)) ?_; intro v3 w3 s13 s23 s33)
            obtain ⟨p1, p2⟩ := (hF.out _).append ⟨nm, fd, fs⟩ hsz (fun k hk => by have := hk.2; omega) (hfB.out _) _ s13 s23
            have e0 := (p2.cell (p := ⟨b, o + k * 3, none⟩) hbw).trans c0
            have e1 := (p2.cell (p := ⟨w.heap.size, 0, none⟩) hbx).trans z0
            have p1 := Lib.hid (fun n => p1.step (Same.drewN w3 n _))
            have p2' := Lib.hid (fun n => below_drewN p2 n)
            have p2 := Lib.hid p2
            clear s13 s23 s33
            go_wp2_with fail
            go_quiet (fail)
            go_wp2_with fail
            go_roundw
            case measure => simp [intOf]; omega
            case rel => exact ⟨k + 1, _, by omega, by go_num, by rw [hstep.out, hend.out], by rw [hstep.out, hend.out]; exact p1.out _, (hB.out _).trans (p2'.out _)⟩
          · have q2 := eq_no hn
            have hend := Lib.hid (show putStep ⟨nm, fd, fs⟩ (acc, false) ⟨xn, xd, xs⟩ = (acc ++ [⟨nm, fd, fs⟩] ++ [⟨xn, xd, xs⟩], true) by unfold putStep; simp [hn, hlt1])
            clear hn hlt1
            go_wp2_with fail
            go_quiet (fail)
            go_wp2_with (at_builtin; refine wpList_append rfl _ _ 26 (by rfl) Tryz.underlying26 info_File rfl (by decide) (v := .slice VA acc.length vc) (n := acc.length) rfl ((hr1.out _).alloc _) (by rfl) (m := 1) (by rfl) (news := fileCells ⟨nm, fd, fs⟩ (.slice FA fn fc)) (Cells.of_blk (heap_alloc_new _ _)) (fileCells_one ⟨nm, fd, fs⟩ (.slice FA fn fc) rfl) (by first | omega | (simp; omega)) (by first | omega | (simp; omega)) (by first | omega | (simp; omega)) ?_; intro v3 w3 s13 s23 s33)
            obtain ⟨p1, p2⟩ := (hF.out _).append ⟨nm, fd, fs⟩ hsz (fun k hk => by have := hk.2; omega) (hfB.out _) _ s13 s23
            have e0 := (p2.cell (p := ⟨b, o + k * 3, none⟩) hbw).trans c0
            have e3 := (p2.cell (p := ⟨b, o + k * 3 + 1, none⟩) hbw).trans c1
            have e4 := (p2.cell (p := ⟨b, o + k * 3 + 2, none⟩) hbw).trans c2
            have e1 := (p2.cell (p := ⟨w.heap.size, 0, none⟩) hbx).trans z0
            have hsz3 : w1.heap.size ≤ w3.heap.size := Nat.le_trans hsz p2.size
            have hBy3 := Lib.hid (fun n => ((hBy.out 0).step (Same.mono (fun k hk hlt => p2.block k (by have := hk.2; omega)) (fun _ h => h) : Same (wr.drewN 0) w3 (fun k => ok k ∧ k < w.heap.size))).step (Same.drewN w3 n _))
            obtain ⟨VA3, vc3, e5, _, _⟩ := own_form p1.2.1
            subst e5
            have hr3 := Lib.hid (fun n => own_step p1.2.1 (Same.drewN w3 n (fun _ => True)) (fun _ _ => trivial))
            have p1 := Lib.hid (fun n => p1.step (Same.drewN w3 n _))
            have p2' := Lib.hid (fun n => below_drewN p2 n)
            have p2 := Lib.hid p2
            clear s13 s23 s33
            go_wp2_with fail
            go_quiet (fail)
            go_wp2_with (at_builtin; refine wpList_append rfl _ _ 26 (by rfl) Tryz.underlying26 info_File rfl (by decide) (v := .slice VA3 (acc ++ [(⟨nm, fd, fs⟩ : FileD)]).length vc3) (n := (acc ++ [(⟨nm, fd, fs⟩ : FileD)]).length) rfl ((hr3.out _).alloc _) (by rfl) (m := 1) (by rfl) (news := fileCells ⟨xn, xd, xs⟩ (.slice B xd.length d)) (Cells.of_blk (heap_alloc_new _ _)) (fileCells_one ⟨xn, xd, xs⟩ (.slice B xd.length d) rfl) (by first | omega | (simp; omega)) (by first | omega | (simp; omega)) (by first | omega | (simp; omega)) ?_; intro v4 w4 s14 s24 s34)
            go_roundw
            case measure => simp [intOf]; omega
            case rel =>
              obtain ⟨p3, p4⟩ := (p1.out _).append ⟨xn, xd, xs⟩ hsz3 (fun k hk => by have := hk.2; omega) (hBy3.out _) _ s14 s24
              exact ⟨k + 1, _, by omega, by go_num, by rw [hstep.out, hend.out], by rw [hstep.out, hend.out]; exact p3, ((hB.out _).trans (p2'.out _)).trans p4⟩
    · obtain rfl : k = l.length := by omega
      clear hlt
      rw [List.take_length] at hF hacc ⊢
      generalize hP : putTo ⟨nm, fd, fs⟩ l = P at *
      obtain ⟨acc, dn⟩ := P
      simp only at hF hacc ⊢
      have hr1 := Lib.hid hF.2.1
      have hF := Lib.hid hF
      have hfB := Lib.hid hfB
      have hB0 := Lib.hid (hBx.out.trans (hB.mono (by omega)))
      clear hP b0 hSame hB
      cases dn with
      | true =>
        go_wp2_with fail
        go_ret
        refine ⟨_, rfl, ?_, hB0.out⟩
        have e : fPut l ⟨nm, fd, fs⟩ = acc := hput.out.symm
        rw [e]
        exact hF.out.rd.mono (fun k hk _ => hk.imp (fun h => h.1) (fun h => by omega))
      | false =>
        go_wp2_with (at_builtin; refine wpList_append rfl _ _ 26 (by rfl) Tryz.underlying26 info_File rfl (by decide) (v := .slice VA acc.length vc) (n := acc.length) rfl (hr1.out.alloc _) (by rfl) (m := 1) (by rfl) (news := fileCells ⟨nm, fd, fs⟩ (.slice FA fn fc)) (Cells.of_blk (heap_alloc_new _ _)) (fileCells_one ⟨nm, fd, fs⟩ (.slice FA fn fc) rfl) (by first | omega | (simp; omega)) (by first | omega | (simp; omega)) (by first | omega | (simp; omega)) ?_; intro v3 w3 s13 s23 s33)
        go_ret
        obtain ⟨p1, p2⟩ := hF.out.append ⟨nm, fd, fs⟩ hsz (fun k hk => by have := hk.2; omega) hfB.out _ s13 s23
        refine ⟨_, rfl, ?_, hB0.out.trans (p2.mono (by omega))⟩
        have e : fPut l ⟨nm, fd, fs⟩ = acc ++ [⟨nm, fd, fs⟩] := hput.out.symm
        rw [e]
        exact p1.rd.mono (fun k hk _ => hk.imp (fun h => h.1) (fun h => by omega))
end Go.Proofs.YthnodmbenbiahaaGreatDoor
