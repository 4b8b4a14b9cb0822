/- Law DiskSafe, walked: what was safe is there behind any crash, and all files are beginnings of what they were. -/
import Derived.Test.YthnodmbenbiahaaDoorActs
namespace Go.Proofs.YthnodmbenbiahaaDoor
open Go.RowKit Go.Maps

theorem two_boxes {w W : World} {c1 c2 : Array Value} {t1 t2 : TypeId} (h : ((w.alloc (.cells c1 t1)).alloc (.cells c2 t2)).drew = W) : (∀ j, W.cell? ⟨w.heap.size, j, none⟩ = c1[j]?) ∧ (∀ j, W.cell? ⟨w.heap.size + 1, j, none⟩ = c2[j]?) ∧ Below w.heap.size w W := by
  subst h
  have e : (w.alloc (.cells c1 t1)).heap.size = w.heap.size + 1 := by simp
  have h1 := heap_alloc_new w (.cells c1 t1)
  have h2 := heap_alloc_new (w.alloc (.cells c1 t1)) (.cells c2 t2)
  rw [e] at h2
  have h3 : ((w.alloc (.cells c1 t1)).alloc (.cells c2 t2)).heap[w.heap.size]? = some (.cells c1 t1) := (Below.heap_alloc (w.alloc (.cells c1 t1)) (.cells c2 t2) w.heap.size (by omega)).trans h1
  have b := ((Below.refl w.heap.size w).alloc (Nat.le_refl _) (.cells c1 t1)).alloc (by simp) (.cells c2 t2)
  exact ⟨fun j => cell_blk (w := (World.alloc _ _).drew) h3 j, fun j => cell_blk (w := (World.alloc _ _).drew) h2 j, ⟨b.os, b.tape, b.output, b.size, b.block⟩⟩

set_option maxRecDepth 100000 in
set_option maxHeartbeats 4000000 in
theorem diskSafe_walk (w : World) {oka okc : Nat → Prop} {av cv : Value} {l : List ActD} {cuts : List Int} (hl : ActsRd w oka av l) (hoka : ∀ k, oka k → k < w.heap.size) (hc : Ints w okc cv cuts) (hokc : ∀ k, okc k → k < w.heap.size) (hcr : ∀ n ∈ cuts, -9223372036854775808 ≤ n ∧ n ≤ 9223372036854775807) :
    Calls Tryd.prog 4 #[av, cv] w fun e w' => e = .returned (.bool true) ∧ Below w.heap.size w w' := by
  obtain ⟨AA, ac, rfl, _, hlm⟩ := hl.form
  obtain ⟨CA, cc, rfl, _⟩ := hc.form
  have hlm : l.length ≤ 9223372036854775807 := hlm
  replace hl := Lib.hid hl
  replace hc := Lib.hid hc
  replace hoka := Lib.hid hoka
  replace hokc := Lib.hid hokc
  replace hcr := Lib.hid hcr
  go_enter Tryd.func4, Tryd.ntmps4
  go_wp2_with fail
  refine (new_any w).mono ?_
  rintro e w1 ⟨p, rfl, hd, hB⟩
  have hM : Mine w w1 p [] := ⟨hd, hB⟩
  have hl1 := Lib.hid (hl.out.step (Same.of_below hB _))
  replace hM := Lib.hid hM
  clear hd hB
  go_wp2_with fail
  refine (heavy_any hl1.out).mono ?_
  rintro e w' ⟨rfl, rfl⟩
  by_cases hh : 262144 < weigh l
  · go_wp2_with (go_at_call 11; refine (awake5 _).mono ?_; rintro e w3 ⟨rfl, hb3⟩)
    go_ret
    exact ⟨rfl, (hM.out.below hb3).2⟩
  have hbl : ∀ i (hi : i < l.length), i < 100 → l[i].b.length ≤ 262144 := fun i hi h => by have := weigh_le hi (by omega : i < 400); omega
  replace hbl := Lib.hid hbl
  have hBoth0 : Both w (w1.alloc (.cells #[] 33)) p (.slice (some ⟨w1.heap.size, 0, none⟩) 0 0) [] [] (fun k => w.heap.size ≤ k ∧ k < w1.heap.size) (fun _ => False) :=
    ⟨fun k hk => ⟨hk.1, by simp; omega⟩, fun k hk => hk.elim, (hM.out.1.mono (fun k hk hlt => ⟨hk, hlt⟩)).step (Same.alloc _ _ _), ⟨_, 0, [], rfl, Nat.le_refl _, Nat.zero_le _, rfl, Cells.empty _ _ _, fun i x u h => by simp at h⟩, (hM.out.alloc _).2⟩
  replace hBoth0 := Lib.hid hBoth0
  go_wp2_with fail
  go_loopw [6, 7] (fun v i wr => ∃ (k : Nat) (m : List FileD) (okd okl : Nat → Prop), k ≤ l.length ∧ k ≤ 100 ∧ i = .int .i64 k ∧ Both w wr p v m m okd okl) (fun _ i _ => l.length - (intOf i).toNat)
  case atStart => exact ⟨0, [], _, _, Nat.zero_le _, Nat.zero_le _, rfl, hBoth0.out⟩
  case round =>
    obtain ⟨k, m, okd, okl, hk, hk1, rfl, hBoth⟩ := hrel
    by_cases hgo : k < l.length ∧ k < 100
    · obtain ⟨hlt, h100⟩ := hgo
      have i1 : (k : Int) < l.length := by omega
      have i2 : (k : Int) < 100 := by omega
      have hl2 := hl.out.step (Same.of_below hBoth.bel oka)
      obtain ⟨b, o, B, d, C, e, rfl, hb, c0, c1, c2, c3, c4, c5, hBy, hIn⟩ := hl2.get k hlt
      have hfit := hl.out.fit _ (List.getElem_mem hlt)
      have hbk := hbl.out k hlt h100
      generalize l[k] = x at *
      obtain ⟨A1, c1', rfl, _, _⟩ := hBoth.rd.form
      have hoka1 : ∀ k, oka k → k < wr.heap.size ∧ ¬ okd k := fun k hk => ⟨Nat.lt_of_lt_of_le (hoka.out k hk) hBoth.bel.size, fun h => by have := (hBoth.d k h).1; have := hoka.out k hk; omega⟩
      replace hBoth := Lib.hid hBoth
      replace hBy := Lib.hid hBy
      replace hIn := Lib.hid hIn
      replace hoka1 := Lib.hid hoka1
      replace hfit := Lib.hid hfit
      clear hl2
      go_wp2_with fail
      refine (does_any hBoth.out x hfit.out.ok hoka1.out hBy.out hbk hIn.out hfit.out.c).mono ?_
      rintro e w2 ⟨A2, n2, c2', okd', okl', rfl, hB2, _, _⟩
      replace hB2 := Lib.hid hB2
      go_wp2_with fail
      go_roundw
      case measure => simp [intOf]; omega
      case rel => exact ⟨k + 1, _, _, _, by omega, by omega, by go_num, hB2.out⟩
    · rename World => wq
      obtain ⟨A1, c1', rfl, _, _⟩ := hBoth.rd.form
      have hfine := hBoth.fine
      have hdis : ∀ k, okc k → ¬ okd k := fun k hk h => by have := (hBoth.d k h).1; have := hokc.out k hk; omega
      have hdq : ∀ k, okd k → k < wq.heap.size := fun k hk => (hBoth.d k hk).2
      replace hBoth := Lib.hid hBoth
      replace hfine := Lib.hid hfine
      replace hdis := Lib.hid hdis
      replace hdq := Lib.hid hdq
      have hends : (k < l.length ∧ k = 100) ∨ k = l.length := by omega
      clear hgo hk hk1
      rcases hends with ⟨hlt, rfl⟩ | rfl
      · have i0 : (100 : Int) < l.length := by omega
        go_wp2_with fail
        refine (files_at hBoth.out.at_).mono ?_
        rintro e w4 ⟨fv, us, rfl, hF, hb4⟩
        have hB4 := Lib.hid (hBoth.out.below hb4)
        have hR4 := Lib.hid hF.rd
        have hc4 := Lib.hid (hc.out.step ((Same.of_below hB4.out.bel _)))
        obtain ⟨A4, c4, rfl, _, _⟩ := hF.rd.form
        clear hF hb4
        go_wp2_with fail
        refine (crash_any hB4.out.at_ hc4.out hdis.out hcr.out).mono ?_
        rintro e w5 ⟨rfl, hA⟩
        have hB5 := Lib.hid (hB4.out.disk hA)
        have hR5 := Lib.hid (hR4.out.step (hA.2.part (fun k hk h => by have := hdq.out k h; omega)))
        clear hA
        go_wp2_with fail
        refine (files_at hB5.out.at_).mono ?_
        rintro e w6 ⟨fv2, us2, rfl, hF2, hb6⟩
        have hBel := Lib.hid (hB5.out.below hb6).bel
        have hR1 := Lib.hid (hR5.out.step (Same.of_below hb6 _))
        have hR2 := Lib.hid hF2.rd
        obtain ⟨A6, c6, rfl, _, _⟩ := hF2.rd.form
        clear hF2 hb6
        have hplen : (pCrash m cuts).length = m.length := by simp [pCrash]
        have hpget : ∀ k (hk : k < m.length), (pCrash m cuts)[k]'(by rw [hplen]; exact hk) = crashed m[k] cuts[k]? := fun k hk => by simp [pCrash]
        replace hpget := Lib.hid hpget
        rw [hplen]
        generalize hPm : pCrash m cuts = pm at *
        replace hplen := Lib.hid hplen
        clear hPm
        go_wp2_with fail
        go_loopw [10] (fun i wr => ∃ (k : Nat), k ≤ m.length ∧ i = .int .i64 k ∧ Below w6.heap.size w6 wr) (fun i _ => m.length - (intOf i).toNat)
        case atStart => exact ⟨0, Nat.zero_le _, rfl, Below.refl _ _⟩
        case round =>
          obtain ⟨k, hk, rfl, hBw⟩ := hrel
          by_cases hlt : k < m.length
          · have i1 : (k : Int) < m.length := by omega
            obtain ⟨b, o, B, d, e1, hb, c0, c1, c2, hd1, hBy1⟩ := (hR1.out.step (Same.of_below hBw _)).get k hlt
            obtain ⟨b2, o2, B2, d2, e2, hb2, q0, q1, q2, hd2, hBy2⟩ := (hR2.out.step (Same.of_below hBw _)).get k (by rw [hplen.out]; exact hlt)
            subst e1 e2
            rw [hpget.out k hlt] at q0 q1 q2 hd2 hBy2
            obtain ⟨hz1, hz2, hz3⟩ := hfine.out.2.2 _ (List.getElem_mem hlt)
            generalize m[k] = x at *
            generalize cuts[k]? = ct at *
            obtain ⟨xn, xd, xs⟩ := x
            have hst := stays_le (f := ⟨xn, xd, xs⟩) hz2 hz3 ct
            simp only [crashed] at *
            generalize stays ⟨xn, xd, xs⟩ ct = N at *
            have n0 := World.new_ne wr _ c0
            have n1 := World.new_ne wr _ c1
            have n2 := World.new_ne wr _ c2
            have n3 := World.new_ne wr _ q0
            have n4 := World.new_ne wr _ q1
            have n5 := World.new_ne wr _ q2
            obtain ⟨hst1, hst2⟩ := hst
            have hmin : (xd.take N).length = N := by simp; omega
            rw [hmin] at q1 hBy2 hd2
            have hcv : ∀ W, Below wr.heap.size wr W → (convert 22 9 (.slice B N d)).run Tryd.prog W = .ok (.string (strOf (xd.take N))) W ∧ (convert 22 9 (.slice B2 N d2)).run Tryd.prog W = .ok (.string (strOf (xd.take N))) W := fun W hb =>
              ⟨run_string (P := Tryd.prog) ((hBy1.take N hst1).step (Same.of_below hb _)) Tryd.underlying22 Tryd.underlying5 Tryd.underlying9, run_string (P := Tryd.prog) (l := xd.take N) (by have := hBy2.step (Same.of_below hb _); exact this) Tryd.underlying22 Tryd.underlying5 Tryd.underlying9⟩
            replace hcv := Lib.hid hcv
            have hm1 := hfine.out.2.1
            have j1 : ¬ ((N : Int) < xs) := by omega
            have j2 : ¬ ((xd.length : Int) < N) := by omega
            have j3 : (0 : Int) ≤ N := by omega
            have j4 : N ≤ d := by omega
            have j5 : (N : Int) ≤ d := by omega
            have j6 : ¬ (xd.length < N) := by omega
            clear hBy1 hBy2
            replace hBw := Lib.hid hBw
            go_wp2_with fail
            go_region_held3 (fun w' => w'.cell? ⟨b, o + k * 3, none⟩ = some (.string xn) ∧ w'.cell? ⟨b, o + k * 3 + 1, none⟩ = some (.slice B xd.length d) ∧ w'.cell? ⟨b, o + k * 3 + 2, none⟩ = some (.int .i64 xs) ∧ w'.cell? ⟨b2, o2 + k * 3, none⟩ = some (.string xn) ∧ w'.cell? ⟨b2, o2 + k * 3 + 1, none⟩ = some (.slice B2 N d2) ∧ w'.cell? ⟨b2, o2 + k * 3 + 2, none⟩ = some (.int .i64 N)) (go_keep) (fail)
            · generalize hW : ((wr.alloc (.cells #[.string xn, .slice B xd.length d, .int .i64 xs] 33)).alloc (.cells #[.string xn, .slice B2 N d2, .int .i64 N] 33)).drew = W
              obtain ⟨f1, f2, hbW⟩ := two_boxes hW
              clear hW
              have x0 := f1 0
              have x1 := f1 1
              have x2 := f1 2
              have y0 := f2 0
              have y1 := f2 1
              have y2 := f2 2
              simp only [List.getElem?_toArray, List.getElem?_cons_zero, List.getElem?_cons_succ] at x0 x1 x2 y0 y1 y2
              have v1 := fun n => (hcv.out (W.drewN n) (below_drewN hbW n)).1
              have v2 := fun n => (hcv.out (W.drewN n) (below_drewN hbW n)).2
              replace hbW := Lib.hid hbW
              clear f1 f2 c0 c1 c2 q0 q1 q2 n0 n1 n2 n3 n4 n5
              go_wp2_with fail
              go_quiet (fail)
              go_wp2_with fail
              go_roundw
              case measure => simp [intOf]; omega
              case rel => exact ⟨k + 1, by omega, by go_num, below_drewN (hBw.out.trans (hbW.out.mono hBw.out.size)) _⟩
            · generalize hW : ((wr.alloc (.cells #[.string xn, .slice B2 N d2, .int .i64 N] 33)).alloc (.cells #[.string xn, .slice B xd.length d, .int .i64 xs] 33)).drew = W
              obtain ⟨f1, f2, hbW⟩ := two_boxes hW
              clear hW
              have x0 := f1 0
              have x1 := f1 1
              have x2 := f1 2
              have y0 := f2 0
              have y1 := f2 1
              have y2 := f2 2
              simp only [List.getElem?_toArray, List.getElem?_cons_zero, List.getElem?_cons_succ] at x0 x1 x2 y0 y1 y2
              have v1 := fun n => (hcv.out (W.drewN n) (below_drewN hbW n)).1
              have v2 := fun n => (hcv.out (W.drewN n) (below_drewN hbW n)).2
              replace hbW := Lib.hid hbW
              clear f1 f2 c0 c1 c2 q0 q1 q2 n0 n1 n2 n3 n4 n5
              go_wp2_with fail
              go_quiet (fail)
              go_wp2_with fail
              go_roundw
              case measure => simp [intOf]; omega
              case rel => exact ⟨k + 1, by omega, by go_num, below_drewN (hBw.out.trans (hbW.out.mono hBw.out.size)) _⟩
          · obtain rfl : k = m.length := by omega
            replace hBw := Lib.hid hBw
            clear hlt
            go_wp2_with (go_at_call 11; refine (awake5 _).mono ?_; rintro e w7 ⟨rfl, hb7⟩)
            go_ret
            exact ⟨rfl, (hBel.out.trans (hBw.out.mono hBel.out.size)).trans (hb7.mono (Nat.le_trans hBel.out.size hBw.out.size))⟩
      · go_wp2_with fail
        refine (files_at hBoth.out.at_).mono ?_
        rintro e w4 ⟨fv, us, rfl, hF, hb4⟩
        have hB4 := Lib.hid (hBoth.out.below hb4)
        have hR4 := Lib.hid hF.rd
        have hc4 := Lib.hid (hc.out.step ((Same.of_below hB4.out.bel _)))
        obtain ⟨A4, c4, rfl, _, _⟩ := hF.rd.form
        clear hF hb4
        go_wp2_with fail
        refine (crash_any hB4.out.at_ hc4.out hdis.out hcr.out).mono ?_
        rintro e w5 ⟨rfl, hA⟩
        have hB5 := Lib.hid (hB4.out.disk hA)
        have hR5 := Lib.hid (hR4.out.step (hA.2.part (fun k hk h => by have := hdq.out k h; omega)))
        clear hA
        go_wp2_with fail
        refine (files_at hB5.out.at_).mono ?_
        rintro e w6 ⟨fv2, us2, rfl, hF2, hb6⟩
        have hBel := Lib.hid (hB5.out.below hb6).bel
        have hR1 := Lib.hid (hR5.out.step (Same.of_below hb6 _))
        have hR2 := Lib.hid hF2.rd
        obtain ⟨A6, c6, rfl, _, _⟩ := hF2.rd.form
        clear hF2 hb6
        have hplen : (pCrash m cuts).length = m.length := by simp [pCrash]
        have hpget : ∀ k (hk : k < m.length), (pCrash m cuts)[k]'(by rw [hplen]; exact hk) = crashed m[k] cuts[k]? := fun k hk => by simp [pCrash]
        replace hpget := Lib.hid hpget
        rw [hplen]
        generalize hPm : pCrash m cuts = pm at *
        replace hplen := Lib.hid hplen
        clear hPm
        go_wp2_with fail
        go_loopw [10] (fun i wr => ∃ (k : Nat), k ≤ m.length ∧ i = .int .i64 k ∧ Below w6.heap.size w6 wr) (fun i _ => m.length - (intOf i).toNat)
        case atStart => exact ⟨0, Nat.zero_le _, rfl, Below.refl _ _⟩
        case round =>
          obtain ⟨k, hk, rfl, hBw⟩ := hrel
          by_cases hlt : k < m.length
          · have i1 : (k : Int) < m.length := by omega
            obtain ⟨b, o, B, d, e1, hb, c0, c1, c2, hd1, hBy1⟩ := (hR1.out.step (Same.of_below hBw _)).get k hlt
            obtain ⟨b2, o2, B2, d2, e2, hb2, q0, q1, q2, hd2, hBy2⟩ := (hR2.out.step (Same.of_below hBw _)).get k (by rw [hplen.out]; exact hlt)
            subst e1 e2
            rw [hpget.out k hlt] at q0 q1 q2 hd2 hBy2
            obtain ⟨hz1, hz2, hz3⟩ := hfine.out.2.2 _ (List.getElem_mem hlt)
            generalize m[k] = x at *
            generalize cuts[k]? = ct at *
            obtain ⟨xn, xd, xs⟩ := x
            have hst := stays_le (f := ⟨xn, xd, xs⟩) hz2 hz3 ct
            simp only [crashed] at *
            generalize stays ⟨xn, xd, xs⟩ ct = N at *
            have n0 := World.new_ne wr _ c0
            have n1 := World.new_ne wr _ c1
            have n2 := World.new_ne wr _ c2
            have n3 := World.new_ne wr _ q0
            have n4 := World.new_ne wr _ q1
            have n5 := World.new_ne wr _ q2
            obtain ⟨hst1, hst2⟩ := hst
            have hmin : (xd.take N).length = N := by simp; omega
            rw [hmin] at q1 hBy2 hd2
            have hcv : ∀ W, Below wr.heap.size wr W → (convert 22 9 (.slice B N d)).run Tryd.prog W = .ok (.string (strOf (xd.take N))) W ∧ (convert 22 9 (.slice B2 N d2)).run Tryd.prog W = .ok (.string (strOf (xd.take N))) W := fun W hb =>
              ⟨run_string (P := Tryd.prog) ((hBy1.take N hst1).step (Same.of_below hb _)) Tryd.underlying22 Tryd.underlying5 Tryd.underlying9, run_string (P := Tryd.prog) (l := xd.take N) (by have := hBy2.step (Same.of_below hb _); exact this) Tryd.underlying22 Tryd.underlying5 Tryd.underlying9⟩
            replace hcv := Lib.hid hcv
            have hm1 := hfine.out.2.1
            have j1 : ¬ ((N : Int) < xs) := by omega
            have j2 : ¬ ((xd.length : Int) < N) := by omega
            have j3 : (0 : Int) ≤ N := by omega
            have j4 : N ≤ d := by omega
            have j5 : (N : Int) ≤ d := by omega
            have j6 : ¬ (xd.length < N) := by omega
            clear hBy1 hBy2
            replace hBw := Lib.hid hBw
            go_wp2_with fail
            go_region_held3 (fun w' => w'.cell? ⟨b, o + k * 3, none⟩ = some (.string xn) ∧ w'.cell? ⟨b, o + k * 3 + 1, none⟩ = some (.slice B xd.length d) ∧ w'.cell? ⟨b, o + k * 3 + 2, none⟩ = some (.int .i64 xs) ∧ w'.cell? ⟨b2, o2 + k * 3, none⟩ = some (.string xn) ∧ w'.cell? ⟨b2, o2 + k * 3 + 1, none⟩ = some (.slice B2 N d2) ∧ w'.cell? ⟨b2, o2 + k * 3 + 2, none⟩ = some (.int .i64 N)) (go_keep) (fail)
            · generalize hW : ((wr.alloc (.cells #[.string xn, .slice B xd.length d, .int .i64 xs] 33)).alloc (.cells #[.string xn, .slice B2 N d2, .int .i64 N] 33)).drew = W
              obtain ⟨f1, f2, hbW⟩ := two_boxes hW
              clear hW
              have x0 := f1 0
              have x1 := f1 1
              have x2 := f1 2
              have y0 := f2 0
              have y1 := f2 1
              have y2 := f2 2
              simp only [List.getElem?_toArray, List.getElem?_cons_zero, List.getElem?_cons_succ] at x0 x1 x2 y0 y1 y2
              have v1 := fun n => (hcv.out (W.drewN n) (below_drewN hbW n)).1
              have v2 := fun n => (hcv.out (W.drewN n) (below_drewN hbW n)).2
              replace hbW := Lib.hid hbW
              clear f1 f2 c0 c1 c2 q0 q1 q2 n0 n1 n2 n3 n4 n5
              go_wp2_with fail
              go_quiet (fail)
              go_wp2_with fail
              go_roundw
              case measure => simp [intOf]; omega
              case rel => exact ⟨k + 1, by omega, by go_num, below_drewN (hBw.out.trans (hbW.out.mono hBw.out.size)) _⟩
            · generalize hW : ((wr.alloc (.cells #[.string xn, .slice B2 N d2, .int .i64 N] 33)).alloc (.cells #[.string xn, .slice B xd.length d, .int .i64 xs] 33)).drew = W
              obtain ⟨f1, f2, hbW⟩ := two_boxes hW
              clear hW
              have x0 := f1 0
              have x1 := f1 1
              have x2 := f1 2
              have y0 := f2 0
              have y1 := f2 1
              have y2 := f2 2
              simp only [List.getElem?_toArray, List.getElem?_cons_zero, List.getElem?_cons_succ] at x0 x1 x2 y0 y1 y2
              have v1 := fun n => (hcv.out (W.drewN n) (below_drewN hbW n)).1
              have v2 := fun n => (hcv.out (W.drewN n) (below_drewN hbW n)).2
              replace hbW := Lib.hid hbW
              clear f1 f2 c0 c1 c2 q0 q1 q2 n0 n1 n2 n3 n4 n5
              go_wp2_with fail
              go_quiet (fail)
              go_wp2_with fail
              go_roundw
              case measure => simp [intOf]; omega
              case rel => exact ⟨k + 1, by omega, by go_num, below_drewN (hBw.out.trans (hbW.out.mono hBw.out.size)) _⟩
          · obtain rfl : k = m.length := by omega
            replace hBw := Lib.hid hBw
            clear hlt
            go_wp2_with (go_at_call 11; refine (awake5 _).mono ?_; rintro e w7 ⟨rfl, hb7⟩)
            go_ret
            exact ⟨rfl, (hBel.out.trans (hBw.out.mono hBel.out.size)).trans (hb7.mono (Nat.le_trans hBel.out.size hBw.out.size))⟩
end Go.Proofs.YthnodmbenbiahaaDoor
