/- The disk's call Load. -/
import Derived.Test.YthnodmbenbiahaaDoorMay
import Derived.Test.YthnodmbenbiahaaDoorLoadA
namespace Go.Proofs.YthnodmbenbiahaaDoor
open Go.RowKit Go.Maps

theorem may_w (s : ByteArray) (w : World) (hs : s.size ≤ maxLen) {b : Bool} (h : okName s = b) : Calls Tryd.prog 33 #[.string s] w fun e w' => e = .returned (.bool b) ∧ Below w.heap.size w w' := by
  subst h
  exact may_any s w (by simpa [maxLen] using hs)

set_option maxRecDepth 100000 in
set_option maxHeartbeats 8000000 in
theorem load_any {w : World} {ok : Nat → Prop} {v : Value} {l : List FileD} (h : FilesRd w ok v l) (hs : ∀ x ∈ l, x.name.size ≤ maxLen) :
    Calls Tryd.prog 21 #[v] w fun e w' => (mayOk l = false ∧ e = .returned (.tuple #[.pointer none, .int .i64 1]) ∧ Below w.heap.size w w') ∨ (mayOk l = true ∧ ∃ p, e = .returned (.tuple #[.pointer (some ⟨p, 0, none⟩), .int .i64 0]) ∧ Mine w w' p l) := by
  obtain ⟨A, c, rfl, _, hlm⟩ := h.form
  have hlm : l.length ≤ 9223372036854775807 := hlm
  replace h := Lib.hid h
  replace hs := Lib.hid hs
  go_enter Tryd.func21, Tryd.ntmps21
  go_wp2_with fail
  refine (new_any w).mono ?_
  rintro e w1 ⟨p, rfl, hd, hB⟩
  have hM0 : Mine w w1 p [] := ⟨hd, hB⟩
  replace hM0 := Lib.hid hM0
  clear hd hB
  go_wp2_with fail
  go_loopw [10] (fun i wr => ∃ k : Nat, k ≤ l.length ∧ i = .int .i64 k ∧ Hid (∀ j, j < k → gk l j = true) ∧ (k = 0 ∨ l.length ≤ 64) ∧ Mine w wr p (l.take k)) (fun i _ => l.length - (intOf i).toNat)
  case atStart => exact ⟨0, Nat.zero_le _, rfl, Lib.hid (fun j hj => by omega), .inl rfl, hM0.out⟩
  case round =>
    obtain ⟨k, hk, rfl, hall, h64, hM⟩ := hrel
    have hB := hM.2
    by_cases hlt : k < l.length
    · have i1 : (k : Int) < l.length := by omega
      have i2 : (0 : Int) ≤ k := by omega
      obtain ⟨b, o, B, d, rfl, _, c0, c1, c2, hd, hBy⟩ := (h.out.step (Same.of_below hB _)).get k hlt
      have hg := gk_at hlt
      have hno := Lib.hid (fun h => mayOk_no hlt h)
      have hnx := Lib.hid (show gk l k = true → ∀ j, j < k + 1 → gk l j = true from fun h j hj => by
        rcases Nat.lt_or_ge j k with h1 | h1
        · exact hall.out j h1
        · obtain rfl : j = k := by omega
          exact h)
      have hsz := hs.out _ (List.getElem_mem hlt)
      have hcp : 0 < k → ∃ y, prevOf l k = some y ∧ wr.cell? ⟨b, o + (k - 1) * 3, none⟩ = some (.string y.name) := fun h0 => by
        obtain ⟨b', o', B', d', e, _, c0', _⟩ := (h.out.step (Same.of_below hB _)).get (k - 1) (by omega)
        injection e with e
        injection e with e1 e2 e3
        subst e1 e2
        exact ⟨l[k - 1], by unfold prevOf; rw [if_neg (by omega), List.getElem?_eq_getElem (by omega)], c0'⟩
      have hpt := Lib.hid (take_put hlt)
      have hct := Lib.hid (fun (g : List Ent) (hg : g.map Ent.file = l.take k) (x : Ent) (hx : x.file = l[k]) h64 h => put_count hlt h64 hg hx h)
      generalize hp : prevOf l k = pv at *
      generalize l[k] = x at *
      obtain ⟨xn, xd, xs⟩ := x
      simp only at c0 c1 c2 hsz hd
      replace hg := Lib.hid hg
      have bx := heap_alloc_new wr (.cells #[.string xn, .slice B xd.length d, .int .i64 xs] 33)
      have hMA := Lib.hid (hM.alloc (.cells #[.string xn, .slice B xd.length d, .int .i64 xs] 33))
      have z0 : (wr.alloc (.cells #[.string xn, .slice B xd.length d, .int .i64 xs] 33)).cell? ⟨wr.heap.size, 0, none⟩ = some (.string xn) := cell_blk bx 0
      have z1 : (wr.alloc (.cells #[.string xn, .slice B xd.length d, .int .i64 xs] 33)).cell? ⟨wr.heap.size, 1, none⟩ = some (.slice B xd.length d) := cell_blk bx 1
      have z2 : (wr.alloc (.cells #[.string xn, .slice B xd.length d, .int .i64 xs] 33)).cell? ⟨wr.heap.size, 2, none⟩ = some (.int .i64 xs) := cell_blk bx 2
      have hcp' := Lib.hid (show 0 < k → ∃ y, pv = some y ∧ (wr.alloc (.cells #[.string xn, .slice B xd.length d, .int .i64 xs] 33)).cell? ⟨b, o + (k - 1) * 3, none⟩ = some (.string y.name) from fun h0 => by
        obtain ⟨y, e1, e2⟩ := hcp h0
        exact ⟨y, e1, (World.cell?_alloc_lt wr _ _ (cell_lt e2)).trans e2⟩)
      replace hM := Lib.hid hM
      replace hBy := Lib.hid (hBy.step (Same.alloc wr (.cells #[.string xn, .slice B xd.length d, .int .i64 xs] 33) _))
      clear bx hcp hB
      go_wp2_with fail
      generalize wr.alloc (.cells #[.string xn, .slice B xd.length d, .int .i64 xs] 33) = W at *
      clear c0 c1 c2
      have x0 := later_cell z0
      have x1 := later_cell z1
      have x2 := later_cell z2
      by_cases j0 : (64 : Int) < l.length
      · have e := Lib.hid (mayOk_long (l := l) (by omega))
        refine region_later (by kernel_rfl) (by kernel_rfl) ?_
        repeat (first | go_big_quiet_skip | (go_big_quiet_want; go_big_quiet_op; first | go_big_quiet_on | (apply Exists.intro; refine ⟨fun _ => ?_, ?_⟩; (· (go_at_call 33; exact later_call (may_w xn _ hsz hok))); go_big_quiet_on)))
        refine wpQuiet_nil ?_
        intro _ hw'
        obtain ⟨nq, hw''⟩ := hw'
        subst hw''
        go_wp2_with fail
        go_ret2
        exact .inl ⟨e.out, rfl, hMA.out.2.trans (nq.property.mono hMA.out.2.size)⟩
      have h64' : l.length ≤ 64 := by omega
      cases hok : okName xn with
      | false =>
        have e := Lib.hid (hno.out (by rw [hg.out]; unfold goodB; simp [hok]))
        refine region_later (by kernel_rfl) (by kernel_rfl) ?_
        repeat (first | go_big_quiet_skip | (go_big_quiet_want; go_big_quiet_op; first | go_big_quiet_on | (apply Exists.intro; refine ⟨fun _ => ?_, ?_⟩; (· (go_at_call 33; exact later_call (may_w xn _ hsz hok))); go_big_quiet_on)))
        refine wpQuiet_nil ?_
        intro _ hw'
        obtain ⟨nq, hw''⟩ := hw'
        subst hw''
        go_wp2_with fail
        go_ret2
        exact .inl ⟨e.out, rfl, hMA.out.2.trans (nq.property.mono hMA.out.2.size)⟩
      | true =>
        by_cases j1 : (65536 : Int) < xd.length
        · have j1' : ¬ xd.length ≤ 65536 := by omega
          have e := Lib.hid (hno.out (by rw [hg.out]; unfold goodB; simp [hok, j1']))
          clear j1'
          refine region_later (by kernel_rfl) (by kernel_rfl) ?_
          repeat (first | go_big_quiet_skip | (go_big_quiet_want; go_big_quiet_op; first | go_big_quiet_on | (apply Exists.intro; refine ⟨fun _ => ?_, ?_⟩; (· (go_at_call 33; exact later_call (may_w xn _ hsz hok))); go_big_quiet_on)))
          refine wpQuiet_nil ?_
          intro _ hw'
          obtain ⟨nq, hw''⟩ := hw'
          subst hw''
          go_wp2_with fail
          go_ret2
          exact .inl ⟨e.out, rfl, hMA.out.2.trans (nq.property.mono hMA.out.2.size)⟩
        have j1' : xd.length ≤ 65536 := by omega
        by_cases j2 : xs < 0
        · have j2' : ¬ (0 ≤ xs) := by omega
          have e := Lib.hid (hno.out (by rw [hg.out]; unfold goodB; simp [hok, j1', j2']))
          clear j2'
          refine region_later (by kernel_rfl) (by kernel_rfl) ?_
          repeat (first | go_big_quiet_skip | (go_big_quiet_want; go_big_quiet_op; first | go_big_quiet_on | (apply Exists.intro; refine ⟨fun _ => ?_, ?_⟩; (· (go_at_call 33; exact later_call (may_w xn _ hsz hok))); go_big_quiet_on)))
          refine wpQuiet_nil ?_
          intro _ hw'
          obtain ⟨nq, hw''⟩ := hw'
          subst hw''
          go_wp2_with fail
          go_ret2
          exact .inl ⟨e.out, rfl, hMA.out.2.trans (nq.property.mono hMA.out.2.size)⟩
        have j2' : 0 ≤ xs := by omega
        by_cases j3 : (xd.length : Int) < xs
        · have j3' : ¬ (xs ≤ xd.length) := by omega
          have e := Lib.hid (hno.out (by rw [hg.out]; unfold goodB; simp [hok, j1', j2', j3']))
          clear j3'
          refine region_later (by kernel_rfl) (by kernel_rfl) ?_
          repeat (first | go_big_quiet_skip | (go_big_quiet_want; go_big_quiet_op; first | go_big_quiet_on | (apply Exists.intro; refine ⟨fun _ => ?_, ?_⟩; (· (go_at_call 33; exact later_call (may_w xn _ hsz hok))); go_big_quiet_on)))
          refine wpQuiet_nil ?_
          intro _ hw'
          obtain ⟨nq, hw''⟩ := hw'
          subst hw''
          go_wp2_with fail
          go_ret2
          exact .inl ⟨e.out, rfl, hMA.out.2.trans (nq.property.mono hMA.out.2.size)⟩
        have j3' : xs ≤ xd.length := by omega
        by_cases j4 : k = 0
        · have hpv : pv = none := by rw [← hp, j4]; rfl
          have j5 : ¬ (0 : Int) < k := by omega
          have j5n : ¬ 0 < k := by omega
          have e := Lib.hid (hnx.out (by rw [hg.out]; unfold goodB; simp [hok, j1', j2', j3', hpv]))
          clear hpv j4
          refine region_later (by kernel_rfl) (by kernel_rfl) ?_
          repeat (first | go_big_quiet_skip | (go_big_quiet_want; go_big_quiet_op; first | go_big_quiet_on | (apply Exists.intro; refine ⟨fun _ => ?_, ?_⟩; (· (go_at_call 33; exact later_call (may_w xn _ hsz hok))); go_big_quiet_on)))
          refine wpQuiet_nil ?_
          intro _ hw'
          obtain ⟨nq, hw''⟩ := hw'
          subst hw''
          go_wp2_with fail
          have hMN := Lib.hid (hMA.out.below nq.property)
          have n0 := x0 nq
          have n1 := x1 nq
          have n2 := x2 nq
          have hByV := hBy.out.step (Same.of_below nq.property _)
          generalize nq.val = V at *
          obtain ⟨mb, g, hG, hgm, hown⟩ := hMN.out.1
          obtain ⟨D, hm1, hm2⟩ := hG.mp
          have hc0 : V.cell? ⟨p, 0, none⟩ = some (.map (some mb)) := (cell_blk hG.pc 0).trans rfl
          have hpl := hG.plt
          have hml := hG.mlt
          have hbl := cell_lt n0
          have hpm := hG.p_ne.1
          have hmx : Maps.size D < maxLen := by rw [hm2.size]; have := hG.ct; unfold maxLen; omega
          have hbm : wr.heap.size ≠ mb := fun e => by obtain ⟨es, clock, hb, _⟩ := hm1; have := n0; unfold World.cell? at this; rw [e] at this; simp only at this; rw [hb] at this; simp at this
          have hm1 := Lib.hid hm1
          have hByV := Lib.hid hByV
          have h47 : xd.length ≤ 140737488355328 := by omega
          go_region_held3 (fun w' => w'.cell? ⟨p, 0, none⟩ = some (.map (some mb)) ∧ w'.cell? ⟨wr.heap.size, 0, none⟩ = some (.string xn) ∧ w'.cell? ⟨wr.heap.size, 1, none⟩ = some (.slice B xd.length d) ∧ w'.cell? ⟨wr.heap.size, 2, none⟩ = some (.int .i64 xs)) (first | exact ⟨v0, v1, v2, v3⟩ | go_keep) (first | (go_at_call 35; refine (clone_sl (hByV.out.step (Same.drew _ _)) h47).mono ?_; rintro e2 w2 ⟨A1, c1, rfl, r1, r2⟩; have p0 := (r2.cell (p := ⟨p, 0, none⟩) hpl).trans hc0; have p1 := (r2.cell (p := ⟨wr.heap.size, 0, none⟩) hbl).trans n0; have p2 := (r2.cell (p := ⟨wr.heap.size, 1, none⟩) hbl).trans n1; have p3 := (r2.cell (p := ⟨wr.heap.size, 2, none⟩) hbl).trans n2); obtain ⟨w3, hrun, s1, s2⟩ := ((ownsMap_step hm1.out (r2.block mb hml)).alloc (.cells #[.slice A1 xd.length c1, .int .i64 xs] 73)).update strK Tryd.underlying44 hmx (WideMaps.keyOf_string_mk Tryd.underlying9 hsz) (ptrR_some w2.heap.size); change (Instr.mapUpdate 44 (.map (some mb)) (.string xn) (.pointer (some ⟨w2.heap.size, 0, none⟩))).run Tryd.prog _ = _ at hrun; have v0 := s2.cell ((World.cell?_alloc_lt w2 _ ⟨p, 0, none⟩ (cell_lt p0)).trans p0) (by simpa using hpm); have v1 := s2.cell ((World.cell?_alloc_lt w2 _ ⟨wr.heap.size, 0, none⟩ (cell_lt p1)).trans p1) (by simpa using hbm); have v2 := s2.cell ((World.cell?_alloc_lt w2 _ ⟨wr.heap.size, 1, none⟩ (cell_lt p2)).trans p2) (by simpa using hbm); have v3 := s2.cell ((World.cell?_alloc_lt w2 _ ⟨wr.heap.size, 2, none⟩ (cell_lt p3)).trans p3) (by simpa using hbm))
          all_goals (have hM3 := load_put hG hown hMN.out.2 hm2 ⟨r2.os, r2.tape, r2.output, r2.size, r2.block⟩ r1 rfl s1 s2 hok j1' j2' j3' (fun x hx => hct.out g hgm x hx h64' e.out); rw [hgm, hpt.out e.out] at hM3; replace hM3 := Lib.hid hM3; clear hG hown hMN hm2 r1 r2 s1 s2 hrun v0 v1 v2 v3 p0 p1 p2 p3 hgm hm1 hByV; go_wp2_with fail; go_roundw)
          case measure => simp [intOf]; omega
          case rel => exact ⟨k + 1, by omega, by go_num, e, .inr h64', hM3.out⟩
        obtain ⟨y, hpv, z3⟩ := hcp'.out (by omega)
        replace z3 := later_cell z3
        obtain ⟨k', rfl⟩ : ∃ k', k = k' + 1 := ⟨k - 1, by omega⟩
        simp only [Nat.add_sub_cancel] at z3
        have j5 : (0 : Int) < (k' : Int) + 1 := by omega
        have j5n : 0 < k' + 1 := by omega
        have j6 : IntKind.i64.wrap (k' : Int) = k' := IntWalk.i64_in _ (by omega)
        have j7 : (k' : Int) < l.length := by omega
        have j8 : (0 : Int) ≤ (k' : Int) := by omega
        have j9 : (k' : Int) + 1 - 1 = k' := by omega
        have hle := leq_str xn y.name
        by_cases j10 : nlt y.name xn
        · have hle' : (Op.bytesLess xn.toList y.name.toList || xn.toList == y.name.toList) = false := by rw [hle]; simp [j10]
          have e := Lib.hid (hnx.out (by rw [hg.out]; unfold goodB; simp [hok, j1', j2', j3', hpv, j10]))
          clear hpv j10 hle
          refine region_later (by kernel_rfl) (by kernel_rfl) ?_
          repeat (first | go_big_quiet_skip | (go_big_quiet_want; go_big_quiet_op; first | go_big_quiet_on | (apply Exists.intro; refine ⟨fun _ => ?_, ?_⟩; (· (go_at_call 33; exact later_call (may_w xn _ hsz hok))); go_big_quiet_on)))
          refine wpQuiet_nil ?_
          intro _ hw'
          obtain ⟨nq, hw''⟩ := hw'
          subst hw''
          go_wp2_with fail
          have hMN := Lib.hid (hMA.out.below nq.property)
          have n0 := x0 nq
          have n1 := x1 nq
          have n2 := x2 nq
          have hByV := hBy.out.step (Same.of_below nq.property _)
          generalize nq.val = V at *
          obtain ⟨mb, g, hG, hgm, hown⟩ := hMN.out.1
          obtain ⟨D, hm1, hm2⟩ := hG.mp
          have hc0 : V.cell? ⟨p, 0, none⟩ = some (.map (some mb)) := (cell_blk hG.pc 0).trans rfl
          have hpl := hG.plt
          have hml := hG.mlt
          have hbl := cell_lt n0
          have hpm := hG.p_ne.1
          have hmx : Maps.size D < maxLen := by rw [hm2.size]; have := hG.ct; unfold maxLen; omega
          have hbm : wr.heap.size ≠ mb := fun e => by obtain ⟨es, clock, hb, _⟩ := hm1; have := n0; unfold World.cell? at this; rw [e] at this; simp only at this; rw [hb] at this; simp at this
          have hm1 := Lib.hid hm1
          have hByV := Lib.hid hByV
          have h47 : xd.length ≤ 140737488355328 := by omega
          go_region_held3 (fun w' => w'.cell? ⟨p, 0, none⟩ = some (.map (some mb)) ∧ w'.cell? ⟨wr.heap.size, 0, none⟩ = some (.string xn) ∧ w'.cell? ⟨wr.heap.size, 1, none⟩ = some (.slice B xd.length d) ∧ w'.cell? ⟨wr.heap.size, 2, none⟩ = some (.int .i64 xs)) (first | exact ⟨v0, v1, v2, v3⟩ | go_keep) (first | (go_at_call 35; refine (clone_sl (hByV.out.step (Same.drew _ _)) h47).mono ?_; rintro e2 w2 ⟨A1, c1, rfl, r1, r2⟩; have p0 := (r2.cell (p := ⟨p, 0, none⟩) hpl).trans hc0; have p1 := (r2.cell (p := ⟨wr.heap.size, 0, none⟩) hbl).trans n0; have p2 := (r2.cell (p := ⟨wr.heap.size, 1, none⟩) hbl).trans n1; have p3 := (r2.cell (p := ⟨wr.heap.size, 2, none⟩) hbl).trans n2); obtain ⟨w3, hrun, s1, s2⟩ := ((ownsMap_step hm1.out (r2.block mb hml)).alloc (.cells #[.slice A1 xd.length c1, .int .i64 xs] 73)).update strK Tryd.underlying44 hmx (WideMaps.keyOf_string_mk Tryd.underlying9 hsz) (ptrR_some w2.heap.size); change (Instr.mapUpdate 44 (.map (some mb)) (.string xn) (.pointer (some ⟨w2.heap.size, 0, none⟩))).run Tryd.prog _ = _ at hrun; have v0 := s2.cell ((World.cell?_alloc_lt w2 _ ⟨p, 0, none⟩ (cell_lt p0)).trans p0) (by simpa using hpm); have v1 := s2.cell ((World.cell?_alloc_lt w2 _ ⟨wr.heap.size, 0, none⟩ (cell_lt p1)).trans p1) (by simpa using hbm); have v2 := s2.cell ((World.cell?_alloc_lt w2 _ ⟨wr.heap.size, 1, none⟩ (cell_lt p2)).trans p2) (by simpa using hbm); have v3 := s2.cell ((World.cell?_alloc_lt w2 _ ⟨wr.heap.size, 2, none⟩ (cell_lt p3)).trans p3) (by simpa using hbm))
          all_goals (have hM3 := load_put hG hown hMN.out.2 hm2 ⟨r2.os, r2.tape, r2.output, r2.size, r2.block⟩ r1 rfl s1 s2 hok j1' j2' j3' (fun x hx => hct.out g hgm x hx h64' e.out); rw [hgm, hpt.out e.out] at hM3; replace hM3 := Lib.hid hM3; clear hG hown hMN hm2 r1 r2 s1 s2 hrun v0 v1 v2 v3 p0 p1 p2 p3 hgm hm1 hByV; go_wp2_with fail; go_roundw)
          case measure => simp [intOf]; omega
          case rel => exact ⟨k' + 1 + 1, by omega, by go_num, e, .inr h64', hM3.out⟩
        · have hle' : (Op.bytesLess xn.toList y.name.toList || xn.toList == y.name.toList) = true := by rw [hle]; simp [j10]
          have e := Lib.hid (hno.out (by rw [hg.out]; unfold goodB; simp [hok, j1', j2', j3', hpv, j10]))
          clear hpv j10 hle
          refine region_later (by kernel_rfl) (by kernel_rfl) ?_
          repeat (first | go_big_quiet_skip | (go_big_quiet_want; go_big_quiet_op; first | go_big_quiet_on | (apply Exists.intro; refine ⟨fun _ => ?_, ?_⟩; (· (go_at_call 33; exact later_call (may_w xn _ hsz hok))); go_big_quiet_on)))
          refine wpQuiet_nil ?_
          intro _ hw'
          obtain ⟨nq, hw''⟩ := hw'
          subst hw''
          go_wp2_with fail
          go_ret2
          exact .inl ⟨e.out, rfl, hMA.out.2.trans (nq.property.mono hMA.out.2.size)⟩
    · obtain rfl : k = l.length := by omega
      clear hlt
      have e := Lib.hid (mayOk_yes (l := l) (by omega) hall.out)
      rw [List.take_length] at hM
      replace hM := Lib.hid hM
      go_wp2_with fail
      go_ret2
      exact .inr ⟨e.out, p, rfl, hM.out⟩
end Go.Proofs.YthnodmbenbiahaaDoor
