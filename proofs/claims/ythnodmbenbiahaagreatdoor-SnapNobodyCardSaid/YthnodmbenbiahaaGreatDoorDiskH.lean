import Derived.Test.YthnodmbenbiahaaGreatDoorFiles
import Derived.Deep.DrawnRows
import Derived.Test.YthnodmbenbiahaaGreatDoorDiskD
import Derived.IntWalk
namespace Go.Proofs.YthnodmbenbiahaaGreatDoor
/- The disk's call Files. -/
section
open Go.RowKit Go.Maps
attribute [local go_sem ↓] Go.wp_at_zero Go.wp_at_succ

/-- A look-up without ok, at a name that is there. -/
theorem look_there {w : World} {p mb : Nat} {g : List Ent} (h : DiskG w p mb g) {x : Ent} (hx : x ∈ g) : (Instr.lookup 74 (.map (some mb)) (.string x.name) false).run Tryz.prog w = .ok (.pointer (some ⟨x.fb, 0, none⟩)) w := by
  obtain ⟨D, hown, hD⟩ := h.mp
  have hs : x.name.size ≤ maxLen := by have := (okName_size (h.nm x hx)).2; unfold maxLen; omega
  obtain ⟨v, ps, hrun, hv⟩ := hown.lookup strK Tryz.underlying74 (zeroP w) ptrR_none (WideMaps.keyOf_string_mk Tryz.underlying9 hs)
  change ptrR v = some (D.atKey (lit x.name) _, ps) at hv
  rw [hD.at_ h.so, lfind_of_mem h.so hx] at hv
  obtain rfl := ptrR_inv hv
  exact hrun
theorem take_succ_map {α β : Type} (f : α → β) (l : List α) (k : Nat) (hk : k < l.length) : (l.map f).take (k + 1) = (l.map f).take k ++ [f l[k]] := by
  rw [List.take_succ_eq_append_getElem (by simpa using hk), List.getElem_map]

set_option maxRecDepth 100000 in
set_option maxHeartbeats 2000000 in
theorem files_any {w : World} {p mb : Nat} {g : List Ent} (h : DiskG w p mb g) :
    Calls Tryz.prog 21 #[.pointer (some ⟨p, 0, none⟩)] w fun e w' => ∃ v us, e = .returned v ∧ FilesOwn w' w.heap.size v (g.map Ent.file) us ∧ Below w.heap.size w w' := by
  have hnm := names_any h
  have hpl := h.plt
  have hc0 : w.cell? ⟨p, 0, none⟩ = some (.map (some mb)) := (cell_blk h.pc 0).trans rfl
  have hct := h.ct
  have h := Lib.hid h
  go_enter Tryz.func21, Tryz.ntmps21
  go_wp2_with (go_at_call 62; refine hnm.mono ?_; rintro e w1 ⟨nv, rfl, hrow, hB1⟩; obtain ⟨NA, nc, rfl, _, _, hcells⟩ := own_form hrow; have hcells := Lib.hid hcells)
  go_loopw [3, 10] (fun v i wr => ∃ (k : Nat) (us : List Value), k ≤ g.length ∧ i = .int .i64 k ∧ FilesOwn wr w.heap.size v ((g.map Ent.file).take k) us ∧ Below w.heap.size w wr ∧ Same w1 wr (fun k => (Value.slice NA g.length nc).ownBlock = some k) ∧ w1.heap.size ≤ wr.heap.size) (fun _ i _ => g.length - (intOf i).toNat)
  case atStart => exact ⟨0, [], Nat.zero_le _, rfl, ⟨rfl, World.ownsRow_nil _ _ _ _, fun i x u h => by simp at h⟩, hB1, Same.refl _ _, Nat.le_refl _⟩
  case round =>
    obtain ⟨k, us, hk, rfl, hF, hB, hS, hsz⟩ := hrel
    by_cases hlt : k < g.length
    · have hG : DiskG wr p mb g := h.out.step (Same.of_below hB (fun _ => True)) (fun _ _ => trivial)
      have hxm : g[k] ∈ g := List.getElem_mem hlt
      have hlk := look_there hG hxm
      have hf := hG.fl _ hxm
      have hsx := hG.sz _ hxm
      have hrd : Bytes wr (fun b => (g[k]).v.ownBlock = some b) (g[k]).v (g[k]).data := Reads.of_own hf.row
      have htk := take_succ_map Ent.file g k hlt
      generalize hx : g[k] = x at *
      obtain ⟨A, c, hv, hlc⟩ := hrd.form
      obtain ⟨nb, no, rfl, hok, hcn⟩ := (hcells.out.step hS) (by intro e; rw [List.map_eq_nil_iff] at e; rw [e] at hlt; simp at hlt)
      have e1 : wr.cell? ⟨nb, no + k, none⟩ = some (.string x.name) := hcn k _ (by rw [List.getElem?_map, List.getElem?_eq_getElem hlt, hx]; rfl)
      have e2 : wr.cell? ⟨p, 0, none⟩ = some (.map (some mb)) := (hB.cell (p := ⟨p, 0, none⟩) hpl).trans hc0
      have e3 : wr.cell? ⟨x.fb, 0, none⟩ = some (.slice A x.data.length c) := by rw [cell_blk hf.blk 0, hv]; rfl
      have e4 : wr.cell? ⟨x.fb, 1, none⟩ = some (.int .i64 x.safe) := by rw [cell_blk hf.blk 1]; rfl
      rw [hv] at hrd
      have hfl := hf.lt
      have h47 : x.data.length ≤ 140737488355328 := by omega
      have hLk : ((g.map Ent.file).take k).length = k := by simp; omega
      generalize hL : (g.map Ent.file).take k = L at *
      have hL := Lib.hid hL
      obtain ⟨VA, vc, rfl, _, _⟩ := own_form hF.2.1
      have hrow3 := hF.2.1
      rw [hLk] at hrow3 ⊢
      have hr3 := Lib.hid hrow3
      have htk1 := Lib.hid htk
      have hLk1 := Lib.hid hLk
      have hrd := Lib.hid hrd
      have hF0 := Lib.hid hF
      have hdis := Lib.hid (show ∀ b, (Value.slice (some ⟨nb, no, none⟩) g.length nc).ownBlock = some b → (Value.slice VA k vc).ownBlock ≠ some b from fun b h1 h2 => by
        obtain ⟨c1, t1⟩ := own_typed (own_step hrow hS (fun _ h => h)) b h1
        obtain ⟨c2, t2⟩ := own_typed hr3.out b h2
        rw [t1] at t2
        simp at t2)
      have hwr := hB.size
      have hfb0 := (h.out.fl x hxm).lt
      have hnr := Lib.hid (show some x.fb ≠ (Value.slice VA k vc).ownBlock from fun e => by have := own_base hr3.out _ e.symm; omega)
      clear hcn hx hxm hf hG hv hsx hF hrow3 htk hLk
      go_wp2_with fail
      go_region_held3 (fun w' => w'.cell? ⟨x.fb, 0, none⟩ = some (.slice A x.data.length c) ∧ w'.cell? ⟨x.fb, 1, none⟩ = some (.int .i64 x.safe)) (go_keep) (first | (go_at_call 60; refine (clone_sl (hrd.out.step (Same.drew _ _)) h47).mono ?_; rintro e w2 ⟨A1, c1, rfl, r1, r2⟩; have q3 := (r2.cell (p := ⟨x.fb, 0, none⟩) hfl).trans e3; have q4 := (r2.cell (p := ⟨x.fb, 1, none⟩) hfl).trans e4; have q5 : wr.heap.size ≤ w2.heap.size := r2.size) | (refine step_append rfl _ _ 26 (by rfl) Tryz.underlying26 info_File rfl (by decide) (v := .slice VA k vc) (n := k) (by rfl) ((own_step hr3.out (Same.of_below r2 (fun _ => True)) (fun _ _ => trivial)).alloc _) (m := 1) (by rfl) (by rfl) (news := fileCells x.file (.slice A1 x.data.length c1)) (Cells.of_blk (heap_alloc_new _ _)) (fileCells_one x.file (.slice A1 x.data.length c1) rfl) (by omega) (by omega) (by simp; omega) ?_; intro v3 w3 s1 s2 s3; have q6 := s2.cell ((World.cell?_alloc_lt w2 _ ⟨x.fb, 0, none⟩ (by exact Nat.lt_of_lt_of_le hfl q5)).trans q3) hnr.out; have q7 := s2.cell ((World.cell?_alloc_lt w2 _ ⟨x.fb, 1, none⟩ (by exact Nat.lt_of_lt_of_le hfl q5)).trans q4) hnr.out))
      go_wp2
      go_roundw
      case measure => simp [intOf]; omega
      case rel =>
        have t1 : Same wr w3 (fun b => (Value.slice VA k vc).ownBlock ≠ some b) := ((Same.of_below r2 _).trans (Same.alloc _ _ _)).trans (Same.of_grown s2 (fun b hb e => hb e.symm))
        have t2 : w3.ownsRow w.heap.size 5 1 (.slice A1 x.data.length c1) x.data.length (x.data.map byteV) := by
          refine own_step (own_lower r1 (by exact hwr)) ((Same.alloc w2 _ (fun b => (Value.slice A1 x.data.length c1).ownBlock = some b)).trans (Same.of_grown s2 (fun b hb e => ?_))) (fun b hb => hb)
          have g1 := own_base r1 b hb
          have g2 := own_lt hr3.out b e.symm
          have g3 : wr.heap.size ≤ b := g1
          omega
        have t3 : w2.heap.size + 1 ≤ w3.heap.size := by have := s2.size; simpa using this
        refine ⟨k + 1, us ++ [.slice A1 x.data.length c1], by omega, by go_num, ?_, ?_, hS.trans (t1.mono (fun b hb => hdis.out b hb)), by omega⟩
        · rw [htk1.out]
          have hF1 := hF0.out
          exact FilesOwn.snoc (x := x.file) hF1 (by rw [hLk1.out]; exact t1) (by rw [hLk1.out]; exact s1) t2
        · exact ((hB.trans ((Below.mono (B := wr.heap.size) ⟨r2.os, r2.tape, r2.output, r2.size, r2.block⟩ hwr))).alloc (by omega) _).grown s2 (by simp; omega) (fun b hb => own_base hr3.out b hb)
    · obtain rfl : k = g.length := by omega
      clear hlt
      go_wp2_with fail
      go_ret
      refine ⟨u3, us, rfl, ?_, hB⟩
      rw [List.take_of_length_le (by simp)] at hF
      exact hF
end
/- The disk's call Crash. -/
section
open Go.RowKit Go.Maps
attribute [local go_sem ↓] Go.wp_at_zero Go.wp_at_succ

theorem own_no_names {w : World} {p mb : Nat} {g : List Ent} (h : DiskG w p mb g) {base n : Nat} {v : Value} {xs : List Value} (hr : w.ownsRow base 9 1 v n xs) : ∀ k, v.ownBlock = some k → ¬ Own p mb g k := by
  intro k hk
  obtain ⟨c, hc⟩ := own_typed hr k hk
  rintro (rfl | rfl | ⟨x, hx, rfl | h2⟩)
  · rw [h.pc] at hc; simp at hc
  · obtain ⟨D, ⟨es, clock, hb, _⟩, _⟩ := h.mp
    rw [hb] at hc; simp at hc
  · rw [(h.fl x hx).blk] at hc; simp at hc
  · obtain ⟨c2, hc2⟩ := own_typed (h.fl x hx).row k h2
    rw [hc2] at hc; simp at hc

/-- What one round of a crash leaves, out of what the walk comes to. -/
theorem crash_round {w wr w2 : World} {p mb : Nat} {g : List Ent} {ok : Nat → Prop} (hG : DiskG wr p mb g) (hk : ∀ k, Own p mb g k → ok k) {x : Ent} (hxm : x ∈ g) {n : Nat} {d : List UInt8} {A1 : Option Addr} {c1 : Nat} (hn : d.length = n) (hd : n ≤ 65536)
    (hB : Below wr.heap.size wr w2) (hrow : w2.ownsRow wr.heap.size 5 1 (.slice A1 n c1) n (d.map byteV)) {x' : Ent} (hx1 : x'.name = x.name) (hx2 : x'.fb = x.fb) (hx3 : x'.data = d) (hx4 : x'.safe = n) (hx5 : x'.v = .slice A1 n c1)
    (he : w = (w2.setCell ⟨x.fb, 0, none⟩ (.slice A1 n c1)).setCell ⟨x.fb, 1, none⟩ (.int .i64 n)) :
    DiskG w p mb (lput Ent.name g x') ∧ (∀ k, Own p mb (lput Ent.name g x') k → ok k ∨ wr.heap.size ≤ k) ∧ Kept wr w (fun k => k = x.fb) := by
  have hf := hG.fl x hxm
  have hfl := hf.lt
  have hb := (Same.of_below hB (fun _ => True)).blk trivial hf.blk
  have hb2 := set_blk (set_blk hb 0 (.slice A1 n c1)) 1 (.int .i64 n)
  have hne : ∀ b, (Value.slice A1 n c1).ownBlock = some b → b ≠ x.fb := fun b hb' e => by have := own_base hrow b hb'; omega
  have hr := own_step (own_step (own_lower hrow (Nat.zero_le _)) (Same.setCell w2 ⟨x.fb, 0, none⟩ (.slice A1 n c1) (ok := fun b => b ≠ x.fb) (fun _ h => h)) hne) (Same.setCell _ ⟨x.fb, 1, none⟩ (.int .i64 n) (ok := fun b => b ≠ x.fb) (fun _ h => h)) hne
  have hkept : Kept wr w (fun k => k = x.fb) := by rw [he]; exact ((Kept.of_below hB (fun k => k = x.fb)).setCell (a := ⟨x.fb, 0, none⟩) (.inl rfl) _).setCell (a := ⟨x.fb, 1, none⟩) (.inl rfl) _
  rw [← he] at hb2 hr
  clear he
  have hfile : FileAt w x' := ⟨by rw [hx2, hx5, hx4]; simpa using hb2, by rw [hx5, hx3, hn]; exact hr⟩
  refine ⟨hG.turn hxm x' hx1 hx2 (hkept.part (fun k hk h => hk.1 h)) hfile (fun b hb' => .inr (own_base hrow b (by rw [← hx5]; exact hb'))) ⟨by rw [hx3, hn]; exact hd, by rw [hx4]; omega, by rw [hx4, hx3, hn]; omega⟩, ?_, hkept⟩
  rintro k (rfl | rfl | ⟨y, hy, hk'⟩)
  · exact .inl (hk _ (.inl rfl))
  · exact .inl (hk _ (.inr (.inl rfl)))
  · rcases mem_lput.1 hy with rfl | ⟨hy, _⟩
    · rcases hk' with rfl | hk'
      · rw [hx2]; exact .inl (hk _ (.inr (.inr ⟨x, hxm, .inl rfl⟩)))
      · exact .inr (own_base hrow k (by rw [← hx5]; exact hk'))
    · exact .inl (hk _ (.inr (.inr ⟨y, hy, hk'⟩)))

set_option maxRecDepth 100000 in
set_option maxHeartbeats 4000000 in
theorem crash_any {w : World} {p : Nat} {ok okc : Nat → Prop} {m : List FileD} (h : DiskAt w p ok m) {cv : Value} {cuts : List Int} (hc : Ints w okc cv cuts) (hdis : ∀ k, okc k → ¬ ok k) (hwf : ∀ c ∈ cuts, -9223372036854775808 ≤ c ∧ c ≤ 9223372036854775807) :
    Calls Tryz.prog 16 #[.pointer (some ⟨p, 0, none⟩), cv] w fun e w' => e = .returned (.tuple #[]) ∧ After w w' p ok (pCrash m cuts) := by
  have h0 := h
  obtain ⟨mb, g, hg, rfl, hk⟩ := h
  have hnm := names_any hg
  have hct := hg.ct
  obtain ⟨CA, cc, rfl, hcc⟩ := hc.form
  have hcm := hc.max
  have hfin := crashTo_all (g.map Ent.file) cuts
  have hzero := crashTo_zero (g.map Ent.file) cuts
  have hlm := Lib.hid (show (g.map Ent.file).length = g.length by simp)
  have hfin := Lib.hid hfin
  have hzero := Lib.hid hzero
  have hc := Lib.hid hc
  have hdis := Lib.hid hdis
  have hwf := Lib.hid hwf
  have hk := Lib.hid hk
  have hg := Lib.hid hg
  go_enter Tryz.func16, Tryz.ntmps16
  go_wp2_with (go_at_call 62; refine hnm.mono ?_; rintro e w1 ⟨nv, rfl, hrow, hB1⟩; obtain ⟨NA, nc, rfl, _, _, hcells⟩ := own_form hrow; have hcells := Lib.hid hcells)
  go_loopw [11] (fun i wr => ∃ (k : Nat) (g' : List Ent), k ≤ g.length ∧ i = .int .i64 k ∧ DiskG wr p mb g' ∧ g'.map Ent.file = crashTo k (g.map Ent.file) cuts ∧ (∀ b, Own p mb g' b → ok b ∨ w.heap.size ≤ b) ∧ Kept w wr ok ∧ Same w1 wr (fun b => (Value.slice NA g.length nc).ownBlock = some b) ∧ w1.heap.size ≤ wr.heap.size) (fun i _ => g.length - (intOf i).toNat)
  case atStart => exact ⟨0, g, Nat.zero_le _, rfl, hg.out.step (Same.of_below hB1 (fun _ => True)) (fun _ _ => trivial), hzero.out.symm, fun b hb => .inl (hk.out b hb), Kept.of_below hB1 _, Same.refl _ _, Nat.le_refl _⟩
  case round =>
    obtain ⟨k, g', hkl, rfl, hG, hgm, hown, hKept, hS, hsz⟩ := hrel
    have hgm := Lib.hid hgm
    by_cases hlt : k < g.length
    · have hgl : g'.length = g.length := by have := congrArg List.length hgm.out; simpa [crashTo_length] using this
      have hlt' : k < g'.length := by omega
      have hxm : g'[k] ∈ g' := List.getElem_mem hlt'
      have hxe : g'[k].file = g[k].file := by
        have h1 := crashTo_get k (g.map Ent.file) cuts (by simpa using hlt)
        rw [← hgm.out, List.getElem?_map, List.getElem?_eq_getElem hlt'] at h1
        simpa using h1
      have hxn : g'[k].name = g[k].name := congrArg FileD.name hxe
      have hset : ∀ x' : Ent, x'.name = g'[k].name → x'.file = crashed g[k].file cuts[k]? → (lput Ent.name g' x').map Ent.file = crashTo (k + 1) (g.map Ent.file) cuts := by
        intro x' h1 h2
        rw [lput_set hG.so hlt' h1, crashTo_succ k _ cuts (by simpa using hlt), ← hgm.out, List.map_set, h2, List.getElem_map]
      have hlk := look_there hG hxm
      have hf := hG.fl _ hxm
      have hsx := hG.sz _ hxm
      have hrd : Bytes wr (fun b => (g'[k]).v.ownBlock = some b) (g'[k]).v (g'[k]).data := Reads.of_own hf.row
      generalize hx : g'[k] = x at *
      generalize hy : g[k] = y at *
      obtain ⟨A, c, hv, hlc⟩ := hrd.form
      obtain ⟨nb, no, rfl, hok, hcn⟩ := (hcells.out.step hS) (by intro e; rw [List.map_eq_nil_iff] at e; rw [e] at hlt; simp at hlt)
      have e1 : wr.cell? ⟨nb, no + k, none⟩ = some (.string x.name) := hcn k _ (by rw [List.getElem?_map, List.getElem?_eq_getElem hlt, hy, hxn]; rfl)
      have hpw : wr.cell? ⟨p, 0, none⟩ = some (.map (some mb)) := (cell_blk hG.pc 0).trans rfl
      have e3 : wr.cell? ⟨x.fb, 0, none⟩ = some (.slice A x.data.length c) := by rw [cell_blk hf.blk 0, hv]; rfl
      have e4 : wr.cell? ⟨x.fb, 1, none⟩ = some (.int .i64 x.safe) := by rw [cell_blk hf.blk 1]; rfl
      have f3 : wr.frozen? ⟨x.fb, 0, none⟩ = false := frozen_blk hf.blk 0
      have f4 : wr.frozen? ⟨x.fb, 1, none⟩ = false := frozen_blk hf.blk 1
      rw [hv] at hrd
      have hfl := hf.lt
      have hrd := Lib.hid hrd
      obtain ⟨hs1, hs2, hs3⟩ := hsx
      have hst := stays_le (f := y.file) (by rw [← hxe]; exact hs2) (by rw [← hxe]; exact hs3) cuts[k]?
      have hsd : y.file.data = x.data := by rw [← hxe]; rfl
      have hss : y.file.safe = x.safe := by rw [← hxe]; rfl
      have hsn : y.file.name = x.name := by rw [← hxe]; rfl
      rw [hsd, hss] at hst
      have hnn := own_no_names hG (own_step hrow hS (fun _ h => h))
      have hH0 : ∀ (n : Nat), stays y.file cuts[k]? = n → ∀ (w2 : World) (A1 : Option Addr) (c1 : Nat), Below wr.heap.size wr w2 → w2.ownsRow wr.heap.size 5 1 (.slice A1 n c1) n ((x.data.take n).map byteV) →
            ∃ g2, DiskG ((w2.setCell ⟨x.fb, 0, none⟩ (.slice A1 n c1)).setCell ⟨x.fb, 1, none⟩ (.int .i64 n)) p mb g2 ∧ g2.map Ent.file = crashTo (k + 1) (g.map Ent.file) cuts ∧ (∀ b, Own p mb g2 b → ok b ∨ w.heap.size ≤ b) ∧ Kept w ((w2.setCell ⟨x.fb, 0, none⟩ (.slice A1 n c1)).setCell ⟨x.fb, 1, none⟩ (.int .i64 n)) ok ∧
              Same w1 ((w2.setCell ⟨x.fb, 0, none⟩ (.slice A1 n c1)).setCell ⟨x.fb, 1, none⟩ (.int .i64 n)) (fun b => (Value.slice (some ⟨nb, no, none⟩) g.length nc).ownBlock = some b) ∧ w1.heap.size ≤ ((w2.setCell ⟨x.fb, 0, none⟩ (.slice A1 n c1)).setCell ⟨x.fb, 1, none⟩ (.int .i64 n)).heap.size := by
        intro n hn w2 A1 c1 r2 r1
        rw [hn] at hst
        obtain ⟨W3, hW3⟩ : ∃ W3, W3 = (w2.setCell ⟨x.fb, 0, none⟩ (.slice A1 n c1)).setCell ⟨x.fb, 1, none⟩ (.int .i64 n) := ⟨_, rfl⟩
        rw [← hW3]
        have hx' : ∃ x' : Ent, x'.name = x.name ∧ x'.fb = x.fb ∧ x'.data = x.data.take n ∧ x'.safe = n ∧ x'.v = .slice A1 n c1 := ⟨⟨x.name, x.data.take n, n, x.fb, .slice A1 n c1⟩, rfl, rfl, rfl, rfl, rfl⟩
        obtain ⟨x', a1, a2, a3, a4, a5⟩ := hx'
        obtain ⟨q1, q2, q3⟩ := crash_round (ok := fun b => ok b ∨ w.heap.size ≤ b) hG hown hxm (by simp; omega) (by omega) r2 r1 a1 a2 a3 a4 a5 hW3
        refine ⟨_, q1, hset x' a1 ?_, fun b hb => ?_, hKept.trans q3 (fun b e => ?_), hS.trans (q3.part (fun b hb e => ?_)), Nat.le_trans hsz q3.size⟩
        · show (⟨x'.name, x'.data, x'.safe⟩ : FileD) = ⟨y.file.name, y.file.data.take (stays y.file cuts[k]?), stays y.file cuts[k]?⟩
          rw [a1, a3, a4, hn, hsn, hsd]
        · rcases q2 b hb with h | h
          · exact h
          · exact .inr (Nat.le_trans hKept.size h)
        · subst e
          exact hown _ (.inr (.inr ⟨x, hxm, .inl rfl⟩))
        · subst e
          exact hnn _ hb (.inr (.inr ⟨x, hxm, .inl rfl⟩))
      have hH := Lib.hid hH0
      by_cases hcu : k < cuts.length
      · obtain ⟨n, hn⟩ : ∃ n : Nat, x.safe = n := ⟨x.safe.toNat, by omega⟩
        have hsome : cuts[k]? = some cuts[k] := List.getElem?_eq_getElem hcu
        have hcw := hwf.out cuts[k] (List.getElem_mem hcu)
        obtain ⟨cb, co, rfl, hcok, hcc1⟩ := (hc.out.step (hKept.part (fun b hb => hdis.out b hb))).get k hcu
        generalize hcv : cuts[k] = cv at *
        have hcc2 : wr.cell? ⟨cb, co + k, none⟩ = some (.int .i64 cv) := hcc1
        clear hcc1
        have hsm : ∃ m : Nat, max 0 (min cv ((x.data.length : Int) - n)) = m ∧ stays y.file cuts[k]? = n + m := ⟨min cv.toNat (x.data.length - n), by omega, by rw [hsome]; unfold stays; simp only; rw [hsd, hss, hn]; simp⟩
        obtain ⟨m, hmx, hstn⟩ := hsm
        rw [hn] at e4 hs3
        rw [hstn] at hst
        have hnl : n + m ≤ x.data.length := hst.1
        have htake := Lib.hid (hrd.out.take (n + m) hnl)
        have hstn := Lib.hid hstn
        clear hcn hx hy hxm hf hG hv hst hsd hss hsn hxe hxn hgl hset hn hs2 hs3 hH0 hsome hcv hcok
        have i1 : (0 : Int) ≤ n + m := by omega
        have i2 : (n : Int) + m ≤ c := by omega
        have i3 : n + m ≤ c := by omega
        have i4 : IntKind.i64.wrap ((n : Int) + m) = n + m := IntWalk.i64_in _ (by omega)
        have i5 : IntKind.i64.wrap ((x.data.length : Int) - n) = x.data.length - n := IntWalk.i64_in _ (by omega)
        have i6 : (0 : Int) ≤ k := by omega
        have i7 : (k : Int) < cuts.length := by omega
        go_wp2_with fail
        go_quiet (fail)
        go_wp2_with fail
        go_region_with (first | (go_at_call 60; refine (clone_sl (htake.out.step ((Same.drewN _ _ _).trans (Same.drew _ _))) (by omega)).mono ?_; rintro e w2 ⟨A1, c1, rfl, r1, r2⟩; have q0 := (r2.cell (p := ⟨x.fb, 0, none⟩) hfl).trans e3; have q1 := (r2.cell (p := ⟨x.fb, 1, none⟩) hfl).trans e4; have q2 := (r2.frozen (p := ⟨x.fb, 0, none⟩) hfl).trans f3; have q3 := (r2.frozen (p := ⟨x.fb, 1, none⟩) hfl).trans f4))
        all_goals go_wp2
        all_goals go_roundw
        all_goals first | (case measure => simp [intOf]; omega) | skip
        all_goals
          obtain ⟨g2, b1, b2, b3, b4, b5, b6⟩ := hH.out (n + m) hstn.out w2 A1 c1 ⟨r2.os, r2.tape, r2.output, r2.size, r2.block⟩ r1
          exact ⟨k + 1, g2, by omega, by go_num, b1, b2, b3, b4, b5, b6⟩
      · have hnone : cuts[k]? = none := List.getElem?_eq_none (by omega)
        obtain ⟨n, hn⟩ : ∃ n : Nat, x.safe = n := ⟨x.safe.toNat, by omega⟩
        have hstn : stays y.file cuts[k]? = n := by rw [hnone]; unfold stays; simp only; rw [hss, hn]; simp
        rw [hn] at e4 hs3
        have hnl : n ≤ x.data.length := by omega
        have htake := Lib.hid (hrd.out.take n hnl)
        have hstn := Lib.hid hstn
        clear hcn hx hy hxm hf hG hv hst hsd hss hsn hnone hxe hxn hgl hset hn hs2 hs3 hH0
        have i1 : (0 : Int) ≤ n := by omega
        have i2 : (n : Int) ≤ c := by omega
        have i3 : n ≤ c := by omega
        have i4 : IntKind.i64.wrap (n : Int) = n := IntWalk.i64_in _ (by omega)
        go_wp2_with fail
        go_region_with (first | (go_at_call 60; refine (clone_sl (htake.out.step (Same.drew _ _)) (by omega)).mono ?_; rintro e w2 ⟨A1, c1, rfl, r1, r2⟩; have q0 := (r2.cell (p := ⟨x.fb, 0, none⟩) hfl).trans e3; have q1 := (r2.cell (p := ⟨x.fb, 1, none⟩) hfl).trans e4; have q2 := (r2.frozen (p := ⟨x.fb, 0, none⟩) hfl).trans f3; have q3 := (r2.frozen (p := ⟨x.fb, 1, none⟩) hfl).trans f4))
        all_goals go_wp2
        all_goals go_roundw
        all_goals first | (case measure => simp [intOf]; omega) | skip
        all_goals
          obtain ⟨g2, b1, b2, b3, b4, b5, b6⟩ := hH.out n hstn.out w2 A1 c1 ⟨r2.os, r2.tape, r2.output, r2.size, r2.block⟩ r1
          exact ⟨k + 1, g2, by omega, by go_num, b1, b2, b3, b4, b5, b6⟩
    · obtain rfl : k = g.length := by omega
      clear hlt
      go_wp2_with fail
      go_end0
      refine ⟨rfl, ⟨mb, g', hG, ?_, hown⟩, hKept⟩
      rw [hgm.out, ← hlm.out]
      exact hfin.out
end
end Go.Proofs.YthnodmbenbiahaaGreatDoor
