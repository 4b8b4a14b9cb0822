/- The disk's call Files. -/
import Derived.Test.YthnodmbenbiahaaDoorFiles
import Derived.Deep.DrawnRows
namespace Go.Proofs.YthnodmbenbiahaaDoor
open Go.RowKit Go.Maps
attribute [local go_sem ↓] Go.wp_at_zero Go.wp_at_succ

/-- A look-up without ok, at a name that is there. -/
theorem look_there {w : World} {p mb : Nat} {g : List Ent} (h : DiskG w p mb g) {x : Ent} (hx : x ∈ g) : (Instr.lookup 44 (.map (some mb)) (.string x.name) false).run Tryd.prog w = .ok (.pointer (some ⟨x.fb, 0, none⟩)) w := by
  obtain ⟨D, hown, hD⟩ := h.mp
  have hs : x.name.size ≤ maxLen := by have := (okName_size (h.nm x hx)).2; unfold maxLen; omega
  obtain ⟨v, ps, hrun, hv⟩ := hown.lookup strK Tryd.underlying44 (zeroP w) ptrR_none (WideMaps.keyOf_string_mk Tryd.underlying9 hs)
  change ptrR v = some (D.atKey (lit x.name) _, ps) at hv
  rw [hD.at_ h.so, lfind_of_mem h.so hx] at hv
  obtain rfl := ptrR_inv hv
  exact hrun
theorem take_succ_map {α β : Type} (f : α → β) (l : List α) (k : Nat) (hk : k < l.length) : (l.map f).take (k + 1) = (l.map f).take k ++ [f l[k]] := by
  rw [List.take_succ_eq_append_getElem (by simpa using hk), List.getElem_map]

set_option maxRecDepth 100000 in
set_option maxHeartbeats 2000000 in
theorem files_any {w : World} {p mb : Nat} {g : List Ent} (h : DiskG w p mb g) :
    Calls Tryd.prog 13 #[.pointer (some ⟨p, 0, none⟩)] w fun e w' => ∃ v us, e = .returned v ∧ FilesOwn w' w.heap.size v (g.map Ent.file) us ∧ Below w.heap.size w w' := by
  have hnm := names_any h
  have hpl := h.plt
  have hc0 : w.cell? ⟨p, 0, none⟩ = some (.map (some mb)) := (cell_blk h.pc 0).trans rfl
  have hct := h.ct
  have h := Lib.hid h
  go_enter Tryd.func13, Tryd.ntmps13
  go_wp2_with (go_at_call 36; refine hnm.mono ?_; rintro e w1 ⟨nv, rfl, hrow, hB1⟩; obtain ⟨NA, nc, rfl, _, _, hcells⟩ := own_form hrow; have hcells := Lib.hid hcells)
  go_loopw [3, 10] (fun v i wr => ∃ (k : Nat) (us : List Value), k ≤ g.length ∧ i = .int .i64 k ∧ FilesOwn wr w.heap.size v ((g.map Ent.file).take k) us ∧ Below w.heap.size w wr ∧ Same w1 wr (fun k => (Value.slice NA g.length nc).ownBlock = some k) ∧ w1.heap.size ≤ wr.heap.size) (fun _ i _ => g.length - (intOf i).toNat)
  case atStart => exact ⟨0, [], Nat.zero_le _, rfl, ⟨rfl, World.ownsRow_nil _ _ _ _, fun i x u h => by simp at h⟩, hB1, Same.refl _ _, Nat.le_refl _⟩
  case round =>
    obtain ⟨k, us, hk, rfl, hF, hB, hS, hsz⟩ := hrel
    by_cases hlt : k < g.length
    · have hG : DiskG wr p mb g := h.out.step (Same.of_below hB (fun _ => True)) (fun _ _ => trivial)
      have hxm : g[k] ∈ g := List.getElem_mem hlt
      have hlk := look_there hG hxm
      have hf := hG.fl _ hxm
      have hsx := hG.sz _ hxm
      have hrd : Bytes wr (fun b => (g[k]).v.ownBlock = some b) (g[k]).v (g[k]).data := Reads.of_own hf.row
      have htk := take_succ_map Ent.file g k hlt
      generalize hx : g[k] = x at *
      obtain ⟨A, c, hv, hlc⟩ := hrd.form
      obtain ⟨nb, no, rfl, hok, hcn⟩ := (hcells.out.step hS) (by intro e; rw [List.map_eq_nil_iff] at e; rw [e] at hlt; simp at hlt)
      have e1 : wr.cell? ⟨nb, no + k, none⟩ = some (.string x.name) := hcn k _ (by rw [List.getElem?_map, List.getElem?_eq_getElem hlt, hx]; rfl)
      have e2 : wr.cell? ⟨p, 0, none⟩ = some (.map (some mb)) := (hB.cell (p := ⟨p, 0, none⟩) hpl).trans hc0
      have e3 : wr.cell? ⟨x.fb, 0, none⟩ = some (.slice A x.data.length c) := by rw [cell_blk hf.blk 0, hv]; rfl
      have e4 : wr.cell? ⟨x.fb, 1, none⟩ = some (.int .i64 x.safe) := by rw [cell_blk hf.blk 1]; rfl
      rw [hv] at hrd
      have hfl := hf.lt
      have h47 : x.data.length ≤ 140737488355328 := by omega
      have hLk : ((g.map Ent.file).take k).length = k := by simp; omega
      generalize hL : (g.map Ent.file).take k = L at *
      have hL := Lib.hid hL
      obtain ⟨VA, vc, rfl, _, _⟩ := own_form hF.2.1
      have hrow3 := hF.2.1
      rw [hLk] at hrow3 ⊢
      have hr3 := Lib.hid hrow3
      have htk1 := Lib.hid htk
      have hLk1 := Lib.hid hLk
      have hrd := Lib.hid hrd
      have hF0 := Lib.hid hF
      have hdis := Lib.hid (show ∀ b, (Value.slice (some ⟨nb, no, none⟩) g.length nc).ownBlock = some b → (Value.slice VA k vc).ownBlock ≠ some b from fun b h1 h2 => by
        obtain ⟨c1, t1⟩ := own_typed (own_step hrow hS (fun _ h => h)) b h1
        obtain ⟨c2, t2⟩ := own_typed hr3.out b h2
        rw [t1] at t2
        simp at t2)
      have hwr := hB.size
      have hfb0 := (h.out.fl x hxm).lt
      have hnr := Lib.hid (show some x.fb ≠ (Value.slice VA k vc).ownBlock from fun e => by have := own_base hr3.out _ e.symm; omega)
      clear hcn hx hxm hf hG hv hsx hF hrow3 htk hLk
      go_wp2_with fail
      go_region_held3 (fun w' => w'.cell? ⟨x.fb, 0, none⟩ = some (.slice A x.data.length c) ∧ w'.cell? ⟨x.fb, 1, none⟩ = some (.int .i64 x.safe)) (go_keep) (first | (go_at_call 35; refine (clone_sl (hrd.out.step (Same.drew _ _)) h47).mono ?_; rintro e w2 ⟨A1, c1, rfl, r1, r2⟩; have q3 := (r2.cell (p := ⟨x.fb, 0, none⟩) hfl).trans e3; have q4 := (r2.cell (p := ⟨x.fb, 1, none⟩) hfl).trans e4; have q5 : wr.heap.size ≤ w2.heap.size := r2.size) | (refine step_append rfl _ _ 30 (by rfl) Tryd.underlying30 info_File rfl (by decide) (v := .slice VA k vc) (n := k) (by rfl) ((own_step hr3.out (Same.of_below r2 (fun _ => True)) (fun _ _ => trivial)).alloc _) (m := 1) (by rfl) (by rfl) (news := fileCells x.file (.slice A1 x.data.length c1)) (Cells.of_blk (heap_alloc_new _ _)) (fileCells_one x.file (.slice A1 x.data.length c1) rfl) (by omega) (by omega) (by simp; omega) ?_; intro v3 w3 s1 s2 s3; have q6 := s2.cell ((World.cell?_alloc_lt w2 _ ⟨x.fb, 0, none⟩ (by exact Nat.lt_of_lt_of_le hfl q5)).trans q3) hnr.out; have q7 := s2.cell ((World.cell?_alloc_lt w2 _ ⟨x.fb, 1, none⟩ (by exact Nat.lt_of_lt_of_le hfl q5)).trans q4) hnr.out))
      go_wp2
      go_roundw
      case measure => simp [intOf]; omega
      case rel =>
        have t1 : Same wr w3 (fun b => (Value.slice VA k vc).ownBlock ≠ some b) := ((Same.of_below r2 _).trans (Same.alloc _ _ _)).trans (Same.of_grown s2 (fun b hb e => hb e.symm))
        have t2 : w3.ownsRow w.heap.size 5 1 (.slice A1 x.data.length c1) x.data.length (x.data.map byteV) := by
          refine own_step (own_lower r1 (by exact hwr)) ((Same.alloc w2 _ (fun b => (Value.slice A1 x.data.length c1).ownBlock = some b)).trans (Same.of_grown s2 (fun b hb e => ?_))) (fun b hb => hb)
          have g1 := own_base r1 b hb
          have g2 := own_lt hr3.out b e.symm
          have g3 : wr.heap.size ≤ b := g1
          omega
        have t3 : w2.heap.size + 1 ≤ w3.heap.size := by have := s2.size; simpa using this
        refine ⟨k + 1, us ++ [.slice A1 x.data.length c1], by omega, by go_num, ?_, ?_, hS.trans (t1.mono (fun b hb => hdis.out b hb)), by omega⟩
        · rw [htk1.out]
          have hF1 := hF0.out
          exact FilesOwn.snoc (x := x.file) hF1 (by rw [hLk1.out]; exact t1) (by rw [hLk1.out]; exact s1) t2
        · exact ((hB.trans ((Below.mono (B := wr.heap.size) ⟨r2.os, r2.tape, r2.output, r2.size, r2.block⟩ hwr))).alloc (by omega) _).grown s2 (by simp; omega) (fun b hb => own_base hr3.out b hb)
    · obtain rfl : k = g.length := by omega
      clear hlt
      go_wp2_with fail
      go_ret
      refine ⟨u3, us, rfl, ?_, hB⟩
      rw [List.take_of_length_le (by simp)] at hF
      exact hF
end Go.Proofs.YthnodmbenbiahaaDoor
