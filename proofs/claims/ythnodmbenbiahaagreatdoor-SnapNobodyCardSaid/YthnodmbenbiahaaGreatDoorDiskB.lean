/- The disk's calls that turn its files: New, Sync, Remove, Rename; and Read. -/
import Derived.Test.YthnodmbenbiahaaGreatDoorDiskA
import Derived.Test.YthnodmbenbiahaaGreatDoorOps
namespace Go.Proofs.YthnodmbenbiahaaGreatDoor
open Go.RowKit Go.Maps

/-- The disk p behind a call that began in w: with files m, in its blocks and new ones; all else is as it was. -/
def After (w w' : World) (p : Nat) (ok : Nat → Prop) (m : List FileD) : Prop := DiskAt w' p (fun k => ok k ∨ w.heap.size ≤ k) m ∧ Kept w w' ok
theorem After.none {w : World} {p : Nat} {ok : Nat → Prop} {m : List FileD} (h : DiskAt w p ok m) : After w w p ok m := ⟨h.mono (fun _ hk _ => .inl hk), Kept.refl _ _⟩
theorem After.below {w w' : World} {p : Nat} {ok : Nat → Prop} {m : List FileD} (h : DiskAt w p ok m) (hb : Below w.heap.size w w') : After w w' p ok m :=
  ⟨(h.step (Same.of_below hb _)).mono (fun _ hk _ => .inl hk), Kept.of_below hb _⟩

theorem find_file (g : List Ent) (s : ByteArray) : fFind (g.map Ent.file) s = (lfind Ent.name g s).map Ent.file := lfind_map (nm := Ent.name) (nb := FileD.name) (fun _ => rfl) g s
theorem put_file (g : List Ent) (x : Ent) : fPut (g.map Ent.file) x.file = (lput Ent.name g x).map Ent.file := lput_map (nm := Ent.name) (nb := FileD.name) (fun _ => rfl) g x
theorem del_file (g : List Ent) (s : ByteArray) : fDel (g.map Ent.file) s = (ldel Ent.name g s).map Ent.file := ldel_map (nm := Ent.name) (nb := FileD.name) (fun _ => rfl) g s

set_option maxHeartbeats 400000 in
theorem new_any (w : World) : Calls Tryz.prog 40 #[] w fun e w' => ∃ p, e = .returned (.pointer (some ⟨p, 0, none⟩)) ∧ DiskAt w' p (fun k => w.heap.size ≤ k) [] ∧ Below w.heap.size w w' := by
  have hmm := @run_makeMap Tryz.prog
  go_enter Tryz.func40, Tryz.ntmps40
  go_wp2
  go_ret
  refine ⟨_, rfl, ⟨w.heap.size, [], ⟨?_, ⟨.map [], ?_, ⟨[], rfl, List.Perm.refl _⟩⟩, ?_, List.Pairwise.nil, ?_, ?_, ?_, ?_⟩, rfl, ?_⟩, ?_⟩
  · simpa using heap_alloc_new (w.alloc (.map #[] 0)) (.cells #[.map (some w.heap.size)] 76)
  · exact (World.ownsMap_made w Tryz.prog 9 ptrR).alloc _
  · intro x hx; cases hx
  · intro x hx; cases hx
  · intro x hx; cases hx
  · intro x hx; cases hx
  · exact Nat.zero_le _
  · rintro k (rfl | rfl | ⟨x, hx, _⟩)
    · omega
    · exact Nat.le_refl _
    · cases hx
  · exact ((Below.refl _ _).alloc (Nat.le_refl _) _).alloc (by simp) _

/-- Behind a turn of one file where it lies. -/
theorem after_turn {w w' : World} {p mb : Nat} {g : List Ent} {ok : Nat → Prop} (h : DiskG w p mb g) (hk : ∀ k, Own p mb g k → ok k) {x : Ent} (hx : x ∈ g) (x' : Ent) (hn : x'.name = x.name) (hf : x'.fb = x.fb)
    (hw : Kept w w' (fun k => k = x.fb ∨ x.v.ownBlock = some k)) (hb : FileAt w' x') (hv : ∀ k, x'.v.ownBlock = some k → x.v.ownBlock = some k ∨ w.heap.size ≤ k)
    (h2 : x'.data.length ≤ 65536 ∧ 0 ≤ x'.safe ∧ x'.safe ≤ x'.data.length) : After w w' p ok (fPut (g.map Ent.file) x'.file) := by
  refine ⟨⟨mb, lput Ent.name g x', h.turn hx x' hn hf (hw.part (fun k hk h => h.elim hk.1 hk.2)) hb hv h2, (put_file g x').symm, ?_⟩, ?_⟩
  · rintro k (rfl | rfl | ⟨y, hy, hk'⟩)
    · exact .inl (hk _ (.inl rfl))
    · exact .inl (hk _ (.inr (.inl rfl)))
    · rcases mem_lput.1 hy with rfl | ⟨hy, _⟩
      · rcases hk' with rfl | hk'
        · rw [hf]; exact .inl (hk _ (.inr (.inr ⟨x, hx, .inl rfl⟩)))
        · exact (hv k hk').imp (fun e => hk _ (.inr (.inr ⟨x, hx, .inr e⟩))) id
      · exact .inl (hk _ (.inr (.inr ⟨y, hy, hk'⟩)))
  · refine hw.mono ?_
    rintro k (rfl | e)
    · exact hk _ (.inr (.inr ⟨x, hx, .inl rfl⟩))
    · exact hk _ (.inr (.inr ⟨x, hx, .inr e⟩))

set_option maxHeartbeats 400000 in
theorem sync_any {w : World} {p : Nat} {ok : Nat → Prop} {m : List FileD} (h : DiskAt w p ok m) (s : ByteArray) (hs : s.size ≤ maxLen) :
    Calls Tryz.prog 68 #[.pointer (some ⟨p, 0, none⟩), .string s] w fun e w' => e = .returned (.int .i64 (pSync m s).2) ∧ After w w' p ok (pSync m s).1 := by
  have h0 := h
  obtain ⟨mb, g, hg, rfl, hk⟩ := h
  have hcall := find_any hg s hs
  cases hx : lfind Ent.name g s with
  | none =>
    rw [hx] at hcall
    have he : pSync (g.map Ent.file) s = (g.map Ent.file, 4) := by unfold pSync; rw [find_file, hx]; rfl
    rw [he]
    clear he hx hg hk
    have h0 := Lib.hid h0
    go_enter Tryz.func68, Tryz.ntmps68
    go_wp2_with (go_at_call 121; refine hcall.mono ?_; rintro e w' ⟨rfl, rfl⟩)
    go_ret
    exact ⟨rfl, After.none h0.out⟩
  | some x =>
    rw [hx] at hcall
    obtain ⟨hxm, rfl⟩ := lfind_some hx
    have hf := hg.fl x hxm
    obtain ⟨A, c, hv, _, _, _⟩ := own_form hf.row
    have hsz := hg.sz x hxm
    have he : pSync (g.map Ent.file) x.name = (fPut (g.map Ent.file) (Ent.file { x with safe := x.data.length }), 0) := by unfold pSync; rw [find_file, hx]; rfl
    rw [he]
    have hc0 : w.cell? ⟨x.fb, 0, none⟩ = some (.slice A x.data.length c) := by rw [cell_blk hf.blk 0, hv]; rfl
    have hc1 : w.cell? ⟨x.fb, 1, none⟩ = some (.int .i64 x.safe) := by rw [cell_blk hf.blk 1]; rfl
    have hf1 : w.frozen? ⟨x.fb, 1, none⟩ = false := frozen_blk hf.blk 1
    have H : After w (w.setCell ⟨x.fb, 1, none⟩ (.int .i64 x.data.length)) p ok (fPut (g.map Ent.file) (Ent.file { x with safe := x.data.length })) := by
      have hrow := own_step hf.row (Same.setCell w ⟨x.fb, 1, none⟩ (.int .i64 x.data.length) (ok := fun k => k ≠ x.fb) (fun _ h => h)) (fun k hk => hf.ne hf k hk)
      refine after_turn hg hk hxm { x with safe := x.data.length } rfl rfl ((Kept.refl _ _).setCell (.inl (.inl rfl)) _) ⟨?_, hrow⟩ (fun k hk => .inl hk) ⟨hsz.1, by simp, by simp⟩
      have := set_blk hf.blk 1 (.int .i64 x.data.length)
      simpa using this
    have H := Lib.hid H
    clear he hx hg hk h0 hsz hf hxm hv
    go_enter Tryz.func68, Tryz.ntmps68
    go_wp2_with (go_at_call 121; refine hcall.mono ?_; rintro e w' ⟨rfl, rfl⟩)
    go_ret
    exact ⟨rfl, H.out⟩

set_option maxHeartbeats 400000 in
/-- A file's bytes as they are read. -/
theorem read_any {w : World} {p : Nat} {ok : Nat → Prop} {m : List FileD} (h : DiskAt w p ok m) (s : ByteArray) (hs : s.size ≤ maxLen) :
    Calls Tryz.prog 86 #[.pointer (some ⟨p, 0, none⟩), .string s] w fun e w' => ∃ v, e = .returned (.tuple #[v, .bool (fFind m s).isSome]) ∧ w'.ownsRow w.heap.size 5 1 v (((fFind m s).map FileD.data).getD []).length ((((fFind m s).map FileD.data).getD []).map byteV) ∧ Below w.heap.size w w' := by
  obtain ⟨mb, g, hg, rfl, hk⟩ := h
  have hcall := find_any hg s hs
  rw [find_file]
  cases hx : lfind Ent.name g s with
  | none =>
    rw [hx] at hcall
    clear hx hg hk
    go_enter Tryz.func86, Tryz.ntmps86
    go_wp2_with (go_at_call 121; refine hcall.mono ?_; rintro e w' ⟨rfl, rfl⟩)
    go_ret2
    exact ⟨_, rfl, World.ownsRow_nil _ _ _ _, Below.refl _ _⟩
  | some x =>
    rw [hx] at hcall
    obtain ⟨hxm, rfl⟩ := lfind_some hx
    have hf := hg.fl x hxm
    have hsz := hg.sz x hxm
    have hrd : Bytes w (fun k => x.v.ownBlock = some k) x.v x.data := Reads.of_own hf.row
    obtain ⟨A, c, hv, _⟩ := hrd.form
    have hcl := clone_any hrd (by omega)
    rw [hv] at hcl
    have hc0 : w.cell? ⟨x.fb, 0, none⟩ = some (.slice A x.data.length c) := by rw [cell_blk hf.blk 0, hv]; rfl
    clear hx hg hk hsz hf hxm hv hrd
    go_enter Tryz.func86, Tryz.ntmps86
    go_wp2_with (first | (go_at_call 121; refine hcall.mono ?_; rintro e w' ⟨rfl, rfl⟩) | (go_at_call 60; refine hcl.mono ?_; rintro e w' ⟨v', rfl, r1, r2⟩))
    go_ret2
    exact ⟨v', rfl, r1, r2⟩

/-- Behind a file's removal from the map. -/
theorem after_del {w w' : World} {p mb : Nat} {g : List Ent} {ok : Nat → Prop} (h : DiskG w p mb g) (hk : ∀ k, Own p mb g k → ok k) (s : ByteArray)
    (hw : Kept w w' (fun k => k = mb)) (hm : ∃ D, w'.ownsMap Tryz.prog 9 ptrR mb (Maps.size D) D ∧ MapIs D (ldel Ent.name g s)) : DiskG w' p mb (ldel Ent.name g s) ∧ After w w' p ok (fDel (g.map Ent.file) s) := by
  have hd : DiskG w' p mb (ldel Ent.name g s) := h.del s (hw.part (ok := fun k => k ≠ mb) (fun k hk => hk)) (fun k hk' => by
    rcases hk' with rfl | ⟨y, hy, hk'⟩
    · exact h.p_ne.1
    · rintro rfl
      exact h.m_ne ⟨y, (mem_ldel.1 hy).1, hk'⟩) hm
  refine ⟨hd, ⟨mb, _, hd, (del_file g s).symm, ?_⟩, hw.mono (fun k e => by subst e; exact hk _ (.inr (.inl rfl)))⟩
  rintro k (rfl | rfl | ⟨y, hy, hk'⟩)
  · exact .inl (hk _ (.inl rfl))
  · exact .inl (hk _ (.inr (.inl rfl)))
  · exact .inl (hk _ (.inr (.inr ⟨y, (mem_ldel.1 hy).1, hk'⟩)))
theorem Kept.turned {w w' : World} {b : Nat} (h : w.mapTurned w' b) : Kept w w' (fun k => k = b) := by
  have hg := h.grown
  exact ⟨hg.os, hg.tape, hg.output, hg.size, Same.of_grown hg (fun k hk e => hk (by injection e))⟩

set_option maxHeartbeats 400000 in
theorem remove_any {w : World} {p : Nat} {ok : Nat → Prop} {m : List FileD} (h : DiskAt w p ok m) (s : ByteArray) (hs : s.size ≤ maxLen) :
    Calls Tryz.prog 94 #[.pointer (some ⟨p, 0, none⟩), .string s] w fun e w' => e = .returned (.int .i64 (pRemove m s).2) ∧ After w w' p ok (pRemove m s).1 := by
  have h0 := h
  obtain ⟨mb, g, hg, rfl, hk⟩ := h
  have hcall := find_any hg s hs
  cases hx : lfind Ent.name g s with
  | none =>
    rw [hx] at hcall
    have he : pRemove (g.map Ent.file) s = (g.map Ent.file, 4) := by unfold pRemove; rw [find_file, hx]; rfl
    rw [he]
    clear he hx hg hk
    have h0 := Lib.hid h0
    go_enter Tryz.func94, Tryz.ntmps94
    go_wp2_with (go_at_call 121; refine hcall.mono ?_; rintro e w' ⟨rfl, rfl⟩)
    go_ret
    exact ⟨rfl, After.none h0.out⟩
  | some x =>
    rw [hx] at hcall
    have he : pRemove (g.map Ent.file) s = (fDel (g.map Ent.file) s, 0) := by unfold pRemove; rw [find_file, hx]; rfl
    rw [he]
    have hc0 : w.cell? ⟨p, 0, none⟩ = some (.map (some mb)) := (cell_blk hg.pc 0).trans rfl
    obtain ⟨D, hown, hD⟩ := hg.mp
    have H : ∀ w', w'.ownsMap Tryz.prog 9 ptrR mb (Maps.size D) (D.del (lit s)) → w.mapTurned w' mb → After w w' p ok (fDel (g.map Ent.file) s) := fun w' r1 r2 => (after_del hg hk s (Kept.turned r2) ⟨_, ownsMap_tight r1, hD.del s⟩).2
    have H := Lib.hid H
    clear he hx hg hk h0 hD
    go_enter Tryz.func94, Tryz.ntmps94
    go_wp2_with (first | (go_at_call 121; refine hcall.mono ?_; rintro e w' ⟨rfl, rfl⟩) | (at_delete; refine wpList_delete_own _ rfl _ _ 74 9 rfl 118 strK Tryz.underlying74 _ mb _ _ rfl hown _ _ rfl (WideMaps.keyOf_string_mk Tryz.underlying9 hs) ?_; intro w1 r1 r2))
    go_ret
    exact ⟨rfl, H.out _ r1 r2⟩
end Go.Proofs.YthnodmbenbiahaaGreatDoor
