/- The disk's calls Rename and Cut. -/
import Derived.Test.YthnodmbenbiahaaGreatDoorDiskB
namespace Go.Proofs.YthnodmbenbiahaaGreatDoor
open Go.RowKit Go.Maps

theorem After.trans {w w1 w2 : World} {p : Nat} {ok : Nat → Prop} {m1 m2 : List FileD} (h : After w w1 p ok m1) (h' : After w1 w2 p (fun k => ok k ∨ w.heap.size ≤ k) m2) : After w w2 p ok m2 :=
  ⟨h'.1.mono (fun k hk _ => by
    rcases hk with (hk | hk) | hk
    · exact .inl hk
    · exact .inr hk
    · exact .inr (Nat.le_trans h.2.size hk)), h.2.trans h'.2 (fun _ hk => hk)⟩
/-- Behind a store of a file in the map. -/
theorem after_put {w w' : World} {p mb : Nat} {g : List Ent} {ok : Nat → Prop} (h : DiskG w p mb g) (hk : ∀ k, Own p mb g k → ok k) (x : Ent)
    (hw : Kept w w' (fun k => k = mb)) (hm : ∃ D, w'.ownsMap Tryz.prog 9 ptrR mb (Maps.size D) D ∧ MapIs D (lput Ent.name g x)) (hx : FileAt w x)
    (ha : ∀ y ∈ g, y.name ≠ x.name → x.fb ≠ y.fb ∧ ∀ k, x.v.ownBlock = some k → y.v.ownBlock ≠ some k) (hxo : ∀ k, k = x.fb ∨ x.v.ownBlock = some k → ok k)
    (h1 : okName x.name = true) (h2 : x.data.length ≤ 65536 ∧ 0 ≤ x.safe ∧ x.safe ≤ x.data.length) (h3 : (lput Ent.name g x).length ≤ 64) : DiskG w' p mb (lput Ent.name g x) ∧ After w w' p ok (fPut (g.map Ent.file) x.file) := by
  have hmb : ∀ k, k = x.fb ∨ x.v.ownBlock = some k → k ≠ mb := by
    obtain ⟨D, ⟨es, clock, hb, _⟩, _⟩ := h.mp
    rintro k (rfl | hk') rfl
    · have := hx.blk
      rw [hb] at this
      simp at this
    · obtain ⟨cur, hc⟩ := own_typed hx.row k hk'
      rw [hb] at hc
      simp at hc
  have hs := hw.part (ok := fun k => k ≠ mb) (fun k hk => hk)
  have hd : DiskG w' p mb (lput Ent.name g x) := h.put x hs (fun k hk' => by
    rcases hk' with rfl | ⟨y, hy, hk'⟩
    · exact h.p_ne.1
    · rintro rfl
      exact h.m_ne ⟨y, (mem_ldel.1 hy).1, hk'⟩) hm (hx.step hs (hmb _ (.inl rfl)) (fun k hk' => hmb k (.inr hk'))) ha h1 h2 h3
  refine ⟨hd, ⟨mb, _, hd, (put_file g x).symm, ?_⟩, hw.mono (fun k e => by subst e; exact hk _ (.inr (.inl rfl)))⟩
  rintro k (rfl | rfl | ⟨y, hy, hk'⟩)
  · exact .inl (hk _ (.inl rfl))
  · exact .inl (hk _ (.inr (.inl rfl)))
  · rcases mem_lput.1 hy with rfl | ⟨hy, _⟩
    · exact .inl (hxo k hk')
    · exact .inl (hk _ (.inr (.inr ⟨y, hy, hk'⟩)))

set_option maxHeartbeats 800000 in
theorem rename_any {w : World} {p : Nat} {ok : Nat → Prop} {m : List FileD} (h : DiskAt w p ok m) (s t : ByteArray) (hs : s.size ≤ maxLen) (ht : t.size ≤ maxLen) :
    Calls Tryz.prog 69 #[.pointer (some ⟨p, 0, none⟩), .string s, .string t] w fun e w' => e = .returned (.int .i64 (pRename m s t).2) ∧ After w w' p ok (pRename m s t).1 := by
  have h0 := h
  obtain ⟨mb, g, hg, rfl, hk⟩ := h
  have hcall := find_any hg s hs
  have hmay := may_any t w (by simpa [maxLen] using ht)
  cases hx : lfind Ent.name g s with
  | none =>
    rw [hx] at hcall
    have he : pRename (g.map Ent.file) s t = (g.map Ent.file, 4) := by unfold pRename; rw [find_file, hx]; rfl
    rw [he]
    clear he hx hg hk
    have h0 := Lib.hid h0
    go_enter Tryz.func69, Tryz.ntmps69
    go_wp2_with (go_at_call 121; refine hcall.mono ?_; rintro e w' ⟨rfl, rfl⟩)
    go_ret
    exact ⟨rfl, After.none h0.out⟩
  | some x =>
    rw [hx] at hcall
    obtain ⟨hxm, rfl⟩ := lfind_some hx
    cases ho : okName t with
    | false =>
      have he : pRename (g.map Ent.file) x.name t = (g.map Ent.file, 1) := by unfold pRename; rw [find_file, hx, ho]; rfl
      rw [he]
      rw [ho] at hmay
      clear he hx hg hk ho hxm
      have h0 := Lib.hid h0
      go_enter Tryz.func69, Tryz.ntmps69
      go_wp2_with (first | (go_at_call 121; refine hcall.mono ?_; rintro e w' ⟨rfl, rfl⟩) | (go_at_call 59; refine hmay.mono ?_; rintro e w' ⟨rfl, hB⟩))
      go_ret
      exact ⟨rfl, After.below h0.out hB⟩
    | true =>
      have he : pRename (g.map Ent.file) x.name t = (fPut (fDel (g.map Ent.file) x.name) (Ent.file { x with name := t }), 0) := by unfold pRename; rw [find_file, hx, ho]; rfl
      rw [he]
      rw [ho] at hmay
      have hf := hg.fl x hxm
      have hsz := hg.sz x hxm
      have hc0 : w.cell? ⟨p, 0, none⟩ = some (.map (some mb)) := (cell_blk hg.pc 0).trans rfl
      obtain ⟨D, hown, hD⟩ := hg.mp
      have hpl := hg.plt
      have hpm : mb ≠ p := hg.p_ne.1.symm
      have H1 := Lib.hid (fun w' (hB : Below w.heap.size w w') => ownsMap_step hown (hB.block mb hg.mlt))
      have H : ∀ w' w1 w2, Below w.heap.size w w' → w1.ownsMap Tryz.prog 9 ptrR mb (Maps.size D) (D.del (lit x.name)) → w'.mapTurned w1 mb → w2.ownsMap Tryz.prog 9 ptrR mb (Maps.size D + 1) ((D.del (lit x.name)).put (lit t) (.lit (.int .i64 x.fb))) → w1.grownBy w2 (some mb) →
          After w w2 p ok (fPut (fDel (g.map Ent.file) x.name) (Ent.file { x with name := t })) := by
        intro w' w1 w2 hB r1 r2 r3 r4
        have a0 := After.below h0 hB
        have hg' : DiskG w' p mb g := hg.step (Same.of_below hB (fun _ => True)) (fun _ _ => trivial)
        obtain ⟨d1, a1⟩ := after_del (ok := fun k => ok k ∨ w.heap.size ≤ k) hg' (fun k hk' => .inl (hk k hk')) x.name (Kept.turned r2) ⟨_, ownsMap_tight r1, hD.del x.name⟩
        refine (a0.trans a1).trans ?_
        rw [del_file]
        have hne : ∀ k, k = x.fb ∨ x.v.ownBlock = some k → k ≠ mb := fun k hk' e => by subst e; exact hg.m_ne ⟨x, hxm, hk'⟩
        have hf1 : FileAt w1 x := ((hg'.fl x hxm).step (Kept.turned r2).same (fun e => hne _ (.inl rfl) e) (fun k hk' e => hne k (.inr hk') e))
        refine (after_put (ok := fun k => ok k ∨ w.heap.size ≤ k) d1 (fun k hk' => ?_) { x with name := t } ⟨r4.os, r4.tape, r4.output, r4.size, Same.of_grown r4 (fun k hn e => hn (by injection e))⟩ ⟨_, ownsMap_tight r3, (hD.del x.name).put { x with name := t }⟩ ⟨hf1.blk, hf1.row⟩ ?_ ?_ ho hsz ?_).2
        · rcases hk' with rfl | rfl | ⟨y, hy, hk'⟩
          · exact .inl (hk _ (.inl rfl))
          · exact .inl (hk _ (.inr (.inl rfl)))
          · exact .inl (hk _ (.inr (.inr ⟨y, (mem_ldel.1 hy).1, hk'⟩)))
        · intro y hy hne'
          obtain ⟨hy1, hy2⟩ := mem_ldel.1 hy
          exact hg.nd x hxm y hy1 (fun e => hy2 e.symm)
        · intro k hk'
          exact .inl (hk _ (.inr (.inr ⟨x, hxm, hk'⟩)))
        · rw [lput_length]
          have e1 : (ldel Ent.name (ldel Ent.name g x.name) t).length ≤ (ldel Ent.name g x.name).length := List.length_filter_le _ _
          have e2 := ldel_length hg.so hxm
          have := hg.ct
          simp only
          omega
      have H := Lib.hid H
      have hmx : Maps.size D < maxLen := by rw [hD.size]; have := hg.ct; unfold maxLen; omega
      clear he hx hg hk h0 hD ho hf hsz hown hxm
      go_enter Tryz.func69, Tryz.ntmps69
      go_wp2_with (first | (go_at_call 121; refine hcall.mono ?_; rintro e w' ⟨rfl, rfl⟩) | (go_at_call 59; refine hmay.mono ?_; rintro e w' ⟨rfl, hB⟩; have hc1 := (hB.cell (p := ⟨p, 0, none⟩) hpl).trans hc0; have hown := H1.out _ hB) | (at_delete; refine wpList_delete_own _ rfl _ _ 74 9 rfl 118 strK Tryz.underlying74 _ mb _ _ rfl hown _ _ rfl (WideMaps.keyOf_string_mk Tryz.underlying9 hs) ?_; intro w1 r1 r2; have hc2 : w1.cell? ⟨p, 0, none⟩ = some (.map (some mb)) := (Kept.turned r2).same.cell hpm.symm hc1) | (at_mapUpdate; refine wpList_mapUpdate_own _ rfl _ _ _ 74 rfl 9 118 strK Tryz.underlying74 _ mb _ _ rfl r1 hmx _ _ _ rfl rfl (WideMaps.keyOf_string_mk Tryz.underlying9 ht) _ [] (ptrR_some _) ?_; intro w2 r3 r4))
      go_ret
      exact ⟨rfl, H.out _ _ _ hB r1 r2 r3 r4⟩
end Go.Proofs.YthnodmbenbiahaaGreatDoor
