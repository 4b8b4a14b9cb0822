/- The disk's call Cut. -/
import Derived.Test.YthnodmbenbiahaaGreatDoorDiskC
import Derived.Deep.DrawnRows
namespace Go.Proofs.YthnodmbenbiahaaGreatDoor
open Go.RowKit Go.Maps
attribute [local go_sem ↓] Go.wp_at_zero Go.wp_at_succ

/-- A slice's first elements. -/
theorem Reads.take {α : Type} {enc : α → Value} {w : World} {ok : Nat → Prop} {A : Option Addr} {n c : Nat} {xs : List α} (h : Reads enc w ok (.slice A n c) xs) (k : Nat) (hk : k ≤ n) : Reads enc w ok (.slice A k c) (xs.take k) := by
  have hn := h.len
  obtain ⟨A', c', e, h1, h2, h3⟩ := h
  injection e with e1 e2 e3
  subst e1 e3 hn
  have hl : (xs.take k).length = k := by simp; omega
  refine ⟨A, c, by rw [hl], by omega, by omega, fun hne => ?_⟩
  obtain ⟨b, o, e, hok, hc⟩ := h3 (by intro e; apply hne; rw [List.map_take, e]; simp)
  refine ⟨b, o, e, hok, fun j u hj => hc j u ?_⟩
  rw [List.map_take, List.getElem?_take] at hj
  split at hj
  · exact hj
  · cases hj

set_option maxHeartbeats 1000000 in
theorem cut_any {w : World} {p : Nat} {ok : Nat → Prop} {m : List FileD} (h : DiskAt w p ok m) (s : ByteArray) (n : Int) (hs : s.size ≤ maxLen) (hn1 : -9223372036854775808 ≤ n) (hn2 : n ≤ 9223372036854775807) :
    Calls Tryz.prog 66 #[.pointer (some ⟨p, 0, none⟩), .string s, .int .i64 n] w fun e w' => e = .returned (.int .i64 (pCut m s n).2) ∧ After w w' p ok (pCut m s n).1 := by
  have h0 := h
  obtain ⟨mb, g, hg, rfl, hk⟩ := h
  have hcall := find_any hg s hs
  cases hx : lfind Ent.name g s with
  | none =>
    rw [hx] at hcall
    have he : pCut (g.map Ent.file) s n = (g.map Ent.file, 4) := by unfold pCut; rw [find_file, hx]; rfl
    rw [he]
    clear he hx hg hk
    have h0 := Lib.hid h0
    go_enter Tryz.func66, Tryz.ntmps66
    go_wp2_with (go_at_call 121; refine hcall.mono ?_; rintro e w' ⟨rfl, rfl⟩)
    go_ret
    exact ⟨rfl, After.none h0.out⟩
  | some x =>
    rw [hx] at hcall
    obtain ⟨hxm, rfl⟩ := lfind_some hx
    have hf := hg.fl x hxm
    have hsz := hg.sz x hxm
    have hrd : Bytes w (fun k => x.v.ownBlock = some k) x.v x.data := Reads.of_own hf.row
    obtain ⟨A, c, hv, hlc⟩ := hrd.form
    have hc0 : w.cell? ⟨x.fb, 0, none⟩ = some (.slice A x.data.length c) := by rw [cell_blk hf.blk 0, hv]; rfl
    have hc1 : w.cell? ⟨x.fb, 1, none⟩ = some (.int .i64 x.safe) := by rw [cell_blk hf.blk 1]; rfl
    have hf0 : w.frozen? ⟨x.fb, 0, none⟩ = false := frozen_blk hf.blk 0
    have hf1 : w.frozen? ⟨x.fb, 1, none⟩ = false := frozen_blk hf.blk 1
    by_cases hbad : n < 0 ∨ (x.data.length : Int) < n
    · have he : pCut (g.map Ent.file) x.name n = (g.map Ent.file, 1) := by unfold pCut; rw [find_file, hx]; exact if_pos hbad
      rw [he]
      clear he hx hg hk hf hsz hrd hv hxm hlc
      have h0 := Lib.hid h0
      rcases hbad with hbad | hbad
      all_goals
        go_enter Tryz.func66, Tryz.ntmps66
        go_wp2_with (go_at_call 121; refine hcall.mono ?_; rintro e w' ⟨rfl, rfl⟩)
        all_goals go_ret
        all_goals exact ⟨rfl, After.none h0.out⟩
    · obtain ⟨k, rfl⟩ := Int.eq_ofNat_of_zero_le (show 0 ≤ n by omega)
      have hkn : k ≤ x.data.length := by omega
      have he : pCut (g.map Ent.file) x.name k = (fPut (g.map Ent.file) (Ent.file { x with data := x.data.take k, safe := min x.safe k }), 0) := by unfold pCut; rw [find_file, hx]; exact if_neg hbad
      rw [he]
      have hcl := Lib.hid ((hv ▸ hrd).take k hkn)
      have hk47 : k ≤ 140737488355328 := by omega
      have hfl := hf.lt
      have H : ∀ (w' : World) (A1 : Option Addr) (c1 : Nat), w'.ownsRow w.heap.size 5 1 (.slice A1 k c1) k ((x.data.take k).map byteV) → Below w.heap.size w w' →
          After w ((w'.setCell ⟨x.fb, 0, none⟩ (.slice A1 k c1)).setCell ⟨x.fb, 1, none⟩ (.int .i64 (min x.safe k))) p ok (fPut (g.map Ent.file) (Ent.file { x with data := x.data.take k, safe := min x.safe k })) := by
        intro w' A1 c1 r1 r2
        have hb := (Same.of_below r2 (fun _ => True)).blk trivial hf.blk
        have hb1 := set_blk hb 0 (.slice A1 k c1)
        have hb2 := set_blk hb1 1 (.int .i64 (min x.safe k))
        have hl : (x.data.take k).length = k := by simp; omega
        have hne : ∀ b, (Value.slice A1 k c1).ownBlock = some b → b ≠ x.fb := fun b hb' e => by have := own_base r1 b hb'; omega
        have hrow := own_step (own_step (own_lower r1 (Nat.zero_le _)) (Same.setCell w' ⟨x.fb, 0, none⟩ (.slice A1 k c1) (ok := fun b => b ≠ x.fb) (fun _ h => h)) hne) (Same.setCell _ ⟨x.fb, 1, none⟩ (.int .i64 (min x.safe k)) (ok := fun b => b ≠ x.fb) (fun _ h => h)) hne
        refine after_turn hg hk hxm { x with data := x.data.take k, safe := min x.safe k, v := .slice A1 k c1 } rfl rfl (((Kept.of_below r2 _).setCell (.inl (.inl rfl)) _).setCell (.inl (.inl rfl)) _) ⟨?_, ?_⟩ (fun b hb' => .inr (own_base r1 b hb')) ⟨by simp only [hl]; omega, by simp only; omega, by simp only [hl]; omega⟩
        · simpa using hb2
        · simp only [hl]; exact hrow
      have H := Lib.hid H
      clear he hx hxm hv hrd h0 hk hg hsz hf
      go_enter Tryz.func66, Tryz.ntmps66
      go_wp2_with (go_at_call 121; refine hcall.mono ?_; rintro e w' ⟨rfl, rfl⟩)
      go_region_with (first | (go_at_call 60; refine (clone_sl (hcl.out.step (Same.drew _ _)) hk47).mono ?_; rintro e w' ⟨A1, c1, rfl, r1, r2⟩; have q0 := (r2.cell (p := ⟨x.fb, 0, none⟩) hfl).trans hc0; have q1 := (r2.cell (p := ⟨x.fb, 1, none⟩) hfl).trans hc1; have q2 := (r2.frozen (p := ⟨x.fb, 0, none⟩) hfl).trans hf0; have q3 := (r2.frozen (p := ⟨x.fb, 1, none⟩) hfl).trans hf1))
      all_goals go_wp2
      all_goals go_ret
      all_goals exact ⟨rfl, H.out _ _ _ r1 ⟨r2.os, r2.tape, r2.output, r2.size, r2.block⟩⟩
end Go.Proofs.YthnodmbenbiahaaGreatDoor
