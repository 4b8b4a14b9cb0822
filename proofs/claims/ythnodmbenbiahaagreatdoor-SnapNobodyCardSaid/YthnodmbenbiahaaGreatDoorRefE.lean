/- The document's answer for disks (package gudgeonref05), walked: Rename, Append. -/
import Derived.Test.YthnodmbenbiahaaGreatDoorRefD
import Derived.Deep.DrawnRows
namespace Go.Proofs.YthnodmbenbiahaaGreatDoor
open Go.RowKit Go.Maps

theorem made_at (w : World) (e : TypeId) (size : Nat) {n : Nat} (hn : w.heap.size = n) : (w.alloc (.cells #[] e)).ownsRow n e size (.slice (some ⟨n, 0, none⟩) 0 0) 0 [] := by
  subst hn
  exact World.ownsRow_made w #[] 0 (Nat.le_refl _) (Nat.zero_le _) (by simp)
theorem Reads.cells {α : Type} {enc : α → Value} {w : World} {ok : Nat → Prop} {A : Option Addr} {n c : Nat} {xs : List α} (h : Reads enc w ok (.slice A n c) xs) : Cells w ok A (xs.map enc) := by
  obtain ⟨A', c', e, h1, h2, h3⟩ := h
  injection e with e1 e2 e3
  subst e1
  exact h3
/-- Two appends to a new row, and a store of it in the box at the heap's end; the world behind. -/
theorem two_appends {w w1 w2 : World} {o1 : Obj} {r1 r2 : Option Nat} (g1 : ((w.alloc o1).alloc (.cells #[] 5)).grownBy w1 r1) (h1 : ∀ k, r1 = some k → w.heap.size < k) (g2 : w1.grownBy w2 r2) (h2 : ∀ k, r2 = some k → w.heap.size < k) :
    Below (w.heap.size + 1) (w.alloc o1) w2 ∧ Below w.heap.size w w2 := by
  have b1 : Below (w.heap.size + 1) (w.alloc o1) w1 := ((Below.refl _ _).alloc (by simp) _).grown g1 (by simp) (fun k hk => h1 k hk)
  have b2 : Below (w.heap.size + 1) (w.alloc o1) w2 := b1.grown g2 (by have := b1.size; simp at this; omega) (fun k hk => h2 k hk)
  have b3 : Below w.heap.size w w2 := ((Below.refl _ _).alloc (Nat.le_refl _) o1).trans (b2.mono (by omega))
  exact ⟨b2, b3⟩

/-- put behind the appends. -/
theorem append_put {w w2 : World} {ok : Nat → Prop} {v : Value} {l : List FileD} (h : FilesRd w ok v l) (hr : Rising FileD.name l) (hl : l.length ≤ 1000) (hg2 : Below w.heap.size w w2) (u : Value) {VB : Option Addr} {n vd : Nat} {ds : List UInt8} (hrow : w2.ownsRow (w.heap.size + 1) 5 1 (.slice VB n vd) n (ds.map byteV)) (hn : n = ds.length) (nm : ByteArray) (fs : Int) :
    Calls Tryz.prog 122 #[v, .agg #[.string nm, .slice VB n vd, .int .i64 fs]] (w2.setCell ⟨w.heap.size, 1, none⟩ u) fun e w' => ∃ A m c, e = .returned (.slice A m c) ∧ RefOut w w' ok (.slice A m c) (fPut l ⟨nm, ds, fs⟩) := by
  subst hn
  have h1 : FilesRd (w2.setCell ⟨w.heap.size, 1, none⟩ u) (fun k => (ok k ∧ k < w.heap.size) ∨ w.heap.size < k) v l :=
    ((h.mono (ok' := fun k => ok k ∧ k < w.heap.size) (fun k h1 h2 => ⟨h1, h2⟩)).step ((Same.of_below hg2 _).trans (Same.setCell w2 _ _ (fun k hk e => by have := hk.2; simp at e; omega)))).mono (fun k hk _ => .inl hk)
  have h2 : Bytes (w2.setCell ⟨w.heap.size, 1, none⟩ u) (fun k => (ok k ∧ k < w.heap.size) ∨ w.heap.size < k) (.slice VB ds.length vd) ds :=
    ((Reads.of_own (α := UInt8) (enc := byteV) hrow).step (Same.setCell w2 ⟨w.heap.size, 1, none⟩ u (fun k hk e => by have := own_base hrow k hk; simp at e; omega))).mono (fun k hk _ => .inr (own_base hrow k hk))
  refine (put_any h1 hr hl ⟨nm, ds, fs⟩ h2).mono ?_
  rintro e w3 ⟨v', rfl, q1, q2⟩
  obtain ⟨A, c, rfl, _, _⟩ := q1.form
  have hs := hg2.size
  have e : (w2.setCell ⟨w.heap.size, 1, none⟩ u).heap.size = w2.heap.size := by simp [World.setCell]
  rw [e] at q1 q2
  refine ⟨A, _, c, rfl, q1.mono (fun k hk _ => by rcases hk with (hk | hk) | hk; exact .inl hk.1; exact .inr (by omega); exact .inr (by omega)), ?_⟩
  have b1 : Below w.heap.size w (w2.setCell ⟨w.heap.size, 1, none⟩ u) := ⟨hg2.os, hg2.tape, hg2.output, by rw [e]; exact hs, fun k hk => ((Same.setCell w2 ⟨w.heap.size, 1, none⟩ u (ok := fun k => k < w.heap.size) (fun k hk e => by simp at e; omega)) k hk (by omega)).trans (hg2.block k hk)⟩
  exact b1.trans (q2.mono hs)

set_option maxRecDepth 100000 in
set_option maxHeartbeats 2000000 in
theorem rappend_any {w : World} {ok : Nat → Prop} {v : Value} {l : List FileD} (h : FilesRd w ok v l) (hr : Rising FileD.name l) (hl : l.length ≤ 1000) (hz : ∀ x ∈ l, x.data.length ≤ 65536 ∧ 0 ≤ x.safe ∧ x.safe ≤ x.data.length) (s : ByteArray) (hs : s.size ≤ maxLen) {BA : Option Addr} {bn bc : Nat} {bs : List UInt8} {okb : Nat → Prop} (hb : Bytes w okb (.slice BA bn bc) bs) (hbl : bn ≤ 1000000) :
    Calls Tryz.prog 71 #[v, .string s, .slice BA bn bc] w fun e w' => ∃ A m c, e = .returned (.tuple #[.slice A m c, .int .i64 (pAppend l s bs).2]) ∧ RefOut w w' ok (.slice A m c) (pAppend l s bs).1 := by
  obtain ⟨A, c, rfl, hc, _⟩ := h.form
  have hp := place_at h hr s hl
  have hnm := rname_any s w hs
  obtain rfl := hb.len
  replace h := Lib.hid h
  replace hb := Lib.hid hb
  replace hr := Lib.hid hr
  replace hz := Lib.hid hz
  have hl0 := Lib.hid hl
  go_enter Tryz.func71, Tryz.ntmps71
  go_wp2_with fail
  refine hnm.mono ?_
  rintro e w' ⟨rfl, rfl⟩
  cases hok : okName s with
  | false =>
    have e : pAppend l s bs = (l, 1) := by unfold pAppend; rw [hok]; rfl
    replace e := Lib.hid e
    clear hok
    go_wp2_with fail
    go_ret2
    rw [e.out]
    exact ⟨_, _, _, rfl, RefOut.none h.out⟩
  | true =>
    have e0 : pAppend l s bs = (match fFind l s with | some f => if 65536 < f.data.length + bs.length then (l, 2) else (fPut l { f with data := f.data ++ bs }, 0) | none => if 64 ≤ l.length ∨ 65536 < bs.length then (l, 2) else (fPut l ⟨s, bs, 0⟩, 0)) := by unfold pAppend; rw [hok]; rfl
    replace e0 := Lib.hid e0
    clear hok
    go_wp2_with fail
    refine hp.mono ?_
    rintro e w' ⟨h1, rfl⟩
    rcases h1 with ⟨i, hi, rfl, hf, hn⟩ | ⟨rfl, hf⟩
    · have e1 := e0.out
      rw [hf] at e1
      simp only at e1
      obtain ⟨b, o, B, d, rfl, hb', c0, c1, c2, hd, hB⟩ := h.out.get i hi
      obtain ⟨hz1, hz2, hz3⟩ := hz.out _ (List.getElem_mem hi)
      have i1 : (i : Int) < l.length := by omega
      generalize l[i] = x at *
      obtain ⟨xn, xd, xs⟩ := x
      simp only at hn c0 c1 c2 hB e1 hz1 hz2 hz3 hd
      subst hn
      replace hB := Lib.hid hB
      have d0 : ∀ O, (w.alloc O).cell? ⟨b, o + i * 3, none⟩ = some (.string xn) := fun O => (World.cell?_alloc_lt w O _ (cell_lt c0)).trans c0
      have d1 : ∀ O, (w.alloc O).cell? ⟨b, o + i * 3 + 1, none⟩ = some (.slice B xd.length d) := fun O => (World.cell?_alloc_lt w O _ (cell_lt c1)).trans c1
      have d2 : ∀ O, (w.alloc O).cell? ⟨b, o + i * 3 + 2, none⟩ = some (.int .i64 xs) := fun O => (World.cell?_alloc_lt w O _ (cell_lt c2)).trans c2
      have j1 : IntKind.i64.wrap ((xd.length : Int) + bs.length) = xd.length + bs.length := IntWalk.i64_in _ (by omega)
      clear hf e0
      by_cases hbad : 65536 < xd.length + bs.length
      · rw [if_pos hbad] at e1
        have e := Lib.hid e1
        have j2 : (65536 : Int) < xd.length + bs.length := by omega
        clear e1 hbad
        go_wp2_with fail
        go_ret2
        rw [e.out]
        exact ⟨_, _, _, rfl, (h.out.step (Same.alloc w _ _)).mono (fun k hk _ => .inl hk), (Below.refl _ _).alloc (Nat.le_refl _) _⟩
      · rw [if_neg hbad] at e1
        have e := Lib.hid e1
        have j2 : ¬ (65536 : Int) < xd.length + bs.length := by omega
        clear e1 hbad
        have hm := Lib.hid (made_at (w.alloc (.cells #[.string xn, .slice B xd.length d, .int .i64 xs] 25)) 5 1 (n := w.heap.size + 1) (by simp))
        have hcB := Lib.hid (fun O O' => (hB.out.step ((Same.alloc w O ok).trans (Same.alloc (w.alloc O) O' ok))).cells)
        have hg1 := Lib.hid (show ∀ k, (Value.slice (some ⟨w.heap.size + 1, 0, none⟩) 0 0).ownBlock = some k → w.heap.size < k from fun k hk => own_base hm.out k hk)
        have hb1 := Lib.hid (hb.out.mono (ok' := fun k => okb k ∧ k < w.heap.size) (fun k h1 h2 => ⟨h1, h2⟩))
        have bx := Lib.hid (fun j => cell_blk (heap_alloc_new w (.cells #[.string xn, .slice B xd.length d, .int .i64 xs] 25)) j)
        go_wp2_with (first | (at_builtin; refine wpList_append rfl _ _ 22 rfl Tryz.underlying22 info_u8 rfl (by decide) (v := .slice (some ⟨w.heap.size + 1, 0, none⟩) 0 0) (n := 0) (xs := []) rfl hm.out (A := B) (m := xd.length) (c := d) rfl (by simp) (hcB.out _ _) (byte_one _) (by omega) (by omega) (by simp) ?_; intro v1 w1 r1 r2 r3; rw [Nat.zero_add, List.nil_append] at r1; obtain ⟨VA, vc, rfl, _, _⟩ := own_form r1; have hgr1 := Lib.hid r2; have hr1 := Lib.hid r1; have hsz1 := r2.size; have hc1 := Lib.hid ((hb1.out.step (((Same.alloc _ _ _).trans (Same.alloc _ _ _)).trans (Same.of_grown r2 (fun k hk e => by have := hg1.out k e.symm; have := hk.2; omega)))).cells); clear r1 r2 r3) | (at_builtin; refine wpList_append rfl _ _ 22 rfl Tryz.underlying22 info_u8 rfl (by decide) (v := .slice VA xd.length vc) (n := xd.length) rfl hr1.out (A := BA) (m := bs.length) (c := bc) rfl (by simp) hc1.out (byte_one _) (by omega) (by omega) (by simp at hsz1; omega) ?_; intro v2 w2 r1 r2 r3; obtain ⟨VB, vd, rfl, _, _⟩ := own_form r1; obtain ⟨g1, g2⟩ := two_appends hgr1.out hg1.out r2 (fun k hk => own_base hr1.out k hk); have q0 := (g1.cell (p := ⟨w.heap.size, 0, none⟩) (by simp)).trans (bx.out 0); have q1 := (g1.cell (p := ⟨w.heap.size, 1, none⟩) (by simp)).trans (bx.out 1); have q2 := (g1.cell (p := ⟨w.heap.size, 2, none⟩) (by simp)).trans (bx.out 2); have q3 := g1.frozen (p := ⟨w.heap.size, 1, none⟩) (by simp); have hr2 := Lib.hid r1; have hg2 := Lib.hid g2; clear r1 r2 r3 g1 g2))
        refine (append_put (ds := xd ++ bs) h.out hr.out hl0.out hg2.out _ (by rw [List.map_append]; exact hr2.out) (by simp) xn xs).mono ?_
        rintro e2 w3 ⟨A1, m1, c1, rfl, q1⟩
        have q1 := Lib.hid q1
        go_wp2_with fail
        go_ret2
        rw [e.out]
        exact ⟨_, _, _, rfl, q1.out⟩
    · have e1 := e0.out
      rw [hf] at e1
      simp only at e1
      clear hf e0
      by_cases hbad : 64 ≤ l.length ∨ 65536 < bs.length
      · rw [if_pos hbad] at e1
        have e := Lib.hid e1
        clear e1
        by_cases h64 : 64 ≤ l.length
        · clear hbad
          go_wp2_with fail
          go_ret2
          rw [e.out]
          exact ⟨_, _, _, rfl, (h.out.step (Same.alloc w _ _)).mono (fun k hk _ => .inl hk), (Below.refl _ _).alloc (Nat.le_refl _) _⟩
        · have j2 : 65536 < bs.length := by omega
          clear hbad
          go_wp2_with fail
          go_ret2
          rw [e.out]
          exact ⟨_, _, _, rfl, (h.out.step (Same.alloc w _ _)).mono (fun k hk _ => .inl hk), (Below.refl _ _).alloc (Nat.le_refl _) _⟩
      · rw [if_neg hbad] at e1
        have e := Lib.hid e1
        have j2 : ¬ 64 ≤ l.length := by omega
        have j3 : ¬ 65536 < bs.length := by omega
        clear e1 hbad
        have hm := Lib.hid (made_at (w.alloc (.cells #[.string s, .slice none 0 0, .int .i64 0] 25)) 5 1 (n := w.heap.size + 1) (by simp))
        have hb1 := Lib.hid (hb.out.mono (ok' := fun k => okb k ∧ k < w.heap.size) (fun k h1 h2 => ⟨h1, h2⟩))
        have hcB := Lib.hid (fun O O' => (hb1.out.step ((Same.alloc w O _).trans (Same.alloc (w.alloc O) O' _))).cells)
        have hg1 := Lib.hid (show ∀ k, (Value.slice (some ⟨w.heap.size + 1, 0, none⟩) 0 0).ownBlock = some k → w.heap.size < k from fun k hk => own_base hm.out k hk)
        have bx := Lib.hid (fun j => cell_blk (heap_alloc_new w (.cells #[.string s, .slice none 0 0, .int .i64 0] 25)) j)
        go_wp2_with (at_builtin; refine wpList_append rfl _ _ 22 rfl Tryz.underlying22 info_u8 rfl (by decide) (v := .slice (some ⟨w.heap.size + 1, 0, none⟩) 0 0) (n := 0) (xs := []) rfl hm.out (A := BA) (m := bs.length) (c := bc) rfl (by simp) (hcB.out _ _) (byte_one _) (by omega) (by omega) (by simp) ?_; intro v2 w2 r1 r2 r3; rw [Nat.zero_add, List.nil_append] at r1; obtain ⟨VB, vd, rfl, _, _⟩ := own_form r1; obtain ⟨g1, g2⟩ := two_appends r2 hg1.out (r2 := none) ⟨rfl, rfl, rfl, Nat.le_refl _, fun _ _ _ => rfl⟩ (fun k hk => by cases hk); have q0 := (g1.cell (p := ⟨w.heap.size, 0, none⟩) (by simp)).trans (bx.out 0); have q1 := (g1.cell (p := ⟨w.heap.size, 1, none⟩) (by simp)).trans (bx.out 1); have q2 := (g1.cell (p := ⟨w.heap.size, 2, none⟩) (by simp)).trans (bx.out 2); have q3 := g1.frozen (p := ⟨w.heap.size, 1, none⟩) (by simp); have hr2 := Lib.hid r1; have hg2 := Lib.hid g2; clear r1 r2 r3 g1 g2)
        refine (append_put (ds := bs) h.out hr.out hl0.out hg2.out _ hr2.out rfl s 0).mono ?_
        rintro e2 w3 ⟨A1, m1, c1, rfl, q1⟩
        have q1 := Lib.hid q1
        go_wp2_with fail
        go_ret2
        rw [e.out]
        exact ⟨_, _, _, rfl, q1.out⟩
end Go.Proofs.YthnodmbenbiahaaGreatDoor
