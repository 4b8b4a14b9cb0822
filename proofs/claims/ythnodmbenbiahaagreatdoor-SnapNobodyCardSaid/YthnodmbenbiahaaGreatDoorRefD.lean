/- The document's answer for disks (package gudgeonref05), walked: Sync, Cut, Rename, Remove, Append. -/
import Derived.Test.YthnodmbenbiahaaGreatDoorRefC
import Derived.Test.YthnodmbenbiahaaGreatDoorDiskD
namespace Go.Proofs.YthnodmbenbiahaaGreatDoor
open Go.RowKit Go.Maps

/-- What a call of the document's answer leaves, begun in w: files in blocks that were there, or new ones. -/
def RefOut (w w' : World) (ok : Nat → Prop) (v : Value) (l : List FileD) : Prop := FilesRd w' (fun k => ok k ∨ w.heap.size ≤ k) v l ∧ Below w.heap.size w w'
theorem RefOut.none {w : World} {ok : Nat → Prop} {v : Value} {l : List FileD} (h : FilesRd w ok v l) : RefOut w w ok v l := ⟨h.mono (fun _ hk _ => .inl hk), Below.refl _ _⟩

theorem RefOut.of_put {w w1 : World} {o : Obj} {ok : Nat → Prop} {v : Value} {l : List FileD} (q1 : FilesRd w1 (fun k => ok k ∨ (w.alloc o).heap.size ≤ k) v l) (q2 : Below (w.alloc o).heap.size (w.alloc o) w1) : RefOut w w1 ok v l := by
  refine ⟨q1.mono (fun k hk _ => hk.imp id (fun h => by simp at h; omega)), ((Below.refl _ _).alloc (Nat.le_refl _) o).trans (q2.mono (by simp))⟩

set_option maxHeartbeats 1000000 in
theorem rremove_any {w : World} {ok : Nat → Prop} {v : Value} {l : List FileD} (h : FilesRd w ok v l) (hr : Rising FileD.name l) (hl : l.length ≤ 1000) (s : ByteArray) :
    Calls Tryz.prog 104 #[v, .string s] w fun e w' => ∃ A n c, e = .returned (.tuple #[.slice A n c, .int .i64 (pRemove l s).2]) ∧ RefOut w w' ok (.slice A n c) (pRemove l s).1 := by
  obtain ⟨A, c, rfl, hc, _⟩ := h.form
  have hp := place_at h hr s hl
  have ho := out_any h s hl
  have h := Lib.hid h
  have e1 : ∀ x, fFind l s = some x → pRemove l s = (fDel l s, 0) := fun x hx => by unfold pRemove; rw [hx]
  have e2 : fFind l s = none → pRemove l s = (l, 4) := fun hx => by unfold pRemove; rw [hx]
  have e1 := Lib.hid e1
  have e2 := Lib.hid e2
  go_enter Tryz.func104, Tryz.ntmps104
  go_wp2_with fail
  refine hp.mono ?_
  rintro e w' ⟨h1, rfl⟩
  rcases h1 with ⟨i, hi, rfl, hf, _⟩ | ⟨rfl, hf⟩
  · have e := Lib.hid (e1.out _ hf)
    clear hf
    go_wp2_with fail
    refine ho.mono ?_
    rintro e w1 ⟨v1, rfl, q1, q2⟩
    obtain ⟨A1, c1, rfl, _, _⟩ := q1.form
    have q1 := Lib.hid q1
    go_wp2_with fail
    go_ret2
    rw [e.out]
    exact ⟨_, _, _, rfl, q1.out, q2⟩
  · have e := Lib.hid (e2.out hf)
    clear hf
    go_wp2_with fail
    go_ret2
    rw [e.out]
    exact ⟨_, _, _, rfl, RefOut.none h.out⟩

set_option maxHeartbeats 1000000 in
theorem rsync_any {w : World} {ok : Nat → Prop} {v : Value} {l : List FileD} (h : FilesRd w ok v l) (hr : Rising FileD.name l) (hl : l.length ≤ 1000) (s : ByteArray) :
    Calls Tryz.prog 73 #[v, .string s] w fun e w' => ∃ A n c, e = .returned (.tuple #[.slice A n c, .int .i64 (pSync l s).2]) ∧ RefOut w w' ok (.slice A n c) (pSync l s).1 := by
  obtain ⟨A, c, rfl, hc, _⟩ := h.form
  have hp := place_at h hr s hl
  have h := Lib.hid h
  have e1 : ∀ x, fFind l s = some x → pSync l s = (fPut l { x with safe := x.data.length }, 0) := fun x hx => by unfold pSync; rw [hx]
  have e2 : fFind l s = none → pSync l s = (l, 4) := fun hx => by unfold pSync; rw [hx]
  have e1 := Lib.hid e1
  have e2 := Lib.hid e2
  have hr := Lib.hid hr
  go_enter Tryz.func73, Tryz.ntmps73
  go_wp2_with fail
  refine hp.mono ?_
  rintro e w' ⟨h1, rfl⟩
  rcases h1 with ⟨i, hi, rfl, hf, hn⟩ | ⟨rfl, hf⟩
  · have e := Lib.hid (e1.out _ hf)
    obtain ⟨b, o, B, d, rfl, hb, c0, c1, c2, _, hB⟩ := h.out.get i hi
    have i1 : (i : Int) < l.length := by omega
    generalize l[i] = x at *
    obtain ⟨xn, xd, xs⟩ := x
    simp only at hn c0 c1 c2 hB e
    subst hn
    have hB := Lib.hid hB
    clear hf
    go_wp2_with fail
    refine (put_any (h.out.step (Same.alloc w _ _)) hr.out hl ⟨xn, xd, xd.length⟩ (hB.out.step (Same.alloc w _ _))).mono ?_
    rintro e2 w1 ⟨v1, rfl, q1, q2⟩
    obtain ⟨A1, c1, rfl, _, _⟩ := q1.form
    have q1 := Lib.hid q1
    go_wp2_with fail
    go_ret2
    rw [e.out]
    exact ⟨_, _, _, rfl, RefOut.of_put q1.out q2⟩
  · have e := Lib.hid (e2.out hf)
    clear hf
    go_wp2_with fail
    go_ret2
    rw [e.out]
    exact ⟨_, _, _, rfl, RefOut.none h.out⟩

set_option maxRecDepth 100000 in
set_option maxHeartbeats 1000000 in
theorem rcut_any {w : World} {ok : Nat → Prop} {v : Value} {l : List FileD} (h : FilesRd w ok v l) (hr : Rising FileD.name l) (hl : l.length ≤ 1000) (hz : ∀ x ∈ l, x.data.length ≤ 65536 ∧ 0 ≤ x.safe ∧ x.safe ≤ x.data.length) (s : ByteArray) (n : Int) :
    Calls Tryz.prog 70 #[v, .string s, .int .i64 n] w fun e w' => ∃ A m c, e = .returned (.tuple #[.slice A m c, .int .i64 (pCut l s n).2]) ∧ RefOut w w' ok (.slice A m c) (pCut l s n).1 := by
  obtain ⟨A, c, rfl, hc, _⟩ := h.form
  have hp := place_at h hr s hl
  have h := Lib.hid h
  have e1 : ∀ x, fFind l s = some x → (n < 0 ∨ (x.data.length : Int) < n) → pCut l s n = (l, 1) := fun x hx hn => by unfold pCut; rw [hx]; simp only; rw [if_pos hn]
  have e3 : ∀ x, fFind l s = some x → ¬ (n < 0 ∨ (x.data.length : Int) < n) → pCut l s n = (fPut l { x with data := x.data.take n.toNat, safe := min x.safe n }, 0) := fun x hx hn => by unfold pCut; rw [hx]; simp only; rw [if_neg hn]
  have e2 : fFind l s = none → pCut l s n = (l, 4) := fun hx => by unfold pCut; rw [hx]
  have e1 := Lib.hid e1
  have e2 := Lib.hid e2
  have e3 := Lib.hid e3
  have hr := Lib.hid hr
  have hz := Lib.hid hz
  go_enter Tryz.func70, Tryz.ntmps70
  go_wp2_with fail
  refine hp.mono ?_
  rintro e w' ⟨h1, rfl⟩
  rcases h1 with ⟨i, hi, rfl, hf, hn⟩ | ⟨rfl, hf⟩
  · have e1 := Lib.hid (e1.out _ hf)
    have e3 := Lib.hid (e3.out _ hf)
    obtain ⟨b, o, B, d, rfl, hb, c0, c1, c2, hd, hB⟩ := h.out.get i hi
    obtain ⟨hz1, hz2, hz3⟩ := hz.out _ (List.getElem_mem hi)
    have i1 : (i : Int) < l.length := by omega
    generalize l[i] = x at *
    obtain ⟨xn, xd, xs⟩ := x
    simp only at hn c0 c1 c2 hB e1 e3 hz1 hz2 hz3 hd
    subst hn
    have hB := Lib.hid hB
    clear hf
    by_cases hbad : n < 0 ∨ (xd.length : Int) < n
    · have e := Lib.hid (e1.out hbad)
      go_wp2_with fail
      all_goals go_ret2
      all_goals rw [e.out]
      all_goals exact ⟨_, _, _, rfl, RefOut.none (h.out.step (Same.alloc w _ _)) |> fun q => ⟨q.1.mono (fun k hk _ => hk.imp id (fun h => by simp at h; omega)), (Below.refl _ _).alloc (Nat.le_refl _) _⟩⟩
    · have e := Lib.hid (e3.out hbad)
      obtain ⟨m, rfl⟩ : ∃ m : Nat, n = m := ⟨n.toNat, by omega⟩
      have hm : m ≤ xd.length := by omega
      have ht := Lib.hid (hB.out.take m hm)
      have j1 : (0 : Int) ≤ m := by omega
      have j2 : (m : Int) ≤ d := by omega
      have j3 : (m : Int) ≤ xd.length := by omega
      have j4 : m ≤ d := by omega
      clear e1 e3 hbad
      by_cases hms : xs > (m : Int)
      · have hmin : min xs (m : Int) = m := by omega
        go_wp2_with fail
        refine (put_any (h.out.step (Same.alloc w _ _)) hr.out hl ⟨xn, xd.take m, m⟩ (ht.out.step (Same.alloc w _ _))).mono ?_
        rintro e2 w1 ⟨v1, rfl, q1, q2⟩
        obtain ⟨A1, c1, rfl, _, _⟩ := q1.form
        have q1 := Lib.hid q1
        go_wp2_with fail
        go_ret2
        rw [e.out, hmin]
        exact ⟨_, _, _, rfl, RefOut.of_put q1.out q2⟩
      · have hmin : min xs (m : Int) = xs := by omega
        go_wp2_with fail
        refine (put_any (h.out.step (Same.alloc w _ _)) hr.out hl ⟨xn, xd.take m, xs⟩ (ht.out.step (Same.alloc w _ _))).mono ?_
        rintro e2 w1 ⟨v1, rfl, q1, q2⟩
        obtain ⟨A1, c1, rfl, _, _⟩ := q1.form
        have q1 := Lib.hid q1
        go_wp2_with fail
        go_ret2
        rw [e.out, hmin]
        exact ⟨_, _, _, rfl, RefOut.of_put q1.out q2⟩
  · have e := Lib.hid (e2.out hf)
    clear hf
    go_wp2_with fail
    go_ret2
    rw [e.out]
    exact ⟨_, _, _, rfl, RefOut.none h.out⟩
end Go.Proofs.YthnodmbenbiahaaGreatDoor
