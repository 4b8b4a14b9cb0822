/- The document's answer for disks (package gudgeonref05), walked: place, out, Read. What a made list of files is. -/
import Derived.Test.YthnodmbenbiahaaGreatDoorFiles
import Derived.Test.YthnodmbenbiahaaGreatDoorOps
import Derived.Laws.Cover1
namespace Go.Proofs.YthnodmbenbiahaaGreatDoor
open Go.RowKit Go.Maps

/-! ### names compared -/
theorem toList_eq (a : ByteArray) : a.toList = a.data.toList := ByteArray.toList_eq a
theorem eq_str (a b : ByteArray) : (a.toList == b.toList) = decide (a = b) := by
  rw [toList_eq, toList_eq, Bool.eq_iff_iff]
  simp only [beq_iff_eq, decide_eq_true_eq]
  exact ⟨bytes_ext, fun e => by rw [e]⟩
theorem eq_yes {a b : ByteArray} (h : a = b) : (a.toList == b.toList) = true := by rw [eq_str]; simpa using h
theorem eq_no {a b : ByteArray} (h : a ≠ b) : (a.toList == b.toList) = false := by rw [eq_str]; simpa using h
theorem less_list : ∀ a b : List UInt8, Op.bytesLess a b = decide (a < b)
  | _, [] => by simp [Op.bytesLess]
  | [], _ :: _ => by simp [Op.bytesLess]
  | x :: a, y :: b => by
    rw [Op.bytesLess, less_list a b, Bool.eq_iff_iff]
    simp only [Bool.or_eq_true, decide_eq_true_eq, Bool.and_eq_true, beq_iff_eq, List.cons_lt_cons_iff]
theorem less_str (a b : ByteArray) : Op.bytesLess a.toList b.toList = decide (nlt a b) := by
  rw [toList_eq, toList_eq, less_list]
  rfl
theorem less_yes {a b : ByteArray} (h : nlt a b) : Op.bytesLess a.toList b.toList = true := by rw [less_str]; simpa using h
theorem less_no {a b : ByteArray} (h : ¬ nlt a b) : Op.bytesLess a.toList b.toList = false := by rw [less_str]; simpa using h

/-! ### a list of files that a call made, over bytes that were there -/
def FilesMix (w : World) (base : Nat) (ok : Nat → Prop) (v : Value) (l : List FileD) (us : List Value) : Prop :=
  us.length = l.length ∧ w.ownsRow base 25 3 v l.length (filesC l us) ∧ ∀ (i : Nat) x u, l[i]? = some x → us[i]? = some u → Bytes w ok u x.data
theorem FilesMix.rd {w : World} {base : Nat} {ok : Nat → Prop} {v : Value} {l : List FileD} {us : List Value} (h : FilesMix w base ok v l us) : FilesRd w (fun k => ok k ∨ base ≤ k) v l := by
  obtain ⟨h1, h2, h3⟩ := h
  obtain ⟨A, c, e, r1, r2, r3⟩ := own_form h2
  exact ⟨A, c, us, e, r1, r2, h1, r3.mono (fun k hk _ => .inr (own_base h2 k hk)), fun i x u hx hu => (h3 i x u hx hu).mono (fun k hk _ => .inl hk)⟩
theorem FilesMix.snoc {w w' : World} {base : Nat} {ok : Nat → Prop} {v v' : Value} {l : List FileD} {us : List Value} (h : FilesMix w base ok v l us) (x : FileD) {u : Value} (hs : Same w w' ok)
    (hv : w'.ownsRow base 25 3 v' (l.length + 1) (filesC l us ++ fileCells x u)) (hu : Bytes w' ok u x.data) : FilesMix w' base ok v' (l ++ [x]) (us ++ [u]) := by
  obtain ⟨h1, h2, h3⟩ := h
  refine ⟨by simp [h1], by rw [filesC_snoc l us x u h1]; simpa using hv, fun i y z hy hz => ?_⟩
  rcases Nat.lt_or_ge i l.length with hi | hi
  · rw [List.getElem?_append_left hi] at hy
    rw [List.getElem?_append_left (by omega)] at hz
    exact (h3 i y z hy hz).step hs
  · rw [List.getElem?_append_right hi] at hy
    rw [List.getElem?_append_right (by omega)] at hz
    have h0 : i - l.length = 0 := by
      have := (List.getElem?_eq_some_iff.1 hy).1
      simp at this
      omega
    rw [h0] at hy
    rw [show i - us.length = 0 from by omega] at hz
    simp at hy hz
    subst hy hz
    exact hu
theorem FilesMix.step {w w' : World} {base : Nat} {ok : Nat → Prop} {v : Value} {l : List FileD} {us : List Value} (h : FilesMix w base ok v l us) (hs : Same w w' (fun k => ok k ∨ base ≤ k)) : FilesMix w' base ok v l us :=
  ⟨h.1, own_step h.2.1 hs (fun k hk => .inr (own_base h.2.1 k hk)), fun i x u hx hu => (h.2.2 i x u hx hu).step (hs.mono (fun _ hk => .inl hk))⟩

/-! ### place -/
set_option maxHeartbeats 400000 in
theorem place_any {w : World} {ok : Nat → Prop} {v : Value} {l : List FileD} (h : FilesRd w ok v l) (s : ByteArray) (hl : l.length ≤ 1000) :
    Calls Tryz.prog 90 #[v, .string s] w fun e w' => ((∃ i : Nat, ∃ hi : i < l.length, e = .returned (.int .i64 i) ∧ l[i].name = s) ∨ (e = .returned (.int .i64 (-1)) ∧ ∀ x ∈ l, x.name ≠ s)) ∧ w = w' := by
  obtain ⟨A, c, rfl, hc, _⟩ := h.form
  have h := Lib.hid h
  go_enter Tryz.func90, Tryz.ntmps90
  go_wp2_with fail
  go_loopw [5] (fun i wr => ∃ k : Nat, k ≤ l.length ∧ i = .int .i64 k ∧ Hid (∀ x ∈ l.take k, x.name ≠ s) ∧ wr = w) (fun i _ => l.length - (intOf i).toNat)
  case atStart => exact ⟨0, Nat.zero_le _, rfl, Lib.hid (fun x hx => by simp at hx), by first | trivial | rfl⟩
  case round =>
    obtain ⟨k, hk, rfl, hno, rfl⟩ := hrel
    by_cases hlt : k < l.length
    · obtain ⟨b, o, B, d, rfl, hb, c0, _⟩ := h.out.get k hlt
      have i1 : (k : Int) < l.length := by omega
      by_cases hn : (l[k]).name = s
      · have q := eq_yes hn
        go_wp2_with fail
        go_ret
        exact ⟨.inl ⟨k, hlt, rfl, hn⟩, rfl⟩
      · have q := eq_no hn
        go_wp2_with fail
        go_roundw
        case measure => simp [intOf]; omega
        case rel =>
          refine ⟨k + 1, by omega, by go_num, Lib.hid (fun x hx => ?_), by first | trivial | rfl⟩
          rw [List.take_succ_eq_append_getElem hlt] at hx
          rcases List.mem_append.1 hx with hx | hx
          · exact hno.out x hx
          · simp at hx; subst hx; exact hn
    · obtain rfl : k = l.length := by omega
      clear hlt
      go_wp2_with fail
      go_ret
      refine ⟨.inr ⟨rfl, ?_⟩, rfl⟩
      rw [List.take_length] at hno
      exact hno.out
/-- The same, told by what is found. -/
theorem place_at {w : World} {ok : Nat → Prop} {v : Value} {l : List FileD} (h : FilesRd w ok v l) (hr : Rising FileD.name l) (s : ByteArray) (hl : l.length ≤ 1000) :
    Calls Tryz.prog 90 #[v, .string s] w fun e w' => ((∃ i : Nat, ∃ hi : i < l.length, e = .returned (.int .i64 i) ∧ fFind l s = some l[i] ∧ l[i].name = s) ∨ (e = .returned (.int .i64 (-1)) ∧ fFind l s = none)) ∧ w = w' := by
  refine (place_any h s hl).mono ?_
  rintro e w' ⟨h1, h2⟩
  refine ⟨?_, h2⟩
  rcases h1 with ⟨i, hi, he, hn⟩ | ⟨he, hn⟩
  · exact .inl ⟨i, hi, he, by have := lfind_of_mem hr (List.getElem_mem hi); rw [hn] at this; exact this, hn⟩
  · exact .inr ⟨he, lfind_none_of hn⟩

set_option maxHeartbeats 400000 in
theorem rread_any {w : World} {ok : Nat → Prop} {v : Value} {l : List FileD} (h : FilesRd w ok v l) (hr : Rising FileD.name l) (s : ByteArray) (hl : l.length ≤ 1000) :
    Calls Tryz.prog 38 #[v, .string s] w fun e w' => ((∃ x A n c, fFind l s = some x ∧ e = .returned (.tuple #[.slice A n c, .bool true]) ∧ Bytes w ok (.slice A n c) x.data) ∨ (fFind l s = none ∧ e = .returned (.tuple #[.slice none 0 0, .bool false]))) ∧ w = w' := by
  obtain ⟨A, c, rfl, hc, _⟩ := h.form
  have hp := place_at h hr s hl
  have h := Lib.hid h
  go_enter Tryz.func38, Tryz.ntmps38
  go_wp2_with fail
  refine hp.mono ?_
  rintro e w' ⟨h1, rfl⟩
  rcases h1 with ⟨i, hi, rfl, hf, _⟩ | ⟨rfl, hf⟩
  · obtain ⟨b, o, B, d, rfl, hb, c0, c1, c2, _, hB⟩ := h.out.get i hi
    have i1 : (i : Int) < l.length := by omega
    have hB := Lib.hid hB
    have hf1 := Lib.hid hf
    clear hf
    go_wp2_with fail
    go_ret2
    exact ⟨.inl ⟨_, _, _, _, hf1.out, rfl, hB.out⟩, rfl⟩
  · have hf1 := Lib.hid hf
    clear hf
    go_wp2_with fail
    go_ret2
    exact ⟨.inr ⟨hf1.out, rfl⟩, rfl⟩

/-! ### out -/
set_option maxHeartbeats 1000000 in
theorem out_any {w : World} {ok : Nat → Prop} {v : Value} {l : List FileD} (h : FilesRd w ok v l) (s : ByteArray) (hl : l.length ≤ 1000) :
    Calls Tryz.prog 124 #[v, .string s] w fun e w' => ∃ v', e = .returned v' ∧ FilesRd w' (fun k => ok k ∨ w.heap.size ≤ k) v' (fDel l s) ∧ Below w.heap.size w w' := by
  obtain ⟨A, c, rfl, hc, _⟩ := h.form
  have h0 := Lib.hid (h.mono (ok' := fun k => ok k ∧ k < w.heap.size) (fun k h1 h2 => ⟨h1, h2⟩))
  clear h
  have hm := Lib.hid (World.ownsRow_made (base := w.heap.size) (size := 3) (e := 25) w #[] 0 (Nat.le_refl _) (Nat.zero_le _) rfl)
  have hB0 := Lib.hid ((Below.refl w.heap.size w).alloc (Nat.le_refl _) (.cells #[] 25))
  go_enter Tryz.func124, Tryz.ntmps124
  go_wp2_with fail
  go_loopw [5, 6] (fun o i wr => ∃ (k : Nat) (us : List Value), k ≤ l.length ∧ i = .int .i64 k ∧ FilesMix wr w.heap.size (fun k => ok k ∧ k < w.heap.size) o (fDel (l.take k) s) us ∧ Below w.heap.size w wr) (fun _ i _ => l.length - (intOf i).toNat)
  case atStart => exact ⟨0, [], Nat.zero_le _, rfl, ⟨rfl, by simpa [fDel, ldel, filesC] using hm.out, fun i x u h => by simp [fDel, ldel] at h⟩, hB0.out⟩
  case round =>
    obtain ⟨k, us, hk, rfl, hF, hB⟩ := hrel
    by_cases hlt : k < l.length
    · obtain ⟨b, o, B, d, rfl, hb, c0, c1, c2, _, hBy⟩ := (h0.out.step ((Same.of_below hB (fun _ => True)).mono (fun _ _ => trivial))).get k hlt
      have i1 : (k : Int) < l.length := by omega
      have htk : l.take (k + 1) = l.take k ++ [l[k]] := List.take_succ_eq_append_getElem hlt
      by_cases hn : (l[k]).name = s
      · have q := eq_yes hn
        have hF := Lib.hid hF
        go_wp2_with fail
        go_roundw
        case measure => simp [intOf]; omega
        case rel =>
          refine ⟨k + 1, us, by omega, by go_num, ?_, hB⟩
          have e : fDel (l.take (k + 1)) s = fDel (l.take k) s := by rw [htk]; unfold fDel ldel; rw [List.filter_append]; simp [hn]
          rw [e]
          exact hF.out
      · have q := eq_no hn
        have e : fDel (l.take (k + 1)) s = fDel (l.take k) s ++ [l[k]] := by rw [htk]; unfold fDel ldel; rw [List.filter_append]; simp [hn]
        have hLk : (fDel (l.take k) s).length ≤ k := by
          refine Nat.le_trans (List.length_filter_le _ _) ?_
          simp; omega
        obtain ⟨VA, vc, rfl, _, _⟩ := own_form hF.2.1
        generalize hL : fDel (l.take k) s = L at *
        generalize hx : l[k] = x at *
        have hr := Lib.hid hF.2.1
        have hF := Lib.hid hF
        have hBy := Lib.hid hBy
        have hsz := hB.size
        clear hL hx hn
        go_wp2_with (at_builtin; refine wpList_append rfl _ _ 26 (by rfl) Tryz.underlying26 info_File rfl (by decide) (v := .slice VA L.length vc) (n := L.length) rfl (hr.out.alloc _) (by rfl) (m := 1) (by rfl) (news := fileCells x (.slice B x.data.length d)) (Cells.of_blk (heap_alloc_new _ _)) (fileCells_one x (.slice B x.data.length d) rfl) (by omega) (by omega) (by simp; omega) ?_; intro v3 w3 s1 s2 s3)
        go_roundw
        case measure => simp [intOf]; omega
        case rel =>
          have t1 : Same wr w3 (fun k => ok k ∧ k < w.heap.size) := (Same.alloc _ _ _).trans (Same.of_grown s2 (fun b hb e => by have := own_base hr.out b e.symm; omega))
          refine ⟨k + 1, us ++ [.slice B x.data.length d], by omega, by go_num, ?_, ?_⟩
          · rw [e]
            exact hF.out.snoc x t1 s1 (hBy.out.step t1)
          · exact (hB.alloc (by omega) _).grown s2 (by simp; omega) (fun b hb => own_base hr.out b hb)
    · obtain rfl : k = l.length := by omega
      clear hlt
      have hF := Lib.hid hF
      go_wp2_with fail
      go_ret
      refine ⟨u5, rfl, ?_, hB⟩
      have := hF.out.rd
      rw [List.take_length] at this
      exact this.mono (fun k hk _ => hk.imp (fun h => h.1) id)
end Go.Proofs.YthnodmbenbiahaaGreatDoor
