/- Opening arguments: files. Plain facts. -/
import Derived.Test.YthnodmbenbiahaaDoorOpenB
namespace Go.Proofs.YthnodmbenbiahaaDoor
open Go.RowKit Go.Maps

structure FileFit (x : FileD) : Prop where
  name : x.name.size ≤ maxLen
  data : x.data.length ≤ 140737488351232
  s1 : -9223372036854775808 ≤ x.safe
  s2 : x.safe ≤ 9223372036854775807
theorem filesC_inv : ∀ (l : List FileD) (us : List Value) (j : Nat) (c : Value), (filesC l us)[j]? = some c → ∃ i r x u, j = i * 3 + r ∧ l[i]? = some x ∧ us[i]? = some u ∧ (fileCells x u)[r]? = some c
  | [], us, j, c, h => by simp [filesC] at h
  | x :: l, [], j, c, h => by simp [filesC] at h
  | x :: l, u :: us, j, c, h => by
    rw [filesC] at h
    have hl : (fileCells x u).length = 3 := rfl
    rcases Nat.lt_or_ge j 3 with hj | hj
    · rw [List.getElem?_append_left (by omega)] at h
      exact ⟨0, j, x, u, by omega, rfl, rfl, h⟩
    · rw [List.getElem?_append_right (by omega), hl] at h
      obtain ⟨i, r, y, v, e, e1, e2, e3⟩ := filesC_inv l us (j - 3) c h
      exact ⟨i + 1, r, y, v, by omega, e1, e2, e3⟩
section
variable {H : Type} {enc : TypeId × Value → H} {w : World} {base : Nat} {sp : Nat → Bool} {held : Bool} {fuel : Nat}
theorem file_cells {cs : List Value} {y : DataW H × List MemPlace} (hl : cs.length = 3) (h : DataW.trod enc Tryd.prog w base sp held fuel 33 cs = some y) (hwt : ∀ n ∈ y.1.weights Tryd.prog 33, n ≤ reachBytes) :
    ∃ (x : FileD) (u : Value), FileFit x ∧ cs = fileCells x u ∧ Bytes w (fun b => b < w.heap.size) u x.data := by
  match cs, hl with
  | [c0, c1, c2], _ =>
    obtain ⟨n0, y0, h0, _⟩ := open_field Tryd.underlying33 h hwt 0 _ rfl
    obtain ⟨n1, y1, h1, w1⟩ := open_field Tryd.underlying33 h hwt 1 _ rfl
    obtain ⟨n2, y2, h2, _⟩ := open_field Tryd.underlying33 h hwt 2 _ rfl
    change DataW.trod enc Tryd.prog w base sp held n0 9 ((([c0, c1, c2] : List Value).drop 0).take (Tryd.prog.cellsOf 9)) = some y0 at h0
    change DataW.trod enc Tryd.prog w base sp held n1 22 ((([c0, c1, c2] : List Value).drop 1).take (Tryd.prog.cellsOf 22)) = some y1 at h1
    change DataW.trod enc Tryd.prog w base sp held n2 3 ((([c0, c1, c2] : List Value).drop 2).take (Tryd.prog.cellsOf 3)) = some y2 at h2
    rw [cells_int] at h2
    rw [cells_str] at h0
    rw [cells_bytes] at h1
    obtain ⟨a0, e0, _, s0⟩ := DataW.trod_string Tryd.underlying9 h0
    obtain ⟨v1, a1, e1, r1, q1⟩ := open_bytesR Tryd.underlying22 Tryd.underlying5 cells_u8 h1 w1
    obtain ⟨a2, e2, _, s2⟩ := DataW.trod_int Tryd.underlying3 h2
    simp at e0 e1 e2
    subst e0 e1 e2
    rw [bytes_u8] at q1
    have hr : reachBytes = 140737488351232 := rfl
    simp only [Lit.wf, Bool.and_eq_true, decide_eq_true_eq] at s2
    exact ⟨⟨a0, a1, a2⟩, _, ⟨s0, by simp only; omega, s2.1, s2.2⟩, rfl, r1⟩
theorem cells_file : Tryd.prog.cellsOf 33 = 3 := by kernel_rfl
theorem open_files {cs0 : List Value} {x : DataW H × List MemPlace} (h : DataW.trod enc Tryd.prog w base sp held fuel 30 cs0 = some x) (hwt : ∀ n ∈ x.1.weights Tryd.prog 30, n ≤ reachBytes) :
    ∃ v l, cs0 = [v] ∧ FilesRd w (fun b => b < w.heap.size) v l ∧ ∀ x ∈ l, FileFit x := by
  obtain ⟨A, len, cap, rfl, h1, h2, _, h3⟩ := open_elems Tryd.underlying30 cells_file (by decide) h hwt
  rcases h3 with rfl | ⟨b, o, rfl, hb, hel⟩
  · exact ⟨_, [], rfl, ⟨A, cap, [], rfl, h1, h2, rfl, Cells.empty _ _ _, fun i x u hx => by simp at hx⟩, fun x hx => by cases hx⟩
  · obtain ⟨l, hl, hq⟩ := list_of (Q := fun i (x : FileD × Value) => FileFit x.1 ∧ (∀ j u, (fileCells x.1 x.2)[j]? = some u → w.cell? ⟨b, o + i * 3 + j, none⟩ = some u) ∧ Bytes w (fun b => b < w.heap.size) x.2 x.1.data) len (fun i hi => by
      obtain ⟨cs, n, y, e1, e2, e3, e4⟩ := hel i hi
      obtain ⟨x, u, hx, rfl, r1⟩ := file_cells e1 e3 e4
      exact ⟨(x, u), hx, e2, r1⟩)
    subst hl
    refine ⟨_, l.map Prod.fst, rfl, ⟨some ⟨b, o, none⟩, cap, l.map Prod.snd, by simp, by simpa using h1, by simpa using h2, by simp, fun _ => ⟨b, o, rfl, hb, fun j u hj => ?_⟩, fun i x u hx hu => ?_⟩, fun x hx => ?_⟩
    · obtain ⟨i, r, x, v, rfl, e1, e2, e3⟩ := filesC_inv _ _ j u hj
      rw [List.getElem?_map] at e1 e2
      cases hi : l[i]? with
      | none => rw [hi] at e1; cases e1
      | some z =>
        rw [hi] at e1 e2
        simp only [Option.map_some, Option.some.injEq] at e1 e2
        subst e1 e2
        rw [← Nat.add_assoc]
        exact (hq i z hi).2.1 r u e3
    · rw [List.getElem?_map] at hx hu
      cases hi : l[i]? with
      | none => rw [hi] at hx; cases hx
      | some z =>
        rw [hi] at hx hu
        simp only [Option.map_some, Option.some.injEq] at hx hu
        subst hx hu
        exact (hq i z hi).2.2
    · obtain ⟨z, hz, rfl⟩ := List.mem_map.1 hx
      obtain ⟨i, hi⟩ := List.getElem?_of_mem hz
      exact (hq i z hi).1
end
end Go.Proofs.YthnodmbenbiahaaDoor
