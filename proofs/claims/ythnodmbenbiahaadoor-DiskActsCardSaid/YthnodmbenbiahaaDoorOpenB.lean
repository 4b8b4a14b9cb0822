/- Opening arguments: acts, and files. Plain facts. -/
import Derived.Test.YthnodmbenbiahaaDoorOpen
import Derived.Test.YthnodmbenbiahaaDoorActs
namespace Go.Proofs.YthnodmbenbiahaaDoor
open Go.RowKit Go.Maps
section
variable {H : Type} {enc : TypeId × Value → H} {w : World} {base : Nat} {sp : Nat → Bool} {held : Bool} {fuel : Nat}
theorem cells_int : Tryd.prog.cellsOf 3 = 1 := by kernel_rfl
theorem cells_str : Tryd.prog.cellsOf 9 = 1 := by kernel_rfl
theorem cells_bytes : Tryd.prog.cellsOf 22 = 1 := by kernel_rfl
theorem cells_ints : Tryd.prog.cellsOf 36 = 1 := by kernel_rfl
theorem cells_u8 : Tryd.prog.cellsOf 5 = 1 := by kernel_rfl
theorem bytes_u8 : Tryd.prog.bytesOf 5 = 1 := by kernel_rfl
theorem bytes_int : Tryd.prog.bytesOf 3 = 8 := by kernel_rfl
/-- An act's cells. -/
theorem act_cells {cs : List Value} {y : DataW H × List MemPlace} (hl : cs.length = 6) (h : DataW.trod enc Tryd.prog w base sp held fuel 41 cs = some y) (hwt : ∀ n ∈ y.1.weights Tryd.prog 41, n ≤ reachBytes) :
    ∃ (x : ActD) (B : Option Addr) (d : Nat) (C : Option Addr) (e : Nat), ActFit x ∧ cs = [.int .i64 x.act, .string x.name, .string x.dst, .slice B x.b.length d, .int .i64 x.n, .slice C x.cuts.length e] ∧ Bytes w (fun b => b < w.heap.size) (.slice B x.b.length d) x.b ∧ Ints w (fun b => b < w.heap.size) (.slice C x.cuts.length e) x.cuts := by
  match cs, hl with
  | [c0, c1, c2, c3, c4, c5], _ =>
    obtain ⟨n0, y0, h0, _⟩ := open_field Tryd.underlying41 h hwt 0 _ rfl
    obtain ⟨n1, y1, h1, _⟩ := open_field Tryd.underlying41 h hwt 1 _ rfl
    obtain ⟨n2, y2, h2, _⟩ := open_field Tryd.underlying41 h hwt 2 _ rfl
    obtain ⟨n3, y3, h3, w3⟩ := open_field Tryd.underlying41 h hwt 3 _ rfl
    obtain ⟨n4, y4, h4, _⟩ := open_field Tryd.underlying41 h hwt 4 _ rfl
    obtain ⟨n5, y5, h5, w5⟩ := open_field Tryd.underlying41 h hwt 5 _ rfl
    change DataW.trod enc Tryd.prog w base sp held n0 3 ((([c0, c1, c2, c3, c4, c5] : List Value).drop 0).take (Tryd.prog.cellsOf 3)) = some y0 at h0
    change DataW.trod enc Tryd.prog w base sp held n1 9 ((([c0, c1, c2, c3, c4, c5] : List Value).drop 1).take (Tryd.prog.cellsOf 9)) = some y1 at h1
    change DataW.trod enc Tryd.prog w base sp held n2 9 ((([c0, c1, c2, c3, c4, c5] : List Value).drop 2).take (Tryd.prog.cellsOf 9)) = some y2 at h2
    change DataW.trod enc Tryd.prog w base sp held n3 22 ((([c0, c1, c2, c3, c4, c5] : List Value).drop 3).take (Tryd.prog.cellsOf 22)) = some y3 at h3
    change DataW.trod enc Tryd.prog w base sp held n4 3 ((([c0, c1, c2, c3, c4, c5] : List Value).drop 4).take (Tryd.prog.cellsOf 3)) = some y4 at h4
    change DataW.trod enc Tryd.prog w base sp held n5 36 ((([c0, c1, c2, c3, c4, c5] : List Value).drop 5).take (Tryd.prog.cellsOf 36)) = some y5 at h5
    rw [cells_int] at h0 h4
    rw [cells_str] at h1 h2
    rw [cells_bytes] at h3
    rw [cells_ints] at h5
    obtain ⟨a0, e0, _, _⟩ := DataW.trod_int Tryd.underlying3 h0
    obtain ⟨a1, e1, _, s1⟩ := DataW.trod_string Tryd.underlying9 h1
    obtain ⟨a2, e2, _, s2⟩ := DataW.trod_string Tryd.underlying9 h2
    obtain ⟨v3, a3, e3, r3, q3⟩ := open_bytesR Tryd.underlying22 Tryd.underlying5 cells_u8 h3 w3
    obtain ⟨a4, e4, _, s4⟩ := DataW.trod_int Tryd.underlying3 h4
    obtain ⟨v5, a5, e5, r5, q5, m5⟩ := open_nums Tryd.underlying36 Tryd.underlying3 cells_int h5 w5
    simp at e0 e1 e2 e3 e4 e5
    subst e0 e1 e2 e3 e4 e5
    obtain ⟨B, d, rfl, _⟩ := r3.form
    obtain ⟨C, e, rfl, _⟩ := r5.form
    rw [bytes_u8] at q3
    rw [bytes_int] at m5
    have hr : reachBytes = 140737488351232 := rfl
    refine ⟨⟨a0, a1, a2, a3, a4, a5⟩, B, d, C, e, ⟨⟨s1, s2, ?_, ?_, ?_⟩, by simp only; omega, by simp only; omega⟩, rfl, r3, r5⟩
    · simp only [Lit.wf, Bool.and_eq_true, decide_eq_true_eq] at s4
      exact s4.1
    · simp only [Lit.wf, Bool.and_eq_true, decide_eq_true_eq] at s4
      exact s4.2
    · intro c hc
      have := q5 c hc
      simp only [Lit.wf, Bool.and_eq_true, decide_eq_true_eq] at this
      exact this
theorem cells_act : Tryd.prog.cellsOf 41 = 6 := by kernel_rfl
theorem open_acts {cs0 : List Value} {x : DataW H × List MemPlace} (h : DataW.trod enc Tryd.prog w base sp held fuel 35 cs0 = some x) (hwt : ∀ n ∈ x.1.weights Tryd.prog 35, n ≤ reachBytes) :
    ∃ v l, cs0 = [v] ∧ ActsRd w (fun b => b < w.heap.size) v l := by
  obtain ⟨A, len, cap, rfl, h1, h2, _, h3⟩ := open_elems Tryd.underlying35 cells_act (by decide) h hwt
  rcases h3 with rfl | ⟨b, o, rfl, hb, hel⟩
  · exact ⟨_, [], rfl, A, cap, rfl, h1, h2, (fun x hx => by cases hx), fun i x hx => by simp at hx⟩
  · obtain ⟨l, hl, hq⟩ := list_of (Q := fun i (x : ActD) => ActFit x ∧ ∃ B d C e, w.cell? ⟨b, o + i * 6, none⟩ = some (.int .i64 x.act) ∧ w.cell? ⟨b, o + i * 6 + 1, none⟩ = some (.string x.name) ∧ w.cell? ⟨b, o + i * 6 + 2, none⟩ = some (.string x.dst) ∧ w.cell? ⟨b, o + i * 6 + 3, none⟩ = some (.slice B x.b.length d) ∧ w.cell? ⟨b, o + i * 6 + 4, none⟩ = some (.int .i64 x.n) ∧ w.cell? ⟨b, o + i * 6 + 5, none⟩ = some (.slice C x.cuts.length e) ∧ Bytes w (fun b => b < w.heap.size) (.slice B x.b.length d) x.b ∧ Ints w (fun b => b < w.heap.size) (.slice C x.cuts.length e) x.cuts) len (fun i hi => by
      obtain ⟨cs, n, y, e1, e2, e3, e4⟩ := hel i hi
      obtain ⟨x, B, d, C, e, hx, rfl, r1, r2⟩ := act_cells e1 e3 e4
      exact ⟨x, hx, B, d, C, e, e2 0 _ rfl, e2 1 _ rfl, e2 2 _ rfl, e2 3 _ rfl, e2 4 _ rfl, e2 5 _ rfl, r1, r2⟩)
    subst hl
    refine ⟨_, l, rfl, some ⟨b, o, none⟩, cap, rfl, h1, h2, fun x hx => ?_, fun i x hx => ?_⟩
    · obtain ⟨i, hi⟩ := List.getElem?_of_mem hx
      exact (hq i x hi).1
    · obtain ⟨_, B, d, C, e, r⟩ := hq i x hx
      exact ⟨b, o, B, d, C, e, rfl, hb, r⟩
end
end Go.Proofs.YthnodmbenbiahaaDoor
