/- What the rows over the tables use: the listed variables' cells; hard states as arguments. -/
import Derived.Test.YthnodmbenbiahaaGreatDoorRow
import Derived.Test.YthnodmbenbiahaaGreatDoorTabs
import Derived.Test.YthnodmbenbiahaaGreatDoorOpen
import Derived.Stop.LaidErr
namespace Go.Proofs.YthnodmbenbiahaaGreatDoor
open Go.RowKit Go.Maps

def knownZ : List Int := [0, 498536548, 997073096, 651767980, 1994146192, 1802195444, 1303535960, 1342533948, 3988292384, 4027552580, 3604390888, 3412177804, 2607071920, 2262029012, 2685067896, 3183342108]
theorem knownZ_at : ∀ i, i < 16 → knownZ.getD i 0 = ((crcTab.getD i 0 : Nat) : Int) := by
  have : ∀ i : Fin 16, knownZ.getD i.val 0 = ((crcTab.getD i.val 0 : Nat) : Int) := by decide
  exact fun i hi => this ⟨i, hi⟩
theorem tabs_of {W : World} {n1 n2 n3 n4 n5 : String} {d1 d2 d4 : DataW Unit} {r : List (String × DataW Unit)} (h : laidMet Tryz.prog ((n1, d1) :: (n2, d2) :: (n3, Lib.tabData .u64 Lib.pow10Tab) :: (n4, d4) :: (n5, Lib.tabData .u32 knownZ) :: r) W)
    (hg3 : Tryz.prog.globalNamed n3 = some 6) (hg5 : Tryz.prog.globalNamed n5 = some 1) : Tabs W := by
  have h3 := Lib.tabIs_of_head hg3 (by kernel_rfl) Tryz.underlying300 Tryz.underlying35 (by kernel_rfl) (by kernel_rfl) h.tail.tail
  have h5 := Lib.tabIs_of_head hg5 (by kernel_rfl) Tryz.underlying278 Tryz.underlying232 (by kernel_rfl) (by kernel_rfl) h.tail.tail.tail.tail
  refine ⟨fun i hi => ?_, Pow10.of_tab hg3 h3⟩
  rw [h5.cell hg5 i hi, knownZ_at i hi]
section
variable {H : Type} {enc : TypeId × Value → H} {w : World} {base : Nat} {sp : Nat → Bool} {held : Bool} {fuel : Nat}
theorem cells_u64 : Tryz.prog.cellsOf 35 = 1 := by kernel_rfl
theorem cells_hard : Tryz.prog.cellsOf 49 = 3 := by kernel_rfl
/-- A hard state's cells. -/
theorem hard_cells {cs : List Value} {y : DataW H × List MemPlace} (hl : cs.length = 3) (h : DataW.trod enc Tryz.prog w base sp held fuel 49 cs = some y) (hwt : ∀ n ∈ y.1.weights Tryz.prog 49, n ≤ reachBytes) :
    ∃ x : HardD, HardFit x ∧ cs = [.int .u64 x.term, .int .i64 x.vote, .int .u64 x.commit] := by
  match cs, hl with
  | [c0, c1, c2], _ =>
    obtain ⟨n0, y0, h0, _⟩ := open_field Tryz.underlying49 h hwt 0 _ rfl
    obtain ⟨n1, y1, h1, _⟩ := open_field Tryz.underlying49 h hwt 1 _ rfl
    obtain ⟨n2, y2, h2, _⟩ := open_field Tryz.underlying49 h hwt 2 _ rfl
    change DataW.trod enc Tryz.prog w base sp held n0 35 ((([c0, c1, c2] : List Value).drop 0).take (Tryz.prog.cellsOf 35)) = some y0 at h0
    change DataW.trod enc Tryz.prog w base sp held n1 3 ((([c0, c1, c2] : List Value).drop 1).take (Tryz.prog.cellsOf 3)) = some y1 at h1
    change DataW.trod enc Tryz.prog w base sp held n2 35 ((([c0, c1, c2] : List Value).drop 2).take (Tryz.prog.cellsOf 35)) = some y2 at h2
    rw [cells_u64] at h0 h2
    rw [cells_int] at h1
    obtain ⟨a0, e0, _, s0⟩ := DataW.trod_int Tryz.underlying35 h0
    obtain ⟨a1, e1, _, s1⟩ := DataW.trod_int Tryz.underlying3 h1
    obtain ⟨a2, e2, _, s2⟩ := DataW.trod_int Tryz.underlying35 h2
    simp at e0 e1 e2
    subst e0 e1 e2
    simp only [Lit.wf, Bool.and_eq_true, decide_eq_true_eq] at s0 s1 s2
    have mx : IntKind.u64.max = 18446744073709551615 := by decide
    obtain ⟨t, rfl⟩ := Int.eq_ofNat_of_zero_le s0.1
    obtain ⟨c, rfl⟩ := Int.eq_ofNat_of_zero_le s2.1
    exact ⟨⟨t, a1, c⟩, ⟨by have := s0.2; rw [mx] at this; simp only; omega, s1.1, s1.2, by have := s2.2; rw [mx] at this; simp only; omega⟩, rfl⟩
end
end Go.Proofs.YthnodmbenbiahaaGreatDoor
