/- The tables that the program reads; a number's digits (strconv.Itoa). -/
import Derived.Test.YthnodmbenbiahaaGreatDoorCrcW
import Derived.Test.YthnodmbenbiahaaGreatDoorShelfB
import Derived.Test.YthnodmbenbiahaaGreatDoorSave
import Derived.Lib.AppendIntMem
namespace Go.Proofs.YthnodmbenbiahaaGreatDoor
open Go.RowKit Go.Maps Go.Shelf

/-- The library's table of powers lies in memory. -/
def Pow10 (w : World) : Prop := ∃ e fr, w.heap[6]? = some (.cells (Lib.pow10Tab.map fun z => Value.int .u64 z).toArray e fr)
theorem Pow10.lt {w : World} (h : Pow10 w) : 6 < w.heap.size := by
  obtain ⟨e, fr, hb⟩ := h
  exact (Array.getElem?_eq_some_iff.1 hb).1
theorem Pow10.tab {w : World} (h : Pow10 w) {name : String} (hg : Tryz.prog.globalNamed name = some 6) : Lib.TabIs Tryz.prog w name .u64 Lib.pow10Tab := by
  obtain ⟨e, fr, hb⟩ := h
  unfold Lib.TabIs World.var?
  rw [hg]
  simp only [Option.bind_some]
  rw [hb]
theorem Pow10.of_tab {w : World} {name : String} (hg : Tryz.prog.globalNamed name = some 6) (h : Lib.TabIs Tryz.prog w name .u64 Lib.pow10Tab) : Pow10 w := by
  unfold Lib.TabIs World.var? at h
  rw [hg] at h
  simp only [Option.bind_some] at h
  split at h
  · rename_i cs e fr hb
    simp only [Option.some.injEq] at h
    subst h
    exact ⟨e, fr, hb⟩
  · cases h
/-- Both tables. -/
structure Tabs (w : World) : Prop where
  known : Known w
  pow : Pow10 w
theorem Tabs.same {w w' : World} {ok : Nat → Prop} (h : Tabs w) (hs : Same w w' ok) (h1 : ok 1) (h2 : ok 6) : Tabs w' := by
  refine ⟨fun i hi => hs.cell (a := ⟨1, i, none⟩) h1 (h.known i hi), ?_⟩
  obtain ⟨e, fr, hb⟩ := h.pow
  exact ⟨e, fr, hs.blk h2 hb⟩
theorem Tabs.below {w w' : World} (h : Tabs w) (hb : Below w.heap.size w w') : Tabs w' := h.same (Same.of_below hb (fun _ => True)) trivial trivial
theorem Tabs.kept {w w' : World} {S : Nat → Prop} (h : Tabs w) (hk : Kept w w' S) (h1 : ¬ S 1) (h2 : ¬ S 6) : Tabs w' := h.same (hk.part (ok := fun k => ¬ S k) (fun _ h => h)) h1 h2

theorem itoa_any {w : World} (h : Tabs w) (n : Int) (h0 : -9223372036854775808 ≤ n) (h1 : n ≤ 9223372036854775807) :
    Calls Tryz.prog 118 #[.int .i64 n] w fun e w' => e = .returned (.string (strOf (Lib.itoa n))) ∧ Below w.heap.size w w' := by
  have hc := Any.strconv_Itoa Tryz.lays171 n h0 h1 w (h.pow.tab (by kernel_rfl))
  change Calls Tryz.prog 118 _ _ _ at hc
  refine hc.mono ?_
  rintro e w' ⟨rfl, k, os, rfl⟩
  exact ⟨rfl, Lib.below_grow _ _ (Nat.le_refl _) _ _⟩
end Go.Proofs.YthnodmbenbiahaaGreatDoor
