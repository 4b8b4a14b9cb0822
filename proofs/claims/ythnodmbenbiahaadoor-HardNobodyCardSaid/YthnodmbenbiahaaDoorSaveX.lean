/- The program's layer 7 (hard): Save, where it refuses. -/
import Derived.Test.YthnodmbenbiahaaDoorHardC
namespace Go.Proofs.YthnodmbenbiahaaDoor
open Go.RowKit Go.Maps

set_option maxRecDepth 100000 in
set_option maxHeartbeats 1000000 in
theorem hsave_bad {w : World} (hT : Tabs w) {v : Value} (g : Int) {S : ByteArray} {b : Bool} (hn : ∀ W, Below w.heap.size w W → Calls Tryd.prog 47 #[v, .int .i64 g] W fun e w' => e = .returned (.tuple #[.string S, .bool b]) ∧ Below W.heap.size W w') (h : HardD) (hf : HardFit h) (hb : b = false ∨ hMay h = false) :
    Calls Tryd.prog 30 #[v, .int .i64 g, .agg #[.int .u64 h.term, .int .i64 h.vote, .int .u64 h.commit]] w fun e w' => e = .returned (.int .i64 1) ∧ Below w.heap.size w w' := by
  generalize hO : (Obj.cells #[.int .u64 (h.term : Int), .int .i64 h.vote, .int .u64 (h.commit : Int)] 64) = O
  have bx : (w.alloc O).heap[w.heap.size]? = some (.cells #[.int .u64 (h.term : Int), .int .i64 h.vote, .int .u64 (h.commit : Int)] 64) := by rw [← hO]; exact heap_alloc_new w _
  have hb0 := ((Below.refl w.heap.size w).alloc (Nat.le_refl _) O)
  have hT0 := hT.below hb0
  have hn1 := hn _ hb0
  subst hO
  generalize hW : w.alloc (.cells #[.int .u64 (h.term : Int), .int .i64 h.vote, .int .u64 (h.commit : Int)] 64) = W at *
  replace hT0 := Lib.hid hT0
  replace hb0 := Lib.hid hb0
  replace hf := Lib.hid hf
  clear hT hn
  cases hm : hMay h with
  | true =>
    obtain rfl : b = false := hb.elim id (fun h1 => by rw [hm] at h1; cases h1)
    go_enter Tryd.func30, Tryd.ntmps30
    go_wp2_with fail
    refine hn1.mono ?_
    clear hn1
    rintro e wa ⟨rfl, hba⟩
    obtain ⟨y0, y1, y2, _, _, _, _⟩ := three_at bx hba
    have hen := hencode_ok (hT0.out.below hba) h hf.out hm (L := hEnc h) rfl
    have hba1 := Lib.hid (hb0.out.trans (hba.mono hb0.out.size))
    clear bx hba hT0 hb0 hm hb
    go_wp2_with fail
    refine hen.mono ?_
    clear hen
    rintro e wb ⟨EA, ec, rfl, _, hbb⟩
    replace hbb := Lib.hid (hba1.out.trans (hbb.mono hba1.out.size))
    go_wp2_with fail
    go_ret
    exact ⟨rfl, hbb.out⟩
  | false =>
    clear hb
    cases b with
    | true =>
      go_enter Tryd.func30, Tryd.ntmps30
      go_wp2_with fail
      refine hn1.mono ?_
      clear hn1
      rintro e wa ⟨rfl, hba⟩
      obtain ⟨y0, y1, y2, _, _, _, _⟩ := three_at bx hba
      have hen := hencode_no (w := wa) h hm
      have hba1 := Lib.hid (hb0.out.trans (hba.mono hb0.out.size))
      clear bx hba hT0 hb0 hm
      go_wp2_with fail
      refine hen.mono ?_
      clear hen
      rintro e wb ⟨rfl, hbb⟩
      replace hbb := Lib.hid (hba1.out.trans (hbb.mono hba1.out.size))
      go_wp2_with fail
      go_ret
      exact ⟨rfl, hbb.out⟩
    | false =>
      go_enter Tryd.func30, Tryd.ntmps30
      go_wp2_with fail
      refine hn1.mono ?_
      clear hn1
      rintro e wa ⟨rfl, hba⟩
      obtain ⟨y0, y1, y2, _, _, _, _⟩ := three_at bx hba
      have hen := hencode_no (w := wa) h hm
      have hba1 := Lib.hid (hb0.out.trans (hba.mono hb0.out.size))
      clear bx hba hT0 hb0 hm
      go_wp2_with fail
      refine hen.mono ?_
      clear hen
      rintro e wb ⟨rfl, hbb⟩
      replace hbb := Lib.hid (hba1.out.trans (hbb.mono hba1.out.size))
      go_wp2_with fail
      go_ret
      exact ⟨rfl, hbb.out⟩
end Go.Proofs.YthnodmbenbiahaaDoor
