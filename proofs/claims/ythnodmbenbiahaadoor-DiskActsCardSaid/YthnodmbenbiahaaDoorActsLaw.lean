/- Law DiskActs, walked: what anything leaves that is done with files. -/
import Derived.Test.YthnodmbenbiahaaDoorLoad
import Derived.Test.YthnodmbenbiahaaDoorActs
import Derived.Test.YthnodmbenbiahaaDoorReadAt
namespace Go.Proofs.YthnodmbenbiahaaDoor
open Go.RowKit Go.Maps

theorem rmay_w {w : World} {ok : Nat → Prop} {v : Value} {l : List FileD} (h : FilesRd w ok v l) (hs : ∀ x ∈ l, x.name.size ≤ maxLen) {b : Bool} (hb : mayOk l = b) :
    Calls Tryd.prog 22 #[v] w fun e w' => e = .returned (.bool b) ∧ Below w.heap.size w w' := by
  subst hb
  exact rmay_any h hs

set_option maxRecDepth 100000 in
set_option maxHeartbeats 8000000 in
theorem diskActs_walk (w : World) {oka okf : Nat → Prop} {av fv : Value} {l : List FileD} {acts : List ActD} (hf : FilesRd w okf fv l) (hokf : ∀ k, okf k → k < w.heap.size) (hs : ∀ x ∈ l, x.name.size ≤ maxLen)
    (ha : ActsRd w oka av acts) (hoka : ∀ k, oka k → k < w.heap.size) :
    Calls Tryd.prog 6 #[fv, av] w fun e w' => e = .returned (.bool true) ∧ Below w.heap.size w w' := by
  obtain ⟨FA, fc, rfl, _, hfm⟩ := hf.form
  obtain ⟨AA, ac, rfl, _, ham⟩ := ha.form
  have ham : acts.length ≤ 9223372036854775807 := ham
  have hfm : l.length ≤ 9223372036854775807 := hfm
  have hload := load_any hf hs
  replace hf := Lib.hid hf
  replace ha := Lib.hid ha
  replace hokf := Lib.hid hokf
  replace hoka := Lib.hid hoka
  replace hs := Lib.hid hs
  go_enter Tryd.func6, Tryd.ntmps6
  go_wp2_with fail
  refine hload.mono ?_
  clear hload
  rintro e w1 (⟨hno, rfl, hB⟩ | ⟨hyes, p, rfl, hM⟩)
  · have hmay := rmay_w (hf.out.step (Same.of_below hB okf)) hs.out hno
    replace hB := Lib.hid hB
    clear hno
    go_wp2_with fail
    refine hmay.mono ?_
    clear hmay
    rintro e w2 ⟨rfl, hb2⟩
    replace hb2 := Lib.hid (hB.out.trans (hb2.mono hB.out.size))
    go_wp2_with (go_at_call 11; refine (awake5 _).mono ?_; rintro e w3 ⟨rfl, hb3⟩)
    go_ret
    exact ⟨rfl, hb2.out.trans (hb3.mono hb2.out.size)⟩
  · have hmay := rmay_w (hf.out.step (Same.of_below hM.2 okf)) hs.out hyes
    replace hM := Lib.hid hM
    replace hyes := Lib.hid hyes
    go_wp2_with fail
    refine hmay.mono ?_
    clear hmay
    rintro e w2 ⟨rfl, hb2⟩
    replace hM := Lib.hid (hM.out.below hb2)
    clear hb2
    have ha2 := Lib.hid (ha.out.step (Same.of_below hM.out.2 oka))
    go_wp2_with fail
    refine (heavy_any ha2.out).mono ?_
    rintro e w' ⟨rfl, rfl⟩
    by_cases hh : 262144 < weigh acts
    · go_wp2_with (go_at_call 11; refine (awake5 _).mono ?_; rintro e w3 ⟨rfl, hb3⟩)
      go_ret
      exact ⟨rfl, (hM.out.below hb3).2⟩
    by_cases h8 : (8 : Int) < l.length
    · go_wp2_with (go_at_call 11; refine (awake5 _).mono ?_; rintro e w3 ⟨rfl, hb3⟩)
      go_ret
      exact ⟨rfl, (hM.out.below hb3).2⟩
    have hbl : ∀ i (hi : i < acts.length), i < 100 → acts[i].b.length ≤ 262144 := fun i hi h => by have := weigh_le hi (by omega : i < 400); omega
    replace hbl := Lib.hid hbl
    have hBoth0 : Both w w2 p (.slice FA l.length fc) l l (fun k => w.heap.size ≤ k ∧ k < w2.heap.size) okf :=
      ⟨fun k hk => hk, fun k hk => ⟨fun h => by have := hokf.out k hk; omega, Nat.lt_of_lt_of_le (hokf.out k hk) hM.out.2.size⟩, hM.out.1.mono (fun k hk hlt => ⟨hk, hlt⟩), hf.out.step (Same.of_below hM.out.2 _), hM.out.2⟩
    replace hBoth0 := Lib.hid hBoth0
    go_wp2_with fail
    go_loopw [0, 7] (fun v i wr => ∃ (k : Nat) (m : List FileD) (okd okl : Nat → Prop), k ≤ acts.length ∧ k ≤ 100 ∧ i = .int .i64 k ∧ Both w wr p v m m okd okl) (fun _ i _ => acts.length - (intOf i).toNat)
    case atStart => exact ⟨0, l, _, _, Nat.zero_le _, Nat.zero_le _, rfl, hBoth0.out⟩
    case round =>
      obtain ⟨k, m, okd, okl, hk, hk1, rfl, hBoth⟩ := hrel
      by_cases hgo : k < acts.length ∧ k < 100
      · obtain ⟨hlt, h100⟩ := hgo
        have i1 : (k : Int) < acts.length := by omega
        have i2 : (k : Int) < 100 := by omega
        have hl2 := ha.out.step (Same.of_below hBoth.bel oka)
        obtain ⟨b, o, B, d, C, e, rfl, hb, c0, c1, c2, c3, c4, c5, hBy, hIn⟩ := hl2.get k hlt
        have hfit := ha.out.fit _ (List.getElem_mem hlt)
        have hbk := hbl.out k hlt h100
        generalize acts[k] = x at *
        obtain ⟨A1, c1', rfl, _, _⟩ := hBoth.rd.form
        have hoka1 : ∀ k, oka k → k < wr.heap.size ∧ ¬ okd k := fun k hk => ⟨Nat.lt_of_lt_of_le (hoka.out k hk) hBoth.bel.size, fun h => by have := (hBoth.d k h).1; have := hoka.out k hk; omega⟩
        replace hBoth := Lib.hid hBoth
        replace hBy := Lib.hid hBy
        replace hIn := Lib.hid hIn
        replace hoka1 := Lib.hid hoka1
        replace hfit := Lib.hid hfit
        clear hl2
        go_wp2_with fail
        refine (does_any hBoth.out x hfit.out.ok hoka1.out hBy.out hbk hIn.out hfit.out.c).mono ?_
        rintro e w3 ⟨A2, n2, c2', okd', okl', rfl, hB3, hS3, hD3⟩
        have s1 := hS3.cell (a := ⟨b, o + k * 6 + 1, none⟩) (hoka1.out _ hb).2 c1
        have hb3 : b < w3.heap.size := cell_lt s1
        clear hS3 hD3 c0 c1 c2 c3 c4 c5
        have hfine := Lib.hid hB3.fine
        generalize hm' : actTo m x = m' at *
        clear hm'
        cases hfd : fFind m' x.name with
        | some f =>
          have hrd := read_some hB3.at_ x.name hfit.out.ok.name hfd
          replace hB3 := Lib.hid hB3
          replace hfd := Lib.hid hfd
          go_wp2_with fail
          refine hrd.mono ?_
          clear hrd
          rintro e w4 ⟨A4, c4, rfl, r4, hb4⟩
          have s2 := (hb4.cell (p := ⟨b, o + k * 6 + 1, none⟩) hb3).trans s1
          replace hB3 := Lib.hid (hB3.out.below hb4)
          clear hb4 s1
          have hrr := rread_some hB3.out.rd hfine.out.1 x.name hfine.out.2.1 hfd.out
          have hr4 := run_string (P := Tryd.prog) (Reads.of_own (α := UInt8) (enc := byteV) r4) Tryd.underlying22 Tryd.underlying5 Tryd.underlying9
          clear r4
          go_wp2_with fail
          refine hrr.mono ?_
          clear hrr
          rintro e w' ⟨⟨A5, c5, rfl, r5⟩, rfl⟩
          have hr5 := run_string (P := Tryd.prog) r5 Tryd.underlying22 Tryd.underlying5 Tryd.underlying9
          clear r5
          go_wp2_with fail
          go_roundw
          case measure => simp [intOf]; omega
          case rel => exact ⟨k + 1, _, _, _, by omega, by omega, by go_num, hB3.out⟩
        | none =>
          have hrd := read_none hB3.at_ x.name hfit.out.ok.name hfd
          replace hB3 := Lib.hid hB3
          replace hfd := Lib.hid hfd
          go_wp2_with fail
          refine hrd.mono ?_
          clear hrd
          rintro e w4 ⟨A4, c4, rfl, hb4⟩
          have s2 := (hb4.cell (p := ⟨b, o + k * 6 + 1, none⟩) hb3).trans s1
          replace hB3 := Lib.hid (hB3.out.below hb4)
          clear hb4 s1
          have hrr := rread_none hB3.out.rd hfine.out.1 x.name hfine.out.2.1 hfd.out
          have hr4 := run_string (P := Tryd.prog) (w := w4) (ok := fun _ => True) (v := .slice A4 0 c4) (l := []) ⟨A4, c4, rfl, Nat.zero_le _, Nat.zero_le _, Cells.empty _ _ _⟩ Tryd.underlying22 Tryd.underlying5 Tryd.underlying9
          have hr5 := run_string (P := Tryd.prog) (w := w4) (ok := fun _ => True) (v := .slice none 0 0) (l := []) (Reads.nil _ _ _) Tryd.underlying22 Tryd.underlying5 Tryd.underlying9
          go_wp2_with fail
          refine hrr.mono ?_
          clear hrr
          rintro e w' ⟨rfl, rfl⟩
          go_wp2_with fail
          go_roundw
          case measure => simp [intOf]; omega
          case rel => exact ⟨k + 1, _, _, _, by omega, by omega, by go_num, hB3.out⟩
      · rename World => wq
        obtain ⟨A1, c1', rfl, _, _⟩ := hBoth.rd.form
        have hfine := hBoth.fine
        have hfl := files_at hBoth.at_
        replace hBoth := Lib.hid hBoth
        replace hfine := Lib.hid hfine
        have hends : (k < acts.length ∧ k = 100) ∨ k = acts.length := by omega
        clear hgo hk hk1
        rcases hends with ⟨hlt, rfl⟩ | rfl
        · have i0 : (100 : Int) < acts.length := by omega
          go_wp2_with fail
          refine hfl.mono ?_
          clear hfl
          rintro e w4 ⟨fv, us, rfl, hF, hb4⟩
          have hB4 := Lib.hid (hBoth.out.below hb4)
          have hsm := rsame_any hF.rd hB4.out.rd hfine.out.2.1
          clear hF hb4
          go_wp2_with fail
          refine hsm.mono ?_
          clear hsm
          rintro e w5 ⟨rfl, hb5⟩
          replace hB4 := Lib.hid (hB4.out.below hb5)
          clear hb5
          go_wp2_with (go_at_call 11; refine (awake5 _).mono ?_; rintro e w7 ⟨rfl, hb7⟩)
          go_ret
          exact ⟨rfl, hB4.out.bel.trans (hb7.mono hB4.out.bel.size)⟩
        · skip
          go_wp2_with fail
          refine hfl.mono ?_
          clear hfl
          rintro e w4 ⟨fv, us, rfl, hF, hb4⟩
          have hB4 := Lib.hid (hBoth.out.below hb4)
          have hsm := rsame_any hF.rd hB4.out.rd hfine.out.2.1
          clear hF hb4
          go_wp2_with fail
          refine hsm.mono ?_
          clear hsm
          rintro e w5 ⟨rfl, hb5⟩
          replace hB4 := Lib.hid (hB4.out.below hb5)
          clear hb5
          go_wp2_with (go_at_call 11; refine (awake5 _).mono ?_; rintro e w7 ⟨rfl, hb7⟩)
          go_ret
          exact ⟨rfl, hB4.out.bel.trans (hb7.mono hB4.out.bel.size)⟩
end Go.Proofs.YthnodmbenbiahaaDoor
