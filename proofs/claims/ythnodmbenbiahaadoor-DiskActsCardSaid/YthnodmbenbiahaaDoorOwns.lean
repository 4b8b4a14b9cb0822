/- Law DiskOwns, walked: a disk keeps bytes of its own. -/
import Derived.Test.YthnodmbenbiahaaDoorAwake5
namespace Go.Proofs.YthnodmbenbiahaaDoor
open Go.RowKit Go.Maps

theorem bytes_nums (l : List UInt8) : l.map byteV = (l.map fun b => (b.toNat : Int)).map (Value.int .u8) := by rw [List.map_map]; rfl
theorem nums_set (ys : List Int) (k : Nat) (y : Int) : (ys.map (Value.int .u8)).set k (.int .u8 y) = (ys.set k y).map (Value.int .u8) := by rw [List.map_set]
/-- A store into a row of one's own, at a place within. -/
theorem own_put {w : World} {base : Nat} {g n c k : Nat} {ys : List Int} (h : w.ownsRow base 5 1 (.slice (some ⟨g, 0, none⟩) n c) n (ys.map (Value.int .u8))) (hl : ys.length = n) (y : Int) :
    (w.setCell ⟨g, k, none⟩ (.int .u8 y)).ownsRow base 5 1 (.slice (some ⟨g, 0, none⟩) n c) n ((ys.set k y).map (Value.int .u8)) ∧ (ys.set k y).length = n ∧ Kept w (w.setCell ⟨g, k, none⟩ (.int .u8 y)) (fun b => (Value.slice (some ⟨g, 0, none⟩) n c).ownBlock = some b) := by
  have := h.stored k (.int .u8 y)
  rw [nums_set] at this
  exact ⟨this.1, by simpa using hl, (Kept.refl w (fun b => (Value.slice (some ⟨g, 0, none⟩) n c).ownBlock = some b)).setCell (a := ⟨g, k, none⟩) (.inl rfl) _⟩
theorem own_some {w : World} {base : Nat} {e : TypeId} {size : Nat} {v : Value} {n : Nat} {xs : List Value} (h : w.ownsRow base e size v n xs) (hn : 0 < n) : ∃ g cap, v = .slice (some ⟨g, 0, none⟩) n cap ∧ base ≤ g ∧ g < w.heap.size := by
  rcases h.2 with ⟨_, h0⟩ | ⟨g, cap, cur, rfl, hb, hg, _⟩
  · omega
  · exact ⟨g, cap, rfl, hb, (Array.getElem?_eq_some_iff.1 hg).1⟩
theorem files_at {w : World} {p : Nat} {ok : Nat → Prop} {m : List FileD} (h : DiskAt w p ok m) :
    Calls Tryd.prog 13 #[.pointer (some ⟨p, 0, none⟩)] w fun e w' => ∃ v us, e = .returned v ∧ FilesOwn w' w.heap.size v m us ∧ Below w.heap.size w w' := by
  obtain ⟨mb, g, h1, rfl, _⟩ := h
  exact files_any h1
/-- A row that is new since w1 is none of a disk's blocks. -/
theorem Mine.kept {w w1 w2 : World} {p : Nat} {m : List FileD} {S : Nat → Prop} (h : Mine w w1 p m) (hk : Kept w1 w2 S) {ok : Nat → Prop} (hd : DiskAt w1 p ok m) (hok : ∀ k, ok k → w.heap.size ≤ k ∧ ¬ S k) (hS : ∀ k, S k → w.heap.size ≤ k) : Mine w w2 p m :=
  ⟨(hd.step (hk.part (fun k hk => (hok k hk).2))).mono (fun k hk _ => (hok k hk).1), h.2.trans ⟨hk.os, hk.tape, hk.output, hk.size, fun k hlt => hk.same k (fun hs => by have := hS k hs; omega) (Nat.lt_of_lt_of_le hlt h.2.size)⟩⟩

theorem append_nil_ok {name : ByteArray} {b : List UInt8} (h : (pAppend [] name b).2 = 0) : (pAppend [] name b).1 = [⟨name, b, 0⟩] ∧ b.length ≤ 65536 := by
  unfold pAppend at h ⊢
  cases ho : okName name with
  | false => rw [ho] at h; simp at h
  | true =>
    rw [ho] at h
    simp only [if_true] at h ⊢
    have hf : fFind [] name = none := rfl
    rw [hf] at h ⊢
    simp only at h ⊢
    by_cases hb : 64 ≤ ([] : List FileD).length ∨ 65536 < b.length
    · rw [if_pos hb] at h; simp at h
    · rw [if_neg hb]
      refine ⟨rfl, ?_⟩
      simp at hb
      omega
theorem find_one (name : ByteArray) (b : List UInt8) (s : Int) : fFind [⟨name, b, s⟩] name = some ⟨name, b, s⟩ := by simp [fFind, lfind]

set_option maxRecDepth 100000 in
set_option maxHeartbeats 4000000 in
theorem diskOwns_walk (w : World) (name : ByteArray) (hn : name.size ≤ maxLen) {okb : Nat → Prop} {bv : Value} {b : List UInt8} (hb : Bytes w okb bv b) :
    Calls Tryd.prog 3 #[.string name, bv] w fun e w' => e = .returned (.bool true) ∧ Below w.heap.size w w' := by
  obtain ⟨BA, bc, rfl, hbc⟩ := hb.form
  have hb0 := Lib.hid hb
  clear hb
  go_enter Tryd.func3, Tryd.ntmps3
  go_wp2_with fail
  refine (new_any w).mono ?_
  rintro e w1 ⟨p, rfl, hd, hB⟩
  have hM : Mine w w1 p [] := ⟨hd, hB⟩
  clear hd hB
  go_wp2_with fail
  refine (append_any hM.1 name hn (hb0.out.step (Same.of_below hM.2 _))).mono ?_
  rintro e w2 ⟨rfl, hA⟩
  by_cases h0 : (pAppend [] name b).2 = 0
  · obtain ⟨h1, h65⟩ := append_nil_ok h0
    rw [h1] at hA
    have hM2 := hM.after hA
    rw [h0]
    clear hM hA h0 h1
    go_wp2_with fail
    refine (read_any hM2.1 name hn).mono ?_
    rintro e w3 ⟨v, rfl, hr, hb3⟩
    rw [find_one] at hr ⊢
    change w3.ownsRow w2.heap.size 5 1 v b.length (b.map byteV) at hr
    have hM3 := hM2.below hb3
    have hD3 : DiskAt w3 p (fun k => w.heap.size ≤ k ∧ k < w2.heap.size) [⟨name, b, 0⟩] := (hM2.1.mono (fun k hk hlt => ⟨hk, hlt⟩)).step (Same.of_below hb3 _)
    obtain ⟨A, c, rfl, _⟩ := own_form hr
    rw [bytes_nums] at hr
    have hys : (b.map fun b => (b.toNat : Int)).length = b.length := by simp
    generalize hY : (b.map fun b => (b.toNat : Int)) = Y at *
    have hY2 := Lib.hid hY
    clear hY
    have hM2s := hM2.2.size
    have hr0 := Lib.hid hr
    have hys0 := Lib.hid hys
    clear hM2 hr hys
    go_wp2_with fail
    go_loopw [8] (fun i wr => ∃ (k : Nat) (ys : List Int), k ≤ b.length ∧ i = .int .i64 k ∧ wr.ownsRow w2.heap.size 5 1 (.slice A b.length c) b.length (ys.map (Value.int .u8)) ∧ Hid (ys.length = b.length) ∧ Kept w3 wr (fun x => (Value.slice A b.length c).ownBlock = some x)) (fun i _ => b.length - (intOf i).toNat)
    case atStart => exact ⟨0, Y, Nat.zero_le _, rfl, hr0.out, hys0, Kept.refl _ _⟩
    case round =>
      obtain ⟨k, ys, hk, rfl, hrow, hyl, hKept⟩ := hrel
      by_cases hlt : k < b.length
      · have hrow : wr.ownsRow w2.heap.size 5 1 (.slice A b.length c) b.length (ys.map (Value.int .u8)) := hrow
        obtain ⟨g, c', hform, _, _⟩ := own_some hrow (by omega)
        injection hform with e1 e2 e3
        subst e1 e3
        have q1 : wr.cell? ⟨g, k, none⟩ = some (.int .u8 (ys.getD k 0)) := by
          rw [hrow.cellAt k (by omega), List.getElem?_map, List.getD_eq_getElem?_getD, List.getElem?_eq_getElem (by rw [hyl.out]; exact hlt)]; rfl
        have q2 := hrow.frozenAt k
        have hput := Lib.hid (fun y => own_put (k := k) hrow hyl.out y)
        generalize hy0 : ys.getD k 0 = y0 at q1
        clear hrow hy0
        have i6 : (0 : Int) ≤ k := by omega
        have i7 : (k : Int) < b.length := by omega
        go_wp2_with fail
        go_roundw
        case measure => simp [intOf]; omega
        case rel =>
          obtain ⟨a1, a2, a3⟩ := hput.out _
          exact ⟨k + 1, _, by omega, by go_num, a1, Lib.hid a2, hKept.trans a3 (fun _ h => .inl h)⟩
      · obtain rfl : k = b.length := by omega
        clear hlt
        rename World => wq
        have hM4 : Mine w wq p [⟨name, b, 0⟩] := hM3.kept hKept hD3 (fun x hx => ⟨hx.1, fun e => by have := own_base hr0.out x e; omega⟩) (fun x e => by have := own_base hr0.out x e; omega)
        have hsz3 : w3.heap.size ≤ wq.heap.size := hKept.size
        have hw1 : w2.heap.size ≤ w3.heap.size := hb3.size
        clear hrow hKept hyl hD3 hb3 hM3
        go_wp2_with fail
        refine (files_at hM4.1).mono ?_
        rintro e w4 ⟨fv, us, rfl, hF, hb4⟩
        have hM5 := hM4.below hb4
        have hD5 : DiskAt w4 p (fun k => w.heap.size ≤ k ∧ k < wq.heap.size) [⟨name, b, 0⟩] := (hM4.1.mono (fun k hk hlt => ⟨hk, hlt⟩)).step (Same.of_below hb4 _)
        obtain ⟨u, rfl⟩ : ∃ u, us = [u] := List.length_eq_one_iff.1 hF.1
        obtain ⟨_, hF2, hF3⟩ := hF
        have hru := hF3 0 _ _ rfl rfl
        obtain ⟨fb, fc, rfl, hfb, hflt⟩ := own_some hF2 Nat.one_pos
        obtain ⟨B, d, rfl, _⟩ := own_form hru
        have c1 : w4.cell? ⟨fb, 1, none⟩ = some (.slice B b.length d) := by
          have := hF2.cells (g := fb) rfl 1 (.slice B b.length d) rfl
          simpa [Addr.add_lit] using this
        have hfne : ∀ x, (Value.slice B b.length d).ownBlock = some x → x ≠ fb := fun x hx e => by
          obtain ⟨z1, t1⟩ := own_typed hru x hx
          obtain ⟨z2, t2⟩ := own_typed hF2 fb rfl
          rw [e, t2] at t1
          simp at t1
        simp only [bytes_nums, hY2.out] at hru
        have hru0 := Lib.hid hru
        have hfne0 := Lib.hid hfne
        have hM50 := Lib.hid hM5
        have hD50 := Lib.hid hD5
        have hb40 := Lib.hid hb4
        clear hM4 hF2 hF3 hru hfne hM5 hD5 hb4
        go_wp2_with fail
        go_loopw [10] (fun i wr => ∃ (k : Nat) (ys : List Int), k ≤ b.length ∧ i = .int .i64 k ∧ wr.ownsRow wq.heap.size 5 1 (.slice B b.length d) b.length (ys.map (Value.int .u8)) ∧ Hid (ys.length = b.length) ∧ Kept w4 wr (fun x => (Value.slice B b.length d).ownBlock = some x)) (fun i _ => b.length - (intOf i).toNat)
        case atStart => exact ⟨0, Y, Nat.zero_le _, rfl, hru0.out, hys0, Kept.refl _ _⟩
        case round =>
          obtain ⟨k, ys, hk, rfl, hrow, hyl, hKept⟩ := hrel
          have c2 : wr.cell? ⟨fb, 1, none⟩ = some (.slice B b.length d) := (hKept.same.cell (a := ⟨fb, 1, none⟩) (fun e => hfne0.out _ e rfl) c1)
          by_cases hlt : k < b.length
          · have hrow : wr.ownsRow wq.heap.size 5 1 (.slice B b.length d) b.length (ys.map (Value.int .u8)) := hrow
            obtain ⟨g, c', hform, _, _⟩ := own_some hrow (by omega)
            injection hform with e1 e2 e3
            subst e1 e3
            have q1 : wr.cell? ⟨g, k, none⟩ = some (.int .u8 (ys.getD k 0)) := by
              rw [hrow.cellAt k (by omega), List.getElem?_map, List.getD_eq_getElem?_getD, List.getElem?_eq_getElem (by rw [hyl.out]; exact hlt)]; rfl
            have q2 := hrow.frozenAt k
            have hput := Lib.hid (fun y => own_put (k := k) hrow hyl.out y)
            generalize hy0 : ys.getD k 0 = y0 at q1
            clear hrow hy0
            have i6 : (0 : Int) ≤ k := by omega
            have i7 : (k : Int) < b.length := by omega
            go_wp2_with fail
            go_roundw
            case measure => simp [intOf]; omega
            case rel =>
              obtain ⟨a1, a2, a3⟩ := hput.out _
              exact ⟨k + 1, _, by omega, by go_num, a1, Lib.hid a2, hKept.trans a3 (fun _ h => .inl h)⟩
          · obtain rfl : k = b.length := by omega
            clear hlt
            have hM6 : Mine w wr p [⟨name, b, 0⟩] := hM50.out.kept hKept hD50.out (fun x hx => ⟨hx.1, fun e => by have := own_base hru0.out x e; omega⟩) (fun x e => by have := own_base hru0.out x e; omega)
            have hbb : Bytes wr okb (.slice BA b.length bc) b := hb0.out.step (Same.of_below hM6.2 _)
            clear hrow hKept hyl
            go_wp2_with fail
            refine (read_any hM6.1 name hn).mono ?_
            rintro e w5 ⟨v, rfl, hr, hb5⟩
            rw [find_one] at hr ⊢
            change w5.ownsRow wr.heap.size 5 1 v b.length (b.map byteV) at hr
            have hM7 := hM6.below hb5
            have hs1 : (convert 22 9 v).run Tryd.prog w5 = .ok (.string (strOf b)) w5 := run_string (P := Tryd.prog) (Reads.of_own (α := UInt8) (enc := byteV) hr) Tryd.underlying22 Tryd.underlying5 Tryd.underlying9
            have hs2 : (convert 22 9 (.slice BA b.length bc)).run Tryd.prog w5 = .ok (.string (strOf b)) w5 := run_string (P := Tryd.prog) (hbb.step (Same.of_below hb5 _)) Tryd.underlying22 Tryd.underlying5 Tryd.underlying9
            obtain ⟨A', c', rfl, _⟩ := own_form hr
            clear hM6 hr hbb
            have hM7 := Lib.hid hM7
            go_wp2_with (go_at_call 11; refine (awake5 _).mono ?_; rintro e w6 ⟨rfl, hb6⟩)
            go_ret
            exact ⟨rfl, (hM7.out.below hb6).2⟩
  · have hM2 := hM.after hA
    have h0' : ((pAppend [] name b).2 != 0) = true := by rw [bne_iff_ne]; exact h0
    have h0'' : ((pAppend [] name b).2 == 0) = false := by rw [beq_eq_false_iff_ne]; exact h0
    generalize (pAppend [] name b).2 = e0 at *
    clear hM hA h0
    go_wp2_with (go_at_call 11; refine (awake5 _).mono ?_; rintro e w3 ⟨rfl, hb3⟩)
    go_ret
    exact ⟨rfl, (hM2.below hb3).2⟩
end Go.Proofs.YthnodmbenbiahaaDoor
