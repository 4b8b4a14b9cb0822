/- The document's answer for disks (package gudgeonref05), walked: Same, May. -/
import Derived.Test.YthnodmbenbiahaaDoorDoes
namespace Go.Proofs.YthnodmbenbiahaaDoor
open Go.RowKit Go.Maps

theorem below_drewN0 {w w1 : World} {B : Nat} (h : Below B w w1) (n : Nat) : Below B w (w1.drewN n) := below_drewN h n
set_option maxRecDepth 100000 in
set_option maxHeartbeats 2000000 in
theorem rsame_any {w : World} {ok ok2 : Nat → Prop} {v v2 : Value} {l : List FileD} (h : FilesRd w ok v l) (h2 : FilesRd w ok2 v2 l) (hl : l.length ≤ 1000) :
    Calls Tryd.prog 24 #[v, v2] w fun e w' => e = .returned (.bool true) ∧ Below w.heap.size w w' := by
  obtain ⟨A, c, rfl, _, _⟩ := h.form
  obtain ⟨A2, c2, rfl, _, _⟩ := h2.form
  replace h := Lib.hid h
  replace h2 := Lib.hid h2
  go_enter Tryd.func24, Tryd.ntmps24
  go_wp2_with fail
  go_loopw [5] (fun i wr => ∃ k : Nat, k ≤ l.length ∧ i = .int .i64 k ∧ Below w.heap.size w wr) (fun i _ => l.length - (intOf i).toNat)
  case atStart => exact ⟨0, Nat.zero_le _, rfl, Below.refl _ _⟩
  case round =>
    obtain ⟨k, hk, rfl, hB⟩ := hrel
    by_cases hlt : k < l.length
    · have i1 : (k : Int) < l.length := by omega
      have i2 : (0 : Int) ≤ k := by omega
      obtain ⟨b, o, B, d, rfl, _, c0, c1, c2', hd, hBy⟩ := (h.out.step (Same.of_below hB _)).get k hlt
      obtain ⟨b2, o2, B2, d2, rfl, _, q0, q1, q2, hd2, hBy2⟩ := (h2.out.step (Same.of_below hB _)).get k hlt
      generalize l[k] = x at *
      obtain ⟨xn, xd, xs⟩ := x
      simp only at c0 c1 c2' hBy hd q0 q1 q2 hBy2 hd2
      have v1 : ∀ n, (convert 22 9 (.slice B xd.length d)).run Tryd.prog (wr.drewN n) = .ok (.string (strOf xd)) (wr.drewN n) := fun n => run_string (P := Tryd.prog) (hBy.step (Same.drewN wr n _)) Tryd.underlying22 Tryd.underlying5 Tryd.underlying9
      have v2 : ∀ n, (convert 22 9 (.slice B2 xd.length d2)).run Tryd.prog (wr.drewN n) = .ok (.string (strOf xd)) (wr.drewN n) := fun n => run_string (P := Tryd.prog) (hBy2.step (Same.drewN wr n _)) Tryd.underlying22 Tryd.underlying5 Tryd.underlying9
      replace hB := Lib.hid hB
      clear hBy hBy2
      go_wp2_with fail
      go_quiet (fail)
      go_wp2_with fail
      go_roundw
      case measure => simp [intOf]; omega
      case rel => exact ⟨k + 1, by omega, by go_num, below_drewN hB.out _⟩
    · obtain rfl : k = l.length := by omega
      clear hlt
      go_wp2_with fail
      go_ret
      exact ⟨rfl, hB⟩

/-! ### May -/
def goodB (x : FileD) (prev : Option FileD) : Bool := okName x.name && (decide (x.data.length ≤ 65536) && (decide (0 ≤ x.safe) && (decide (x.safe ≤ x.data.length) && (match prev with | none => true | some y => decide (nlt y.name x.name)))))
def prevOf (l : List FileD) (k : Nat) : Option FileD := if k = 0 then none else l[k - 1]?
def gk (l : List FileD) (k : Nat) : Bool := match l[k]? with | some x => goodB x (prevOf l k) | none => true
def mayOk (l : List FileD) : Bool := decide (l.length ≤ 64) && (List.range l.length).all (gk l)
theorem mayOk_no {l : List FileD} {k : Nat} (hk : k < l.length) (h : gk l k = false) : mayOk l = false := by
  unfold mayOk
  rw [Bool.and_eq_false_iff]
  refine .inr (List.all_eq_false.2 ⟨k, by simpa using hk, by simp [h]⟩)
theorem mayOk_long {l : List FileD} (h : ¬ l.length ≤ 64) : mayOk l = false := by
  unfold mayOk
  simp [h]
theorem mayOk_yes {l : List FileD} (h64 : l.length ≤ 64) (h : ∀ k, k < l.length → gk l k = true) : mayOk l = true := by
  unfold mayOk
  simp only [h64, decide_true, Bool.true_and, List.all_eq_true, List.mem_range]
  exact h
theorem gk_at {l : List FileD} {k : Nat} (hk : k < l.length) : gk l k = goodB l[k] (prevOf l k) := by unfold gk; rw [List.getElem?_eq_getElem hk]
theorem mayOk_spec {l : List FileD} (h : mayOk l = true) : l.length ≤ 64 ∧ ∀ k, k < l.length → gk l k = true := by
  unfold mayOk at h
  simp only [Bool.and_eq_true, decide_eq_true_eq, List.all_eq_true, List.mem_range] at h
  exact h
theorem good_spec {x : FileD} {p : Option FileD} (h : goodB x p = true) : okName x.name = true ∧ x.data.length ≤ 65536 ∧ 0 ≤ x.safe ∧ x.safe ≤ x.data.length ∧ ∀ y, p = some y → nlt y.name x.name := by
  unfold goodB at h
  simp only [Bool.and_eq_true, decide_eq_true_eq] at h
  obtain ⟨h1, h2, h3, h4, h5⟩ := h
  refine ⟨h1, h2, h3, h4, fun y hy => ?_⟩
  rw [hy] at h5
  simpa using h5
theorem leq_str (a b : ByteArray) : (Op.bytesLess a.toList b.toList || a.toList == b.toList) = !decide (nlt b a) := by
  rw [less_str, eq_str]
  by_cases h : a = b
  · subst h; simp [nlt_irrefl]
  · rcases nlt_total h with h1 | h1
    · simp [h1, nlt_asymm h1]
    · simp [h1, nlt_asymm h1, h]
theorem rname_w (s : ByteArray) (w : World) (hs : s.size ≤ maxLen) {b : Bool} (h : okName s = b) : Calls Tryd.prog 43 #[.string s] w fun e w' => e = .returned (.bool b) ∧ w' = w := by
  subst h
  exact (rname_any s w hs).mono fun e w' ⟨h1, h2⟩ => ⟨h1, h2.symm⟩

set_option maxRecDepth 100000 in
set_option maxHeartbeats 8000000 in
theorem rmay_any {w : World} {ok : Nat → Prop} {v : Value} {l : List FileD} (h : FilesRd w ok v l) (hs : ∀ x ∈ l, x.name.size ≤ maxLen) :
    Calls Tryd.prog 22 #[v] w fun e w' => e = .returned (.bool (mayOk l)) ∧ Below w.heap.size w w' := by
  obtain ⟨A, c, rfl, _, hlm⟩ := h.form
  have hlm : l.length ≤ 9223372036854775807 := hlm
  replace h := Lib.hid h
  replace hs := Lib.hid hs
  by_cases h64 : ¬ l.length ≤ 64
  · have e := Lib.hid (mayOk_long h64)
    have i0 : (64 : Int) < l.length := by omega
    clear h64
    go_enter Tryd.func22, Tryd.ntmps22
    go_wp2_with fail
    go_ret
    exact ⟨by rw [e.out]; rfl, Below.refl _ _⟩
  have h64 : l.length ≤ 64 := by omega
  have i0 : ¬ (64 : Int) < l.length := by omega
  go_enter Tryd.func22, Tryd.ntmps22
  go_wp2_with fail
  go_loopw [3] (fun i wr => ∃ k : Nat, k ≤ l.length ∧ i = .int .i64 k ∧ Hid (∀ j, j < k → gk l j = true) ∧ Below w.heap.size w wr) (fun i _ => l.length - (intOf i).toNat)
  case atStart => exact ⟨0, Nat.zero_le _, rfl, Lib.hid (fun j hj => by omega), Below.refl _ _⟩
  case round =>
    obtain ⟨k, hk, rfl, hall, hB⟩ := hrel
    by_cases hlt : k < l.length
    · have i1 : (k : Int) < l.length := by omega
      have i2 : (0 : Int) ≤ k := by omega
      obtain ⟨b, o, B, d, rfl, _, c0, c1, c2, hd, hBy⟩ := (h.out.step (Same.of_below hB _)).get k hlt
      have hg := gk_at hlt
      have hno := Lib.hid (fun h => mayOk_no hlt h)
      have hnx := Lib.hid (show gk l k = true → ∀ j, j < k + 1 → gk l j = true from fun h j hj => by
        rcases Nat.lt_or_ge j k with h1 | h1
        · exact hall.out j h1
        · obtain rfl : j = k := by omega
          exact h)
      have hsz := hs.out _ (List.getElem_mem hlt)
      have hcp : 0 < k → ∃ y, prevOf l k = some y ∧ wr.cell? ⟨b, o + (k - 1) * 3, none⟩ = some (.string y.name) := fun h0 => by
        obtain ⟨b', o', B', d', e, _, c0', _⟩ := (h.out.step (Same.of_below hB _)).get (k - 1) (by omega)
        injection e with e
        injection e with e1 e2 e3
        subst e1 e2
        exact ⟨l[k - 1], by unfold prevOf; rw [if_neg (by omega), List.getElem?_eq_getElem (by omega)], c0'⟩
      generalize hp : prevOf l k = pv at *
      generalize l[k] = x at *
      obtain ⟨xn, xd, xs⟩ := x
      simp only at c0 c1 c2 hsz hd
      replace hg := Lib.hid hg
      have bx := heap_alloc_new wr (.cells #[.string xn, .slice B xd.length d, .int .i64 xs] 33)
      have hBA := Lib.hid (hB.alloc hB.size (.cells #[.string xn, .slice B xd.length d, .int .i64 xs] 33))
      have z0 : (wr.alloc (.cells #[.string xn, .slice B xd.length d, .int .i64 xs] 33)).cell? ⟨wr.heap.size, 0, none⟩ = some (.string xn) := cell_blk bx 0
      have z1 : (wr.alloc (.cells #[.string xn, .slice B xd.length d, .int .i64 xs] 33)).cell? ⟨wr.heap.size, 1, none⟩ = some (.slice B xd.length d) := cell_blk bx 1
      have z2 : (wr.alloc (.cells #[.string xn, .slice B xd.length d, .int .i64 xs] 33)).cell? ⟨wr.heap.size, 2, none⟩ = some (.int .i64 xs) := cell_blk bx 2
      have hcp' := Lib.hid (show 0 < k → ∃ y, pv = some y ∧ (wr.alloc (.cells #[.string xn, .slice B xd.length d, .int .i64 xs] 33)).cell? ⟨b, o + (k - 1) * 3, none⟩ = some (.string y.name) from fun h0 => by
        obtain ⟨y, e1, e2⟩ := hcp h0
        exact ⟨y, e1, (World.cell?_alloc_lt wr _ _ (cell_lt e2)).trans e2⟩)
      clear bx hBy hcp hB
      go_wp2_with fail
      generalize wr.alloc (.cells #[.string xn, .slice B xd.length d, .int .i64 xs] 33) = W at *
      clear c0 c1 c2
      cases hok : okName xn with
      | false =>
        have e := Lib.hid (hno.out (by rw [hg.out]; unfold goodB; simp [hok]))
        go_quiet ((go_at_call 43; refine Calls.quiet_of_same (rname_w xn _ hsz hok)))
        go_wp2_with fail
        go_ret
        exact ⟨by rw [e.out]; rfl, below_drewN hBA.out _⟩
      | true =>
        by_cases j1 : (65536 : Int) < xd.length
        · have j1' : ¬ xd.length ≤ 65536 := by omega
          have e := Lib.hid (hno.out (by rw [hg.out]; unfold goodB; simp [hok, j1']))
          clear j1'
          go_quiet ((go_at_call 43; refine Calls.quiet_of_same (rname_w xn _ hsz hok)))
          go_wp2_with fail
          go_ret
          exact ⟨by rw [e.out]; rfl, below_drewN hBA.out _⟩
        have j1' : xd.length ≤ 65536 := by omega
        by_cases j2 : xs < 0
        · have j2' : ¬ (0 ≤ xs) := by omega
          have e := Lib.hid (hno.out (by rw [hg.out]; unfold goodB; simp [hok, j1', j2']))
          clear j2'
          go_quiet ((go_at_call 43; refine Calls.quiet_of_same (rname_w xn _ hsz hok)))
          go_wp2_with fail
          go_ret
          exact ⟨by rw [e.out]; rfl, below_drewN hBA.out _⟩
        have j2' : 0 ≤ xs := by omega
        by_cases j3 : (xd.length : Int) < xs
        · have j3' : ¬ (xs ≤ xd.length) := by omega
          have e := Lib.hid (hno.out (by rw [hg.out]; unfold goodB; simp [hok, j1', j2', j3']))
          clear j3'
          go_quiet ((go_at_call 43; refine Calls.quiet_of_same (rname_w xn _ hsz hok)))
          go_wp2_with fail
          go_ret
          exact ⟨by rw [e.out]; rfl, below_drewN hBA.out _⟩
        have j3' : xs ≤ xd.length := by omega
        by_cases j4 : k = 0
        · have hpv : pv = none := by rw [← hp, j4]; rfl
          have j5 : ¬ (0 : Int) < k := by omega
          have j5n : ¬ 0 < k := by omega
          have e := Lib.hid (hnx.out (by rw [hg.out]; unfold goodB; simp [hok, j1', j2', j3', hpv]))
          clear hpv j4
          go_quiet ((go_at_call 43; refine Calls.quiet_of_same (rname_w xn _ hsz hok)))
          go_wp2_with fail
          go_roundw
          case measure => simp [intOf]; omega
          case rel => exact ⟨k + 1, by omega, by go_num, e, below_drewN hBA.out _⟩
        obtain ⟨y, hpv, z3⟩ := hcp'.out (by omega)
        obtain ⟨k', rfl⟩ : ∃ k', k = k' + 1 := ⟨k - 1, by omega⟩
        simp only [Nat.add_sub_cancel] at z3
        have j5 : (0 : Int) < (k' : Int) + 1 := by omega
        have j5n : 0 < k' + 1 := by omega
        have j6 : IntKind.i64.wrap (k' : Int) = k' := IntWalk.i64_in _ (by omega)
        have j7 : (k' : Int) < l.length := by omega
        have j8 : (0 : Int) ≤ (k' : Int) := by omega
        have j9 : (k' : Int) + 1 - 1 = k' := by omega
        have hle := leq_str xn y.name
        by_cases j10 : nlt y.name xn
        · have hle' : (Op.bytesLess xn.toList y.name.toList || xn.toList == y.name.toList) = false := by rw [hle]; simp [j10]
          have e := Lib.hid (hnx.out (by rw [hg.out]; unfold goodB; simp [hok, j1', j2', j3', hpv, j10]))
          clear hpv j10 hle
          go_quiet ((go_at_call 43; refine Calls.quiet_of_same (rname_w xn _ hsz hok)))
          go_wp2_with fail
          go_roundw
          case measure => simp [intOf]; omega
          case rel => exact ⟨k' + 1 + 1, by omega, by go_num, e, below_drewN hBA.out _⟩
        · have hle' : (Op.bytesLess xn.toList y.name.toList || xn.toList == y.name.toList) = true := by rw [hle]; simp [j10]
          have e := Lib.hid (hno.out (by rw [hg.out]; unfold goodB; simp [hok, j1', j2', j3', hpv, j10]))
          clear hpv j10 hle
          go_quiet ((go_at_call 43; refine Calls.quiet_of_same (rname_w xn _ hsz hok)))
          go_wp2_with fail
          go_ret
          exact ⟨by rw [e.out]; rfl, below_drewN hBA.out _⟩
    · obtain rfl : k = l.length := by omega
      clear hlt
      have e := Lib.hid (mayOk_yes h64 hall.out)
      go_wp2_with fail
      go_ret
      exact ⟨by rw [e.out]; rfl, hB⟩
end Go.Proofs.YthnodmbenbiahaaDoor
