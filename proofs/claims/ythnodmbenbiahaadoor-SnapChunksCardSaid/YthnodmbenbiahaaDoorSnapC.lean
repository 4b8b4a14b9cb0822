/- The program's layer 8 (snap): Chunk; and the reference's Chunks. -/
import Derived.Test.YthnodmbenbiahaaDoorSnapA
namespace Go.Proofs.YthnodmbenbiahaaDoor
open Go.RowKit Go.Maps

set_option maxRecDepth 100000 in
theorem schunk_no {w : World} {A : Option Addr} {n c : Nat} (hn : n ≤ 9223372036854775807) (i : Int) (h : i < 0 ∨ cnt n ≤ i) :
    Calls Tryd.prog 27 #[.slice A n c, .int .i64 i] w fun e w' => e = .returned (.tuple #[.slice none 0 0, .bool false]) ∧ w = w' := by
  have hc := scount_nat (w := w) n hn rfl
  by_cases h0 : i < 0
  · go_enter Tryd.func27, Tryd.ntmps27
    go_wp2_with fail
    go_ret2
    exact ⟨rfl, rfl⟩
  · have h1 : (cnt n : Int) ≤ i := h.elim (fun h => absurd h h0) id
    generalize cnt n = k at *
    clear h
    go_enter Tryd.func27, Tryd.ntmps27
    go_wp2_with fail
    refine hc.mono ?_
    clear hc
    rintro e w' ⟨rfl, rfl⟩
    go_wp2_with fail
    go_ret2
    exact ⟨rfl, rfl⟩
set_option maxRecDepth 100000 in
set_option maxHeartbeats 1000000 in
theorem schunk_yes {w : World} {ok : Nat → Prop} {A : Option Addr} {n c : Nat} {l : List UInt8} (hB : Bytes w ok (.slice A n c) l) (hn : n ≤ 1000000000) (i : Nat) (h : i < cnt n) {L : List UInt8} (hL : (l.drop (256 * i)).take 256 = L) :
    Calls Tryd.prog 27 #[.slice A n c, .int .i64 i] w fun e w' => (∃ A1 c1, e = .returned (.tuple #[.slice A1 L.length c1, .bool true]) ∧ w'.ownsRow w.heap.size 5 1 (.slice A1 L.length c1) L.length (L.map byteV)) ∧ Below w.heap.size w w' := by
  have hlc : n ≤ c := by obtain ⟨A', c', e, h1, _⟩ := hB; injection e with e1 e2 e3; omega
  have hc := scount_nat (w := w) n (by omega) rfl
  obtain rfl := hB.len
  obtain ⟨s, hs⟩ : ∃ s, s = 256 * i := ⟨_, rfl⟩
  rw [← hs] at hL
  have hi : s ≤ l.length := by unfold cnt at h; omega
  have hLl : L.length = min (l.length - s) 256 := by rw [← hL, List.length_take, List.length_drop]; omega
  have h0 : ¬ (i : Int) < 0 := by omega
  have h1 : ¬ (cnt l.length : Int) ≤ i := by omega
  have hfr := hB.from s hi
  have htk := hfr.take (L.length) (by omega)
  have hLL : (l.drop s).take L.length = L := by rw [hLl, ← hL]; rw [List.take_eq_take_iff, List.length_drop]; omega
  rw [hLL] at htk
  have hcl := clone_sl htk (by omega)
  have m1 : (i : Int) * 256 = s := by omega
  have m2 : ((i : Int) + 1) * 256 = s + 256 := by omega
  have m3 : min (l.length : Int) (s + 256) = ((s + L.length : Nat) : Int) := by omega
  have m4 : (s : Int) ≤ ((s + L.length : Nat) : Int) := by omega
  have m5 : ((s + L.length : Nat) : Int) ≤ c := by omega
  have m6 : s + L.length - s = L.length := by omega
  generalize cnt l.length = k at *
  replace hs := Lib.hid hs
  replace hL := Lib.hid hL
  replace hLl := Lib.hid hLl
  replace hB := Lib.hid hB
  clear h hfr htk hLL
  by_cases hcs : c = s
  · rw [if_pos hcs, hcs, Nat.sub_self] at hcl
    go_enter Tryd.func27, Tryd.ntmps27
    go_wp2_with fail
    refine hc.mono ?_
    clear hc
    rintro e w' ⟨rfl, rfl⟩
    go_wp2_with fail
    refine hcl.mono ?_
    clear hcl
    rintro e w1 ⟨A1, c1, rfl, r1, hb1⟩
    go_wp2_with fail
    go_ret2
    exact ⟨⟨_, _, rfl, r1⟩, hb1⟩
  · rw [if_neg hcs] at hcl
    go_enter Tryd.func27, Tryd.ntmps27
    go_wp2_with fail
    refine hc.mono ?_
    clear hc
    rintro e w' ⟨rfl, rfl⟩
    go_wp2_with fail
    refine hcl.mono ?_
    clear hcl
    rintro e w1 ⟨A1, c1, rfl, r1, hb1⟩
    go_wp2_with fail
    go_ret2
    exact ⟨⟨_, _, rfl, r1⟩, hb1⟩
theorem chunks_more {w : World} {ok : Nat → Prop} {l : List UInt8} {q : Nat} {vs : List Value} (hvs : ∀ j, j < q → ∃ Aj m cj, vs[j]? = some (.slice Aj m cj) ∧ Bytes w ok (.slice Aj m cj) ((l.drop (256 * j)).take 256)) (hl : vs.length = q) {A : Option Addr} {m c : Nat} (hB : Bytes w ok (.slice A m c) ((l.drop (256 * q)).take 256)) :
    ∀ j, j < q + 1 → ∃ Aj mj cj, (vs ++ [Value.slice A m c])[j]? = some (.slice Aj mj cj) ∧ Bytes w ok (.slice Aj mj cj) ((l.drop (256 * j)).take 256) := by
  intro j hj
  by_cases h : j < q
  · obtain ⟨Aj, m', cj, h1, h2⟩ := hvs j h
    exact ⟨Aj, m', cj, by rw [List.getElem?_append_left (by omega)]; exact h1, h2⟩
  · obtain rfl : j = q := by omega
    exact ⟨A, m, c, by rw [← hl]; simp, hB⟩
theorem info_bytes : (Tryd.prog.info? 22).map (fun i => (i.zero, i.size, i.bytes)) = some (some (.slice none 0 0), 1, 24) := by kernel_rfl
set_option maxRecDepth 100000 in
set_option maxHeartbeats 1000000 in
theorem rchunks_any {w : World} {ok : Nat → Prop} {A : Option Addr} {n c : Nat} {l : List UInt8} (hB : Bytes w ok (.slice A n c) l) (hn : n ≤ 1000000) {k : Nat} (hk : k = cnt n) :
    Calls Tryd.prog 26 #[.slice A n c] w fun e w' => ∃ (B : Option Addr) (d : Nat) (vs : List Value), e = .returned (.slice B k d) ∧ w'.ownsRow w.heap.size 22 1 (.slice B k d) k vs ∧ (∀ j, j < k → ∃ Aj m cj, vs[j]? = some (.slice Aj m cj) ∧ Bytes w ok (.slice Aj m cj) ((l.drop (256 * j)).take 256)) ∧ Below w.heap.size w w' := by
  have hlc : n ≤ c := by obtain ⟨A', c', e, h1, _⟩ := hB; injection e with e1 e2 e3; omega
  obtain rfl := hB.len
  replace hB := Lib.hid hB
  replace hk := Lib.hid hk
  have hm := Lib.hid (World.ownsRow_made (base := w.heap.size) (size := 1) (e := 22) w #[] 0 (Nat.le_refl _) (Nat.zero_le _) rfl)
  go_enter Tryd.func26, Tryd.ntmps26
  go_wp2_with fail
  go_loopw [0, 3, 4] (fun s v i wr => ∃ (q n : Nat) (A : Option Addr) (c : Nat) (B : Option Addr) (d : Nat) (vs : List Value), i = .int .i64 q ∧ s = .slice A n c ∧ v = .slice B q d ∧ n + 256 * q = l.length ∧ n ≤ c ∧ (q = 0 ∨ 0 < n) ∧ Hid (Bytes w ok (.slice A n c) (l.drop (256 * q))) ∧ Hid (wr.ownsRow w.heap.size 22 1 (.slice B q d) q vs) ∧ Hid (∀ j, j < q → ∃ Aj m cj, vs[j]? = some (.slice Aj m cj) ∧ Bytes w ok (.slice Aj m cj) ((l.drop (256 * j)).take 256)) ∧ Below w.heap.size w wr) (fun _ _ i _ => 2000000 - (intOf i).toNat)
  case atStart => exact ⟨0, l.length, A, c, _, _, [], rfl, rfl, rfl, rfl, hlc, .inl rfl, hB, hm, Lib.hid (fun j hj => absurd hj (Nat.not_lt_zero _)), (Below.refl _ _).alloc (Nat.le_refl _) _⟩
  case round =>
    obtain ⟨q, n, A, c, B, d, vs, rfl, rfl, rfl, hnl, hlc, hq, hBy, hrow, hvs, hBe⟩ := hrel
    have i0 : (n : Int) ≤ c := by omega
    by_cases hbig : 256 < n
    · have i1 : (256 : Int) < n := by omega
      have i2 : ¬ c = 256 := by omega
      have i3 : (256 : Int) ≤ n := by omega
      have i4 : (256 : Int) ≤ c := by omega
      have i5 : (q : Int) + 1 ≤ 9223372036854775807 := by omega
      have hrow1 := Lib.hid (own_step hrow.out (Same.alloc wr (.cells #[.slice A 256 c] 22) (fun _ => True)) (fun _ _ => trivial))
      have hnew := Lib.hid (Cells.of_blk (cs := [.slice A 256 c]) (heap_alloc_new wr (.cells #[.slice A 256 c] 22)))
      have hbs := hBe.size
      replace hBe := Lib.hid (hBe.alloc hBe.size (.cells #[.slice A 256 c] 22))
      clear hrow
      go_wp2_with (at_builtin; refine wpList_append rfl _ _ 57 rfl Tryd.underlying57 info_bytes rfl (by decide) (n := q) (xs := vs) rfl hrow1.out (A := some ⟨wr.heap.size, 0, none⟩) (m := 1) (c := 1) (news := [.slice A 256 c]) rfl (by simp) hnew.out (by simp [Value.oneCell']) (by omega) (by omega) (by simp; omega) ?_; intro v1 w1 r1 r2 r3; obtain ⟨B1, d1, rfl, _, _⟩ := own_form r1; replace r1 := Lib.hid r1; replace r2 := Lib.hid r2)
      go_roundw
      case measure => simp [intOf]; omega
      case rel =>
        have hlq : vs.length = q := by have := hrow1.out.1; omega
        refine ⟨q + 1, n - 256, _, c - 256, B1, d1, vs ++ [.slice A 256 c], by first | rfl | go_num, rfl, rfl, by omega, by omega, .inr (by omega), Lib.hid ?_, r1, Lib.hid (chunks_more (m := 256) hvs.out hlq (hBy.out.take 256 (by omega))), hBe.out.grown r2.out (by simp; omega) (fun k hk => own_base hrow1.out k hk)⟩
        have h9 := hBy.out.from 256 (by omega)
        rw [if_neg i2, List.drop_drop] at h9
        exact h9
    · have i1 : ¬ (256 : Int) < n := by omega
      have hrow1 := Lib.hid (own_step hrow.out (Same.alloc wr (.cells #[.slice A n c] 22) (fun _ => True)) (fun _ _ => trivial))
      have hnew := Lib.hid (Cells.of_blk (cs := [.slice A n c]) (heap_alloc_new wr (.cells #[.slice A n c] 22)))
      have hbs := hBe.size
      replace hBe := Lib.hid (hBe.alloc hBe.size (.cells #[.slice A n c] 22))
      clear hrow
      go_wp2_with (at_builtin; refine wpList_append rfl _ _ 57 rfl Tryd.underlying57 info_bytes rfl (by decide) (n := q) (xs := vs) rfl hrow1.out (A := some ⟨wr.heap.size, 0, none⟩) (m := 1) (c := 1) (news := [.slice A n c]) rfl (by simp) hnew.out (by simp [Value.oneCell']) (by omega) (by omega) (by simp; omega) ?_; intro v1 w1 r1 r2 r3; obtain ⟨B1, d1, rfl, _, _⟩ := own_form r1; replace r1 := Lib.hid r1; replace r2 := Lib.hid r2)
      go_ret
      have hlq : vs.length = q := by have := hrow1.out.1; omega
      have hk1 : k = q + 1 := by rw [hk.out]; unfold cnt; omega
      subst hk1
      refine ⟨B1, d1, rfl, _, r1.out, chunks_more hvs.out hlq ?_, hBe.out.grown r2.out (by simp; omega) (fun k hk => own_base hrow1.out k hk)⟩
      rw [List.take_of_length_le (by rw [List.length_drop]; omega)]
      exact hBy.out
end Go.Proofs.YthnodmbenbiahaaDoor
