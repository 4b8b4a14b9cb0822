/- Law SnapChunks, walked. -/
import Derived.Test.YthnodmbenbiahaaDoorSnapC
import Derived.Test.YthnodmbenbiahaaDoorAwake8
import Derived.Deep.DrawnRows
namespace Go.Proofs.YthnodmbenbiahaaDoor
open Go.RowKit Go.Maps

set_option maxRecDepth 100000 in
set_option maxHeartbeats 2000000 in
theorem snapChunks_walk (w : World) (hT : Tabs w) {ok : Nat → Prop} {A : Option Addr} {n c : Nat} {l : List UInt8} (hB : Bytes w ok (.slice A n c) l) (i m : Int) (i0 : -9223372036854775808 ≤ i) (i1 : i ≤ 9223372036854775807) (m0 : -9223372036854775808 ≤ m) (m1 : m ≤ 9223372036854775807) :
    Calls Tryd.prog 7 #[.slice A n c, .int .i64 i, .int .i64 m] w fun e w' => e = .returned (.bool true) ∧ Below w.heap.size w w' := by
  replace hT := Lib.hid hT
  by_cases hbig : 40000 < n
  · have j1 : (40000 : Int) < n := by omega
    have haw := awake8 hT.out
    clear hB
    go_enter Tryd.func7, Tryd.ntmps7
    go_wp2_with fail
    refine haw.mono ?_
    clear haw
    rintro e w1 ⟨rfl, hb⟩
    go_wp2_with fail
    go_ret
    exact ⟨rfl, hb⟩
  · have j1 : ¬ (40000 : Int) < n := by omega
    have hmx : (n : Int) ≤ 9223372036854775807 := by omega
    obtain ⟨k, hk⟩ : ∃ k, k = cnt n := ⟨_, rfl⟩
    have hch := rchunks_any hB (by omega) hk
    have hct : ∀ (W : World), Calls Tryd.prog 28 #[.int .i64 n] W fun e w' => e = .returned (.int .i64 k) ∧ w' = W := fun W => (scount_nat (w := W) n (by omega) hk).mono fun e w' h => ⟨h.1, h.2.symm⟩
    replace hB := Lib.hid hB
    have hk1 := cnt_pos n
    have hk2 : k ≤ 1000 := by rw [hk]; unfold cnt; omega
    replace hk := Lib.hid hk
    by_cases hin : 0 ≤ i ∧ i < k
    · obtain ⟨I, rfl⟩ : ∃ I : Nat, i = I := ⟨i.toNat, by omega⟩
      have hI : I < k := by omega
      obtain ⟨L, hL⟩ : ∃ L, (l.drop (256 * I)).take 256 = L := ⟨_, rfl⟩
      replace hL := Lib.hid hL
      have h0 : (0 : Int) ≤ I := by omega
      have h1 : decide ((0 : Int) ≤ I) = true := decide_eq_true h0
      have h2 : (I : Int) < k := by omega
      have h3 : decide ((I : Int) < k) = true := decide_eq_true h2
      clear hin
      go_enter Tryd.func7, Tryd.ntmps7
      go_wp2_with fail
      refine hch.mono ?_
      clear hch
      rintro e w1 ⟨B, d, vs, rfl, r1, hvs, hb1⟩
      have hcn := schunk_yes (hB.out.step (Same.of_below hb1 ok)) (by omega) I (by rw [← hk.out]; exact hI) hL.out
      obtain ⟨Aj, mj, cj, hj1, hj2⟩ := hvs I hI
      rw [hL.out] at hj2
      obtain ⟨B', d', e', _, _, hcl⟩ := own_form r1
      obtain ⟨rb, ro, e2, hok, hcl⟩ := hcl (by intro e; rw [e] at hj1; cases hj1)
      have hcel := hcl I _ hj1
      have e3 : B = some ⟨rb, ro, none⟩ := by injection e' with e4; rw [e4, e2]
      subst e3
      replace hb1 := Lib.hid hb1
      replace hct := Lib.hid hct
      clear r1 hvs hcl hok e' e2
      go_wp2_with fail
      refine hcn.mono ?_
      clear hcn
      rintro e w2 ⟨⟨A1, c1, rfl, r1⟩, hb2⟩
      have hcel2 := (hb2.cell (p := ⟨rb, ro + I, none⟩) (cell_lt hcel)).trans hcel
      have hb3 := Lib.hid (hb1.out.trans (hb2.mono hb1.out.size))
      have cv1 : ∀ x, (convert 22 9 (.slice A1 L.length c1)).run Tryd.prog (w2.drewN x) = .ok (.string (strOf L)) (w2.drewN x) := fun x => run_string (P := Tryd.prog) ((Reads.of_own (α := UInt8) (enc := byteV) r1).step (Same.drewN w2 x _)) Tryd.underlying22 Tryd.underlying5 Tryd.underlying9
      have cv2 : ∀ x, (convert 22 9 (.slice Aj mj cj)).run Tryd.prog (w2.drewN x) = .ok (.string (strOf L)) (w2.drewN x) := fun x => run_string (P := Tryd.prog) ((hj2.step (Same.of_below hb3.out ok)).step (Same.drewN w2 x _)) Tryd.underlying22 Tryd.underlying5 Tryd.underlying9
      clear r1 hb1 hb2 hcel hj1 hj2
      go_wp2_with fail
      go_quiet ((go_at_call 28; refine Calls.quiet_of_same (hct.out _)))
      have hbq : Below w.heap.size w (w2.drewN nq) := ⟨hb3.out.os, hb3.out.tape, hb3.out.output, hb3.out.size, hb3.out.block⟩
      clear h0 h1 h2 h3 cv1 cv2 hcel2
      generalize w2.drewN nq = W9 at *
      have haw := awake8 (hT.out.below hbq)
      replace hbq := Lib.hid hbq
      by_cases hm : m < 0
      · have hcm := scount_neg (w := W9) m hm
        go_wp2_with fail
        refine hcm.mono ?_
        clear hcm
        rintro e w' ⟨rfl, rfl⟩
        go_wp2_with fail
        refine haw.mono ?_
        clear haw
        rintro e w' ⟨rfl, hb⟩
        go_wp2_with fail
        go_ret
        exact ⟨rfl, hbq.out.trans (hb.mono hbq.out.size)⟩
      · obtain ⟨M, rfl⟩ : ∃ M : Nat, m = M := ⟨m.toNat, by omega⟩
        obtain ⟨K, hK⟩ : ∃ K, K = cnt M := ⟨_, rfl⟩
        have hcm := scount_nat (w := W9) M (by omega) hK
        by_cases hr : 0 < M % 256
        · have q1 : (0 : Int) < (M : Int) % 256 := by omega
          have q2 : decide ((0 : Int) < (M : Int) % 256) = true := decide_eq_true q1
          have q3 : (K : Int) = (M : Int) / 256 + 1 := by rw [hK]; unfold cnt; omega
          clear hr hK
          go_wp2_with fail
          refine hcm.mono ?_
          clear hcm
          rintro e w' ⟨rfl, rfl⟩
          go_wp2_with fail
          refine haw.mono ?_
          clear haw
          rintro e w' ⟨rfl, hb⟩
          go_wp2_with fail
          go_ret
          exact ⟨rfl, hbq.out.trans (hb.mono hbq.out.size)⟩
        · have q1 : ¬ (0 : Int) < (M : Int) % 256 := by omega
          have q2 : decide ((0 : Int) < (M : Int) % 256) = false := decide_eq_false q1
          by_cases h0 : M = 0
          · subst h0
            have q3 : K = 1 := by rw [hK]; rfl
            subst q3
            clear hr hK
            go_wp2_with fail
            refine hcm.mono ?_
            clear hcm
            rintro e w' ⟨rfl, rfl⟩
            go_wp2_with fail
            refine haw.mono ?_
            clear haw
            rintro e w' ⟨rfl, hb⟩
            go_wp2_with fail
            go_ret
            exact ⟨rfl, hbq.out.trans (hb.mono hbq.out.size)⟩
          · have q3 : (K : Int) = (M : Int) / 256 := by rw [hK]; unfold cnt; omega
            have q4 : ¬ (M : Int) = 0 := by omega
            have q5 : ((M : Int) == 0) = false := by simpa using q4
            clear hr hK
            go_wp2_with fail
            refine hcm.mono ?_
            clear hcm
            rintro e w' ⟨rfl, rfl⟩
            go_wp2_with fail
            refine haw.mono ?_
            clear haw
            rintro e w' ⟨rfl, hb⟩
            go_wp2_with fail
            go_ret
            exact ⟨rfl, hbq.out.trans (hb.mono hbq.out.size)⟩
    · replace hin := Lib.hid hin
      go_enter Tryd.func7, Tryd.ntmps7
      go_wp2_with fail
      refine hch.mono ?_
      clear hch
      rintro e w1 ⟨B, d, vs, rfl, r1, hvs, hb1⟩
      have hcn := schunk_no (w := w1) (A := A) (n := n) (c := c) (by omega) i (by have := hin.out; rw [← hk.out]; omega)
      replace hb1 := Lib.hid hb1
      clear r1 hvs
      go_wp2_with fail
      refine hcn.mono ?_
      clear hcn
      rintro e w' ⟨rfl, rfl⟩
      replace hct := Lib.hid hct
      by_cases h0 : i < 0
      · have h1 : decide (0 ≤ i) = false := decide_eq_false (by omega)
        have h2 : ¬ 0 ≤ i := by omega
        go_wp2_with fail
        go_quiet ((go_at_call 28; refine Calls.quiet_of_same (hct.out _)))
        have hbq : Below w.heap.size w (w1.drewN nq) := ⟨hb1.out.os, hb1.out.tape, hb1.out.output, hb1.out.size, hb1.out.block⟩
        clear h0 h1 h2
        generalize w1.drewN nq = W9 at *
        have haw := awake8 (hT.out.below hbq)
        replace hbq := Lib.hid hbq
        by_cases hm : m < 0
        · have hcm := scount_neg (w := W9) m hm
          go_wp2_with fail
          refine hcm.mono ?_
          clear hcm
          rintro e w' ⟨rfl, rfl⟩
          go_wp2_with fail
          refine haw.mono ?_
          clear haw
          rintro e w' ⟨rfl, hb⟩
          go_wp2_with fail
          go_ret
          exact ⟨rfl, hbq.out.trans (hb.mono hbq.out.size)⟩
        · obtain ⟨M, rfl⟩ : ∃ M : Nat, m = M := ⟨m.toNat, by omega⟩
          obtain ⟨K, hK⟩ : ∃ K, K = cnt M := ⟨_, rfl⟩
          have hcm := scount_nat (w := W9) M (by omega) hK
          by_cases hr : 0 < M % 256
          · have q1 : (0 : Int) < (M : Int) % 256 := by omega
            have q2 : decide ((0 : Int) < (M : Int) % 256) = true := decide_eq_true q1
            have q3 : (K : Int) = (M : Int) / 256 + 1 := by rw [hK]; unfold cnt; omega
            clear hr hK
            go_wp2_with fail
            refine hcm.mono ?_
            clear hcm
            rintro e w' ⟨rfl, rfl⟩
            go_wp2_with fail
            refine haw.mono ?_
            clear haw
            rintro e w' ⟨rfl, hb⟩
            go_wp2_with fail
            go_ret
            exact ⟨rfl, hbq.out.trans (hb.mono hbq.out.size)⟩
          · have q1 : ¬ (0 : Int) < (M : Int) % 256 := by omega
            have q2 : decide ((0 : Int) < (M : Int) % 256) = false := decide_eq_false q1
            by_cases h0 : M = 0
            · subst h0
              have q3 : K = 1 := by rw [hK]; rfl
              subst q3
              clear hr hK
              go_wp2_with fail
              refine hcm.mono ?_
              clear hcm
              rintro e w' ⟨rfl, rfl⟩
              go_wp2_with fail
              refine haw.mono ?_
              clear haw
              rintro e w' ⟨rfl, hb⟩
              go_wp2_with fail
              go_ret
              exact ⟨rfl, hbq.out.trans (hb.mono hbq.out.size)⟩
            · have q3 : (K : Int) = (M : Int) / 256 := by rw [hK]; unfold cnt; omega
              have q4 : ¬ (M : Int) = 0 := by omega
              have q5 : ((M : Int) == 0) = false := by simpa using q4
              clear hr hK
              go_wp2_with fail
              refine hcm.mono ?_
              clear hcm
              rintro e w' ⟨rfl, rfl⟩
              go_wp2_with fail
              refine haw.mono ?_
              clear haw
              rintro e w' ⟨rfl, hb⟩
              go_wp2_with fail
              go_ret
              exact ⟨rfl, hbq.out.trans (hb.mono hbq.out.size)⟩
      · have h1 : decide (0 ≤ i) = true := decide_eq_true (by omega)
        have h2 : 0 ≤ i := by omega
        have h3 : decide (i < k) = false := decide_eq_false (by have := hin.out; omega)
        have h4 : ¬ i < k := by have := hin.out; omega
        go_wp2_with fail
        go_quiet ((go_at_call 28; refine Calls.quiet_of_same (hct.out _)))
        have hbq : Below w.heap.size w (w1.drewN nq) := ⟨hb1.out.os, hb1.out.tape, hb1.out.output, hb1.out.size, hb1.out.block⟩
        clear h0 h1 h2 h3 h4
        generalize w1.drewN nq = W9 at *
        have haw := awake8 (hT.out.below hbq)
        replace hbq := Lib.hid hbq
        by_cases hm : m < 0
        · have hcm := scount_neg (w := W9) m hm
          go_wp2_with fail
          refine hcm.mono ?_
          clear hcm
          rintro e w' ⟨rfl, rfl⟩
          go_wp2_with fail
          refine haw.mono ?_
          clear haw
          rintro e w' ⟨rfl, hb⟩
          go_wp2_with fail
          go_ret
          exact ⟨rfl, hbq.out.trans (hb.mono hbq.out.size)⟩
        · obtain ⟨M, rfl⟩ : ∃ M : Nat, m = M := ⟨m.toNat, by omega⟩
          obtain ⟨K, hK⟩ : ∃ K, K = cnt M := ⟨_, rfl⟩
          have hcm := scount_nat (w := W9) M (by omega) hK
          by_cases hr : 0 < M % 256
          · have q1 : (0 : Int) < (M : Int) % 256 := by omega
            have q2 : decide ((0 : Int) < (M : Int) % 256) = true := decide_eq_true q1
            have q3 : (K : Int) = (M : Int) / 256 + 1 := by rw [hK]; unfold cnt; omega
            clear hr hK
            go_wp2_with fail
            refine hcm.mono ?_
            clear hcm
            rintro e w' ⟨rfl, rfl⟩
            go_wp2_with fail
            refine haw.mono ?_
            clear haw
            rintro e w' ⟨rfl, hb⟩
            go_wp2_with fail
            go_ret
            exact ⟨rfl, hbq.out.trans (hb.mono hbq.out.size)⟩
          · have q1 : ¬ (0 : Int) < (M : Int) % 256 := by omega
            have q2 : decide ((0 : Int) < (M : Int) % 256) = false := decide_eq_false q1
            by_cases h0 : M = 0
            · subst h0
              have q3 : K = 1 := by rw [hK]; rfl
              subst q3
              clear hr hK
              go_wp2_with fail
              refine hcm.mono ?_
              clear hcm
              rintro e w' ⟨rfl, rfl⟩
              go_wp2_with fail
              refine haw.mono ?_
              clear haw
              rintro e w' ⟨rfl, hb⟩
              go_wp2_with fail
              go_ret
              exact ⟨rfl, hbq.out.trans (hb.mono hbq.out.size)⟩
            · have q3 : (K : Int) = (M : Int) / 256 := by rw [hK]; unfold cnt; omega
              have q4 : ¬ (M : Int) = 0 := by omega
              have q5 : ((M : Int) == 0) = false := by simpa using q4
              clear hr hK
              go_wp2_with fail
              refine hcm.mono ?_
              clear hcm
              rintro e w' ⟨rfl, rfl⟩
              go_wp2_with fail
              refine haw.mono ?_
              clear haw
              rintro e w' ⟨rfl, hb⟩
              go_wp2_with fail
              go_ret
              exact ⟨rfl, hbq.out.trans (hb.mono hbq.out.size)⟩
end Go.Proofs.YthnodmbenbiahaaDoor
