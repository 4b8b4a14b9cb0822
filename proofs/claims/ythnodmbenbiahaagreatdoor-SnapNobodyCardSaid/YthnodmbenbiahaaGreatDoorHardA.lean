import Derived.Test.YthnodmbenbiahaaGreatDoorFrameC
import Derived.Test.YthnodmbenbiahaaGreatDoorTabs
import Derived.Laws.ResultCell
namespace Go.Proofs.YthnodmbenbiahaaGreatDoor
/- The program's layer 7 (hard): Encode, Decode. -/
section
open Go.RowKit Go.Maps

/-- A hard state as a value. -/
def hardV (h : HardD) : Value := .agg #[.int .u64 h.term, .int .i64 h.vote, .int .u64 h.commit]
set_option maxRecDepth 100000 in
set_option maxHeartbeats 2000000 in
theorem hencode_ok {w : World} (hT : Tabs w) (h : HardD) (hf : HardFit h) (hm : hMay h = true) {L : List UInt8} (hL : L = hEnc h) :
    Calls Tryz.prog 25 #[.agg #[.int .u64 h.term, .int .i64 h.vote, .int .u64 h.commit]] w fun e w' => ∃ A' c', e = .returned (.tuple #[.slice A' L.length c', .int .i64 0]) ∧ w'.ownsRow w.heap.size 5 1 (.slice A' L.length c') L.length (L.map byteV) ∧ Below w.heap.size w w' := by
  obtain ⟨t, v, cm⟩ := h
  obtain ⟨f1, f2, f3, f4⟩ := hf
  obtain ⟨v1, v2⟩ := (hMay_iff _).1 hm
  simp only at f1 f2 f3 f4 v1 v2 ⊢
  have hbl := hBody_length (h := ⟨t, v, cm⟩) f1 hm f4
  obtain ⟨V, rfl⟩ := Int.eq_ofNat_of_zero_le v1
  have i1 : ¬ (V : Int) < 0 := by omega
  have i2 : ¬ (7 : Int) < (V : Int) := by omega
  have i3 : IntKind.u64.wrap (V : Int) = V := by rw [IntKind.wrap_u64]; omega
  have hLs : L = frameB 2 ((uv t ++ uv V) ++ uv cm) := hL
  have hlen : ((uv t ++ uv V) ++ uv cm).length ≤ 30 := hbl
  clear hL hbl hm
  generalize hU1 : uv t = U1 at *
  generalize hU2 : U1 ++ uv V = U2 at *
  generalize hU3 : U2 ++ uv cm = U3 at *
  have hK := Lib.hid hT.known
  replace hLs := Lib.hid hLs
  have l1 : U1.length ≤ U2.length := by rw [← hU2]; simp
  have l2 : U2.length ≤ U3.length := by rw [← hU3]; simp
  generalize hO : (Obj.cells #[.int .u64 (t : Int), .int .i64 (V : Int), .int .u64 (cm : Int)] 49) = O
  have bx : (w.alloc O).heap[w.heap.size]? = some (.cells #[.int .u64 (t : Int), .int .i64 (V : Int), .int .u64 (cm : Int)] 49) := by rw [← hO]; exact heap_alloc_new w _
  have hb0 := Lib.hid ((Below.refl w.heap.size w).alloc (Nat.le_refl _) O)
  have z0 : (w.alloc O).cell? ⟨w.heap.size, 0, none⟩ = some (.int .u64 (t : Int)) := cell_blk bx 0
  have z1 : (w.alloc O).cell? ⟨w.heap.size, 1, none⟩ = some (.int .i64 (V : Int)) := cell_blk bx 1
  have z2 : (w.alloc O).cell? ⟨w.heap.size, 2, none⟩ = some (.int .u64 (cm : Int)) := cell_blk bx 2
  have hsz : (w.alloc O).heap.size = w.heap.size + 1 := by simp
  clear bx
  subst hO
  generalize hW : w.alloc (.cells #[.int .u64 (t : Int), .int .i64 (V : Int), .int .u64 (cm : Int)] 49) = W at *
  have hKW := Lib.hid (hK.out.below hb0.out hK.out.lt)
  have hKl : 1 < W.heap.size := by have := hK.out.lt; omega
  replace hU1 : [] ++ uv t = U1 := hU1
  clear hK hT
  go_enter Tryz.func25, Tryz.ntmps25
  go_wp2_with fail
  go_region_held3 (fun w' => w'.cell? ⟨w.heap.size, 0, none⟩ = some (.int .u64 (t : Int)) ∧ w'.cell? ⟨w.heap.size, 1, none⟩ = some (.int .i64 (V : Int)) ∧ w'.cell? ⟨w.heap.size, 2, none⟩ = some (.int .u64 (cm : Int))) (first | exact ⟨x0, x1, x2⟩ | exact ⟨s0, s1, s2⟩ | exact ⟨q0, q1, q2⟩ | exact ⟨p0, p1, p2⟩ | exact ⟨z0, z1, z2⟩) (first | (go_at_call 64; refine (fput_any (hKW.out.below hb3.out hKl) 2 hr3.out (by omega) hLs.out).mono ?_; rintro e w4 ⟨A4, c4, rfl, r4, b4⟩; have hs4 := b4.size; have x0 := (b4.cell (p := ⟨w.heap.size, 0, none⟩) (by show w.heap.size < w3.heap.size; omega)).trans s0; have x1 := (b4.cell (p := ⟨w.heap.size, 1, none⟩) (by show w.heap.size < w3.heap.size; omega)).trans s1; have x2 := (b4.cell (p := ⟨w.heap.size, 2, none⟩) (by show w.heap.size < w3.heap.size; omega)).trans s2; have hb4 : Hid (Below W.heap.size W w4) := Lib.hid (hb3.out.trans (b4.mono (by omega))); replace r4 := Lib.hid r4; clear b4) | (go_at_call 65; refine (wuv_any hr2.out cm f4 (by omega) hU3).mono ?_; rintro e w3 ⟨A3, c3, rfl, r3, b3⟩; have hs3 := b3.size; have s0 := (b3.cell (p := ⟨w.heap.size, 0, none⟩) (by show w.heap.size < w2.heap.size; omega)).trans q0; have s1 := (b3.cell (p := ⟨w.heap.size, 1, none⟩) (by show w.heap.size < w2.heap.size; omega)).trans q1; have s2 := (b3.cell (p := ⟨w.heap.size, 2, none⟩) (by show w.heap.size < w2.heap.size; omega)).trans q2; have hr3 : Hid (Bytes w3 (fun _ => True) (.slice A3 U3.length c3) U3) := Lib.hid ((Reads.of_own (α := UInt8) (enc := byteV) r3).mono (fun _ _ _ => trivial)); have hb3 : Hid (Below W.heap.size W w3) := Lib.hid (hb2.out.trans (b3.mono (by omega))); clear r3 b3) | (go_at_call 65; refine (wuv_any hr1.out V (by omega) (by omega) hU2).mono ?_; rintro e w2 ⟨A2, c2, rfl, r2, b2⟩; have hs2 := b2.size; have q0 := (b2.cell (p := ⟨w.heap.size, 0, none⟩) (by show w.heap.size < w1.heap.size; omega)).trans p0; have q1 := (b2.cell (p := ⟨w.heap.size, 1, none⟩) (by show w.heap.size < w1.heap.size; omega)).trans p1; have q2 := (b2.cell (p := ⟨w.heap.size, 2, none⟩) (by show w.heap.size < w1.heap.size; omega)).trans p2; have hr2 : Hid (Bytes w2 (fun _ => True) (.slice A2 U2.length c2) U2) := Lib.hid ((Reads.of_own (α := UInt8) (enc := byteV) r2).mono (fun _ _ _ => trivial)); have hb2 : Hid (Below W.heap.size W w2) := Lib.hid (hb1.out.trans (b2.mono hs1)); clear r2 b2) | (go_at_call 65; refine (wuv_any (ok := fun _ => True) (l := []) (Reads.nil _ _ _) t f1 (Nat.zero_le _) hU1).mono ?_; rintro e w1 ⟨A1, c1, rfl, r1, b1⟩; have hs1 := b1.size; replace hs1 : W.heap.size ≤ w1.heap.size := hs1; have p0 := (b1.cell (p := ⟨w.heap.size, 0, none⟩) (by show w.heap.size < W.heap.size; omega)).trans z0; have p1 := (b1.cell (p := ⟨w.heap.size, 1, none⟩) (by show w.heap.size < W.heap.size; omega)).trans z1; have p2 := (b1.cell (p := ⟨w.heap.size, 2, none⟩) (by show w.heap.size < W.heap.size; omega)).trans z2; have hr1 : Hid (Bytes w1 (fun _ => True) (.slice A1 U1.length c1) U1) := Lib.hid ((Reads.of_own (α := UInt8) (enc := byteV) r1).mono (fun _ _ _ => trivial)); have hb1 : Hid (Below W.heap.size W w1) := Lib.hid ⟨b1.os, b1.tape, b1.output, b1.size, b1.block⟩; clear r1 b1))
  go_wp2_with fail
  go_ret2
  exact ⟨_, _, rfl, own_lower r4.out (by omega), hb0.out.trans (hb4.out.mono (by omega))⟩
set_option maxRecDepth 100000 in
theorem hencode_no {w : World} (h : HardD) (hm : hMay h = false) :
    Calls Tryz.prog 25 #[.agg #[.int .u64 h.term, .int .i64 h.vote, .int .u64 h.commit]] w fun e w' => e = .returned (.tuple #[.slice none 0 0, .int .i64 1]) ∧ Below w.heap.size w w' := by
  obtain ⟨t, v, cm⟩ := h
  have hv : v < 0 ∨ 7 < v := by
    by_cases h1 : v < 0
    · exact .inl h1
    · by_cases h2 : 7 < v
      · exact .inr h2
      · rw [(hMay_iff ⟨t, v, cm⟩).2 ⟨by simp only; omega, by simp only; omega⟩] at hm; cases hm
  simp only
  clear hm
  generalize hO : (Obj.cells #[.int .u64 (t : Int), .int .i64 v, .int .u64 (cm : Int)] 49) = O
  have bx : (w.alloc O).heap[w.heap.size]? = some (.cells #[.int .u64 (t : Int), .int .i64 v, .int .u64 (cm : Int)] 49) := by rw [← hO]; exact heap_alloc_new w _
  have hb0 := Lib.hid ((Below.refl w.heap.size w).alloc (Nat.le_refl _) O)
  have z1 : (w.alloc O).cell? ⟨w.heap.size, 1, none⟩ = some (.int .i64 v) := cell_blk bx 1
  clear bx
  subst hO
  generalize hW : w.alloc (.cells #[.int .u64 (t : Int), .int .i64 v, .int .u64 (cm : Int)] 49) = W at *
  by_cases h0 : v < 0
  · clear hv
    go_enter Tryz.func25, Tryz.ntmps25
    go_wp2_with fail
    go_ret2
    exact ⟨rfl, hb0.out⟩
  · have h7 : 7 < v := by omega
    clear hv
    go_enter Tryz.func25, Tryz.ntmps25
    go_wp2_with fail
    go_ret2
    exact ⟨rfl, hb0.out⟩
end
/- The program's layer 7 (hard): Decode. -/
section
open Go.RowKit Go.Maps

theorem hDec_err {l : List UInt8} {e : Int} (h : fNext l = .error e) : hDec l = none := by unfold hDec; rw [h]
theorem hDec_other {l d : List UInt8} {k : UInt8} {m : Nat} (h : fNext l = .ok (k, d, m)) (hn : ¬ (k = 2 ∧ m = l.length)) : hDec l = none := by unfold hDec; rw [h]; exact if_neg hn
theorem hDec_mine {l d : List UInt8} {m : Nat} (h : fNext l = .ok (2, d, m)) (hm : m = l.length) : hDec l = hRead d := by unfold hDec; rw [h]; exact if_pos ⟨rfl, hm⟩
theorem fNext_code {l : List UInt8} {e : Int} (h : fNext l = .error e) : e = 5 ∨ e = 12 := by
  unfold fNext at h
  cases hn : num l with
  | none =>
    rw [hn] at h
    simp only at h
    split at h <;> simp only [Except.error.injEq] at h <;> omega
  | some p =>
    rw [hn] at h
    simp only at h
    split at h
    · simp only [Except.error.injEq] at h; omega
    · split at h
      · simp only [Except.error.injEq] at h; omega
      · split at h
        · cases h
        · simp only [Except.error.injEq] at h; omega
/-- A block of three cells that has been laid, in a later world. -/
theorem three_at {w w1 : World} {g : Nat} {a b c : Value} {t : TypeId} (h : w.heap[g]? = some (.cells #[a, b, c] t)) (hb : Below w.heap.size w w1) :
    w1.cell? ⟨g, 0, none⟩ = some a ∧ w1.cell? ⟨g, 1, none⟩ = some b ∧ w1.cell? ⟨g, 2, none⟩ = some c ∧ w1.frozen? ⟨g, 0, none⟩ = false ∧ w1.frozen? ⟨g, 1, none⟩ = false ∧ w1.frozen? ⟨g, 2, none⟩ = false ∧ w1.heap[g]? = some (.cells #[a, b, c] t) := by
  have h1 := (hb.block g (Array.getElem?_eq_some_iff.1 h).1).trans h
  exact ⟨cell_blk h1 0, cell_blk h1 1, cell_blk h1 2, frozen_blk h1 0, frozen_blk h1 1, frozen_blk h1 2, h1⟩
/-- A block of three cells, stored into whole. -/
theorem three_set {w1 W2 : World} {g B : Nat} {a b c a' b' c' : Value} {t : TypeId} (h : w1.heap[g]? = some (.cells #[a, b, c] t)) (hB : B ≤ g) (e : ((w1.setCell ⟨g, 0, none⟩ a').setCell ⟨g, 1, none⟩ b').setCell ⟨g, 2, none⟩ c' = W2) :
    W2.cell? ⟨g, 0, none⟩ = some a' ∧ W2.cell? ⟨g, 1, none⟩ = some b' ∧ W2.cell? ⟨g, 2, none⟩ = some c' ∧ Below B w1 W2 := by
  subst e
  have h1 := set_blk h 0 a'
  have h2 := set_blk h1 1 b'
  have h3 := set_blk h2 2 c'
  refine ⟨?_, ?_, ?_, (((Below.refl B w1).setCell hB _).setCell hB _).setCell hB _⟩
  · rw [cell_blk h3 0]; simp
  · rw [cell_blk h3 1]; simp
  · rw [cell_blk h3 2]; simp
set_option maxRecDepth 100000 in
set_option maxHeartbeats 2000000 in
theorem hdecode_no {w : World} (hT : Tabs w) {ok : Nat → Prop} {A : Option Addr} {n c : Nat} {l : List UInt8} (hBy : Bytes w ok (.slice A n c) l) (hl : n ≤ 1000000) (hr : hDec l = none) :
    Calls Tryz.prog 23 #[.slice A n c] w fun e w' => e = .returned (.tuple #[.agg #[.int .u64 0, .int .i64 0, .int .u64 0], .int .i64 5]) ∧ Below w.heap.size w w' := by
  obtain rfl := hBy.len
  generalize hO : (Obj.cells #[.int .u64 0, .int .i64 0, .int .u64 0] 49) = O
  have bx : (w.alloc O).heap[w.heap.size]? = some (.cells #[.int .u64 0, .int .i64 0, .int .u64 0] 49) := by rw [← hO]; exact heap_alloc_new w _
  have hb0 := ((Below.refl w.heap.size w).alloc (Nat.le_refl _) O)
  have hT1 := hT.below hb0
  have hBy1 := hBy.step (Same.of_below hb0 ok)
  have hsz : (w.alloc O).heap.size = w.heap.size + 1 := by simp
  have z0 : (w.alloc O).cell? ⟨w.heap.size, 0, none⟩ = some (.int .u64 0) := cell_blk bx 0
  have z1 : (w.alloc O).cell? ⟨w.heap.size, 1, none⟩ = some (.int .i64 0) := cell_blk bx 1
  have z2 : (w.alloc O).cell? ⟨w.heap.size, 2, none⟩ = some (.int .u64 0) := cell_blk bx 2
  clear hT hBy
  subst hO
  generalize hW : w.alloc (.cells #[.int .u64 0, .int .i64 0, .int .u64 0] 49) = W at *
  cases hf : fNext l with
  | error e =>
    have hc := fnext_err hT1.known hBy1 (by omega) hf
    have he : ¬ e = 0 := by have := fNext_code hf; omega
    clear hf hr hT1 hBy1
    replace hb0 := Lib.hid hb0
    go_enter Tryz.func23, Tryz.ntmps23
    go_wp2_with fail
    refine hc.mono ?_
    clear hc
    rintro e1 w1 ⟨rfl, hb⟩
    obtain ⟨y0, y1, y2, y3, y4, y5, hbk⟩ := three_at bx hb
    replace hbk := Lib.hid hbk
    have hbB := Lib.hid (hb0.out.trans (hb.mono (by omega)))
    have hsz1 := hb.size
    clear bx z0 z1 z2 hb
    go_wp2_with fail
    generalize hW2 : ((w1.setCell ⟨w.heap.size, 0, none⟩ (.int .u64 0)).setCell ⟨w.heap.size, 1, none⟩ (.int .i64 0)).setCell ⟨w.heap.size, 2, none⟩ (.int .u64 0) = W2
    obtain ⟨q0, q1, q2, hb2⟩ := three_set hbk.out (Nat.le_refl _) hW2
    refine bodyPost_ret (v := .tuple #[.agg #[.int .u64 0, .int .i64 0, .int .u64 0], .int .i64 5]) (by simp [results, Tryz.results23, go_sem, q0, q1, q2]) rfl ⟨rfl, hbB.out.trans hb2⟩
  | ok x =>
    obtain ⟨k, d, m⟩ := x
    have hc := fnext_ok hT1.known hBy1 (by omega) hf
    have hok := fNext_ok hf
    by_cases hk : k = 2 ∧ m = l.length
    · obtain ⟨rfl, rfl⟩ := hk
      rw [hDec_mine hf rfl] at hr
      unfold hRead at hr
      simp only at hr
      obtain ⟨n1, p1, e1, hA⟩ : ∃ n1 p1 e1, rdNum d 0 0 = (n1, p1, e1) := ⟨_, _, _, rfl⟩
      rw [hA] at hr
      obtain ⟨n2, p2, e2, hBn⟩ : ∃ n2 p2 e2, rdMost d p1 e1 7 = (n2, p2, e2) := ⟨_, _, _, rfl⟩
      simp only at hr
      rw [hBn] at hr
      obtain ⟨n3, p3, e3, hC⟩ : ∃ n3 p3 e3, rdNum d p2 e2 = (n3, p3, e3) := ⟨_, _, _, rfl⟩
      simp only at hr
      rw [hC] at hr
      simp only at hr
      have hdl : d.length ≤ 1048576 := by omega
      have hre : ∃ r : Int, (r = if e3 = 0 then (if p3 = d.length then 0 else 5) else e3) ∧ r ≠ 0 := by
        refine ⟨_, rfl, ?_⟩
        split at hr
        · cases hr
        · rename_i h
          split
          · rename_i h3
            rw [if_neg (fun h4 => h ⟨h3, h4⟩)]
            decide
          · assumption
      obtain ⟨r, hr1, hr2⟩ := hre
      replace hr1 := Lib.hid hr1
      clear hf hr hT1 hBy1 hok
      replace hb0 := Lib.hid hb0
      go_enter Tryz.func23, Tryz.ntmps23
      go_wp2_with fail
      refine hc.mono ?_
      clear hc
      rintro e w1 ⟨⟨A1, c1, rfl, r1⟩, hb⟩
      obtain ⟨y0, y1, y2, y3, y4, y5, hbk⟩ := three_at bx hb
      have hbB := Lib.hid (hb0.out.trans (hb.mono (by omega)))
      have hsz1 := hb.size
      have hrd := wread_any r1 (by omega)
      replace hbk := Lib.hid hbk
      clear bx z0 z1 z2 hb r1 y0 y1 y2 y3 y4 y5
      go_wp2_with fail
      refine hrd.mono ?_
      clear hrd
      rintro e w2 ⟨rb, rfl, hR, hrb, hb2⟩
      have hne : w.heap.size ≠ rb := by omega
      have hbk2 := (hb2.block _ (Array.getElem?_eq_some_iff.1 hbk.out).1).trans hbk.out
      have hbB2 := hbB.out.trans (hb2.mono (by have := hbB.out.size; omega))
      have hc1 := wnum_any hR hA
      replace hbk2 := Lib.hid hbk2
      replace hbB2 := Lib.hid hbB2
      clear hR hb2 hbk hbB
      go_wp2_with fail
      refine hc1.mono ?_
      clear hc1
      rintro e w3 ⟨rfl, hO1⟩
      have hc2 := wmost_any hO1.1 7 (by decide) hBn
      replace hO1 := Lib.hid hO1
      go_wp2_with fail
      refine hc2.mono ?_
      clear hc2
      rintro e w4 ⟨rfl, hO2⟩
      have hO2' := hO1.out.more hO2
      have hc3 := wnum_any hO2'.1 hC
      replace hO2' := Lib.hid hO2'
      clear hO1 hO2
      go_wp2_with fail
      refine hc3.mono ?_
      clear hc3
      rintro e w5 ⟨rfl, hO3⟩
      have hO3' := hO2'.out.more hO3
      have hbk5 : w5.heap[w.heap.size]? = some (.cells #[.int .u64 0, .int .i64 0, .int .u64 0] 49) := hO3'.2.same.blk (k := w.heap.size) hne hbk2.out
      have hbB5 : Below w.heap.size w w5 := ⟨hO3'.2.os.trans hbB2.out.os, hO3'.2.tape.trans hbB2.out.tape, hO3'.2.output.trans hbB2.out.output, Nat.le_trans hbB2.out.size hO3'.2.size, fun k hk => (hO3'.2.same k (by have := hrb; have := hsz1; omega) (Nat.lt_of_lt_of_le hk hbB2.out.size)).trans (hbB2.out.block k hk)⟩
      have hbA := (Below.refl w5.heap.size w5).alloc (Nat.le_refl _) (.cells #[.int .u64 (n1 : Int), .int .i64 (n2 : Int), .int .u64 (n3 : Int)] 49)
      have hdone := wdone_any (hO3'.1.below hbA) hr1.out
      have hbk6 := Lib.hid ((hbA.block _ (Array.getElem?_eq_some_iff.1 hbk5).1).trans hbk5)
      have hbB6 := Lib.hid (hbB5.trans (hbA.mono hbB5.size))
      have hbxA := heap_alloc_new w5 (.cells #[.int .u64 (n1 : Int), .int .i64 (n2 : Int), .int .u64 (n3 : Int)] 49)
      have hs5 : w.heap.size < w5.heap.size := (Array.getElem?_eq_some_iff.1 hbk5).1
      replace hbxA := Lib.hid hbxA
      clear hO3 hO3' hO2' hbk5 hbB5 hbk2 hbB2 hbA
      go_wp2_with fail
      refine hdone.mono ?_
      clear hdone
      rintro e w7 ⟨rfl, hb7⟩
      obtain ⟨y0, y1, y2, y3, y4, y5, hbk7⟩ := three_at hbk6.out hb7
      obtain ⟨x0, x1, x2, _, _, _, _⟩ := three_at hbxA.out hb7
      have hbB7 := Lib.hid (hbB6.out.trans (hb7.mono hbB6.out.size))
      replace hbk7 := Lib.hid hbk7
      have hs7 := hb7.size
      clear hb7
      go_wp2_with fail
      generalize hW2 : ((w7.setCell ⟨w.heap.size, 0, none⟩ (.int .u64 0)).setCell ⟨w.heap.size, 1, none⟩ (.int .i64 0)).setCell ⟨w.heap.size, 2, none⟩ (.int .u64 0) = W2
      obtain ⟨q0, q1, q2, hb2⟩ := three_set hbk7.out (Nat.le_refl _) hW2
      refine bodyPost_ret (v := .tuple #[.agg #[.int .u64 0, .int .i64 0, .int .u64 0], .int .i64 5]) (by simp [results, Tryz.results23, go_sem, q0, q1, q2]) rfl ⟨rfl, hbB7.out.trans hb2⟩
    · have hk2 : (k.toNat : Int) ≠ 2 ∨ (k.toNat : Int) = 2 ∧ (m : Int) ≠ l.length := by
        by_cases h : k.toNat = 2
        · refine .inr ⟨by omega, fun hm => hk ⟨?_, by omega⟩⟩
          exact UInt8.toNat_inj.1 h
        · exact .inl (by omega)
      clear hf hr hT1 hBy1 hok hk
      replace hb0 := Lib.hid hb0
      generalize k.toNat = q at *
      rcases hk2 with hq | ⟨hq, hm⟩
      · go_enter Tryz.func23, Tryz.ntmps23
        go_wp2_with fail
        refine hc.mono ?_
        clear hc
        rintro e w1 ⟨⟨A1, c1, rfl, _⟩, hb⟩
        obtain ⟨y0, y1, y2, y3, y4, y5, hbk⟩ := three_at bx hb
        replace hbk := Lib.hid hbk
        have hbB := Lib.hid (hb0.out.trans (hb.mono (by omega)))
        have hsz1 := hb.size
        clear bx z0 z1 z2 hb
        go_wp2_with fail
        generalize hW2 : ((w1.setCell ⟨w.heap.size, 0, none⟩ (.int .u64 0)).setCell ⟨w.heap.size, 1, none⟩ (.int .i64 0)).setCell ⟨w.heap.size, 2, none⟩ (.int .u64 0) = W2
        obtain ⟨q0, q1, q2, hb2⟩ := three_set hbk.out (Nat.le_refl _) hW2
        refine bodyPost_ret (v := .tuple #[.agg #[.int .u64 0, .int .i64 0, .int .u64 0], .int .i64 5]) (by simp [results, Tryz.results23, go_sem, q0, q1, q2]) rfl ⟨rfl, hbB.out.trans hb2⟩
      · go_enter Tryz.func23, Tryz.ntmps23
        go_wp2_with fail
        refine hc.mono ?_
        clear hc
        rintro e w1 ⟨⟨A1, c1, rfl, _⟩, hb⟩
        obtain ⟨y0, y1, y2, y3, y4, y5, hbk⟩ := three_at bx hb
        replace hbk := Lib.hid hbk
        have hbB := Lib.hid (hb0.out.trans (hb.mono (by omega)))
        have hsz1 := hb.size
        clear bx z0 z1 z2 hb
        go_wp2_with fail
        generalize hW2 : ((w1.setCell ⟨w.heap.size, 0, none⟩ (.int .u64 0)).setCell ⟨w.heap.size, 1, none⟩ (.int .i64 0)).setCell ⟨w.heap.size, 2, none⟩ (.int .u64 0) = W2
        obtain ⟨q0, q1, q2, hb2⟩ := three_set hbk.out (Nat.le_refl _) hW2
        refine bodyPost_ret (v := .tuple #[.agg #[.int .u64 0, .int .i64 0, .int .u64 0], .int .i64 5]) (by simp [results, Tryz.results23, go_sem, q0, q1, q2]) rfl ⟨rfl, hbB.out.trans hb2⟩
set_option maxRecDepth 100000 in
set_option maxHeartbeats 2000000 in
theorem hdecode_yes {w : World} (hT : Tabs w) {ok : Nat → Prop} {A : Option Addr} {n c : Nat} {l : List UInt8} (hBy : Bytes w ok (.slice A n c) l) (hl : n ≤ 1000000) {h : HardD} (hr : hDec l = some h) :
    Calls Tryz.prog 23 #[.slice A n c] w fun e w' => e = .returned (.tuple #[.agg #[.int .u64 h.term, .int .i64 h.vote, .int .u64 h.commit], .int .i64 0]) ∧ Below w.heap.size w w' := by
  obtain rfl := hBy.len
  generalize hO : (Obj.cells #[.int .u64 0, .int .i64 0, .int .u64 0] 49) = O
  have bx : (w.alloc O).heap[w.heap.size]? = some (.cells #[.int .u64 0, .int .i64 0, .int .u64 0] 49) := by rw [← hO]; exact heap_alloc_new w _
  have hb0 := ((Below.refl w.heap.size w).alloc (Nat.le_refl _) O)
  have hT1 := hT.below hb0
  have hBy1 := hBy.step (Same.of_below hb0 ok)
  have hsz : (w.alloc O).heap.size = w.heap.size + 1 := by simp
  have z0 : (w.alloc O).cell? ⟨w.heap.size, 0, none⟩ = some (.int .u64 0) := cell_blk bx 0
  have z1 : (w.alloc O).cell? ⟨w.heap.size, 1, none⟩ = some (.int .i64 0) := cell_blk bx 1
  have z2 : (w.alloc O).cell? ⟨w.heap.size, 2, none⟩ = some (.int .u64 0) := cell_blk bx 2
  clear hT hBy
  subst hO
  generalize hW : w.alloc (.cells #[.int .u64 0, .int .i64 0, .int .u64 0] 49) = W at *
  cases hf : fNext l with
  | error e => rw [hDec_err hf] at hr; cases hr
  | ok x =>
    obtain ⟨k, d, m⟩ := x
    have hc := fnext_ok hT1.known hBy1 (by omega) hf
    have hok := fNext_ok hf
    by_cases hk : k = 2 ∧ m = l.length
    · obtain ⟨rfl, rfl⟩ := hk
      rw [hDec_mine hf rfl] at hr
      unfold hRead at hr
      simp only at hr
      obtain ⟨n1, p1, e1, hA⟩ : ∃ n1 p1 e1, rdNum d 0 0 = (n1, p1, e1) := ⟨_, _, _, rfl⟩
      rw [hA] at hr
      obtain ⟨n2, p2, e2, hBn⟩ : ∃ n2 p2 e2, rdMost d p1 e1 7 = (n2, p2, e2) := ⟨_, _, _, rfl⟩
      simp only at hr
      rw [hBn] at hr
      obtain ⟨n3, p3, e3, hC⟩ : ∃ n3 p3 e3, rdNum d p2 e2 = (n3, p3, e3) := ⟨_, _, _, rfl⟩
      simp only at hr
      rw [hC] at hr
      simp only at hr
      have hdl : d.length ≤ 1048576 := by omega
      have hre : e3 = 0 ∧ p3 = d.length ∧ h = ⟨n1, n2, n3⟩ := by
        split at hr
        · rename_i h3
          simp only [Option.some.injEq] at hr
          exact ⟨h3.1, h3.2, hr.symm⟩
        · cases hr
      obtain ⟨he3, hp3, rfl⟩ := hre
      have hr1 : (0 : Int) = if e3 = 0 then (if p3 = d.length then 0 else 5) else e3 := by rw [if_pos he3, if_pos hp3]
      replace hr1 := Lib.hid hr1
      clear he3 hp3
      clear hf hr hT1 hBy1 hok
      replace hb0 := Lib.hid hb0
      go_enter Tryz.func23, Tryz.ntmps23
      go_wp2_with fail
      refine hc.mono ?_
      clear hc
      rintro e w1 ⟨⟨A1, c1, rfl, r1⟩, hb⟩
      obtain ⟨y0, y1, y2, y3, y4, y5, hbk⟩ := three_at bx hb
      have hbB := Lib.hid (hb0.out.trans (hb.mono (by omega)))
      have hsz1 := hb.size
      have hrd := wread_any r1 (by omega)
      replace hbk := Lib.hid hbk
      clear bx z0 z1 z2 hb r1 y0 y1 y2 y3 y4 y5
      go_wp2_with fail
      refine hrd.mono ?_
      clear hrd
      rintro e w2 ⟨rb, rfl, hR, hrb, hb2⟩
      have hne : w.heap.size ≠ rb := by omega
      have hbk2 := (hb2.block _ (Array.getElem?_eq_some_iff.1 hbk.out).1).trans hbk.out
      have hbB2 := hbB.out.trans (hb2.mono (by have := hbB.out.size; omega))
      have hc1 := wnum_any hR hA
      replace hbk2 := Lib.hid hbk2
      replace hbB2 := Lib.hid hbB2
      clear hR hb2 hbk hbB
      go_wp2_with fail
      refine hc1.mono ?_
      clear hc1
      rintro e w3 ⟨rfl, hO1⟩
      have hc2 := wmost_any hO1.1 7 (by decide) hBn
      replace hO1 := Lib.hid hO1
      go_wp2_with fail
      refine hc2.mono ?_
      clear hc2
      rintro e w4 ⟨rfl, hO2⟩
      have hO2' := hO1.out.more hO2
      have hc3 := wnum_any hO2'.1 hC
      replace hO2' := Lib.hid hO2'
      clear hO1 hO2
      go_wp2_with fail
      refine hc3.mono ?_
      clear hc3
      rintro e w5 ⟨rfl, hO3⟩
      have hO3' := hO2'.out.more hO3
      have hbk5 : w5.heap[w.heap.size]? = some (.cells #[.int .u64 0, .int .i64 0, .int .u64 0] 49) := hO3'.2.same.blk (k := w.heap.size) hne hbk2.out
      have hbB5 : Below w.heap.size w w5 := ⟨hO3'.2.os.trans hbB2.out.os, hO3'.2.tape.trans hbB2.out.tape, hO3'.2.output.trans hbB2.out.output, Nat.le_trans hbB2.out.size hO3'.2.size, fun k hk => (hO3'.2.same k (by have := hrb; have := hsz1; omega) (Nat.lt_of_lt_of_le hk hbB2.out.size)).trans (hbB2.out.block k hk)⟩
      have hbA := (Below.refl w5.heap.size w5).alloc (Nat.le_refl _) (.cells #[.int .u64 (n1 : Int), .int .i64 (n2 : Int), .int .u64 (n3 : Int)] 49)
      have hdone := wdone_any (hO3'.1.below hbA) hr1.out
      have hbk6 := Lib.hid ((hbA.block _ (Array.getElem?_eq_some_iff.1 hbk5).1).trans hbk5)
      have hbB6 := Lib.hid (hbB5.trans (hbA.mono hbB5.size))
      have hbxA := heap_alloc_new w5 (.cells #[.int .u64 (n1 : Int), .int .i64 (n2 : Int), .int .u64 (n3 : Int)] 49)
      have hs5 : w.heap.size < w5.heap.size := (Array.getElem?_eq_some_iff.1 hbk5).1
      replace hbxA := Lib.hid hbxA
      clear hO3 hO3' hO2' hbk5 hbB5 hbk2 hbB2 hbA
      go_wp2_with fail
      refine hdone.mono ?_
      clear hdone
      rintro e w7 ⟨rfl, hb7⟩
      obtain ⟨y0, y1, y2, y3, y4, y5, hbk7⟩ := three_at hbk6.out hb7
      obtain ⟨x0, x1, x2, _, _, _, _⟩ := three_at hbxA.out hb7
      have hbB7 := Lib.hid (hbB6.out.trans (hb7.mono hbB6.out.size))
      replace hbk7 := Lib.hid hbk7
      have hs7 := hb7.size
      clear hb7
      go_wp2_with fail
      generalize hW2 : ((w7.setCell ⟨w.heap.size, 0, none⟩ (.int .u64 (n1 : Int))).setCell ⟨w.heap.size, 1, none⟩ (.int .i64 (n2 : Int))).setCell ⟨w.heap.size, 2, none⟩ (.int .u64 (n3 : Int)) = W2
      obtain ⟨q0, q1, q2, hb2⟩ := three_set hbk7.out (Nat.le_refl _) hW2
      refine bodyPost_ret (v := .tuple #[.agg #[.int .u64 (n1 : Int), .int .i64 (n2 : Int), .int .u64 (n3 : Int)], .int .i64 0]) (by simp [results, Tryz.results23, go_sem, q0, q1, q2]) rfl ⟨rfl, hbB7.out.trans hb2⟩
    · rw [hDec_other hf hk] at hr; cases hr
end
end Go.Proofs.YthnodmbenbiahaaGreatDoor
