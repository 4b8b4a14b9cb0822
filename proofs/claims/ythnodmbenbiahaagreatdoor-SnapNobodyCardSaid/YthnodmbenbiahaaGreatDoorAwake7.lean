/- Law 7's awake: a state that was saved is there behind a crash. -/
import Derived.Test.YthnodmbenbiahaaGreatDoorLoadW
import Derived.Laws.StructEq
namespace Go.Proofs.YthnodmbenbiahaaGreatDoor
open Go.RowKit Go.Maps

/-- A disk that the call (begun in w) made itself; the blocks of Q are none of its. -/
def MineN (w w1 : World) (Q : Nat → Prop) (p : Nat) (m : List FileD) : Prop := DiskAt w1 p (fun k => w.heap.size ≤ k ∧ ¬ Q k) m ∧ (∀ k, Q k → k < w1.heap.size) ∧ Below w.heap.size w w1
theorem MineN.at_ {w w1 : World} {Q : Nat → Prop} {p : Nat} {m : List FileD} (h : MineN w w1 Q p m) : DiskAt w1 p (fun k => (w.heap.size ≤ k ∧ ¬ Q k) ∧ k < w1.heap.size) m := h.1.mono (fun _ hk hlt => ⟨hk, hlt⟩)
theorem MineN.next {w w1 w2 : World} {Q : Nat → Prop} {p : Nat} {m m' : List FileD} (h : MineN w w1 Q p m) (hA : After w1 w2 p (fun k => (w.heap.size ≤ k ∧ ¬ Q k) ∧ k < w1.heap.size) m') : MineN w w2 Q p m' ∧ Same w1 w2 Q := by
  have hs := hA.2.size
  refine ⟨⟨hA.1.mono (fun k hk _ => ?_), fun k hk => Nat.lt_of_lt_of_le (h.2.1 k hk) hs, ?_⟩, hA.2.part (fun k hk h1 => h1.1.2 hk)⟩
  · rcases hk with hk | hk
    · exact hk.1
    · exact ⟨Nat.le_trans h.2.2.size hk, fun hq => by have := h.2.1 k hq; omega⟩
  · exact h.2.2.trans ⟨hA.2.os, hA.2.tape, hA.2.output, hs, fun k hk => hA.2.same k (fun h1 => by have := h1.1.1; omega) (Nat.lt_of_lt_of_le hk h.2.2.size)⟩
theorem MineN.below {w w1 w2 : World} {Q : Nat → Prop} {p : Nat} {m : List FileD} (h : MineN w w1 Q p m) (hb : Below w1.heap.size w1 w2) : MineN w w2 Q p m :=
  ⟨h.1.step (Same.of_below hb _), fun k hk => Nat.lt_of_lt_of_le (h.2.1 k hk) hb.size, h.2.2.trans (hb.mono h.2.2.size)⟩
theorem nameIn_iff (g : Int) : nameIn g = true ↔ 0 ≤ g ∧ g ≤ 999 := by simp [nameIn]
theorem itoa_in {g : Int} (h : nameIn g = true) : Lib.itoa g = Lib.decDigits g.toNat ∧ g.toNat ≤ 999 := by
  obtain ⟨h0, h1⟩ := (nameIn_iff g).1 h
  refine ⟨?_, by omega⟩
  unfold Lib.itoa
  rw [if_neg (by omega)]
theorem gName_ok {head : List UInt8} (hl : head.length = 5) (hh : ∀ c ∈ head, (97 ≤ c.toNat ∧ c.toNat ≤ 122) ∨ c.toNat = 46 ∨ c.toNat = 45) {g : Int} (h : nameIn g = true) : okName (gName head g) = true := by
  obtain ⟨h1, h2⟩ := itoa_in h
  have := numName_ok (tail := []) h2 hh (fun c hc => by cases hc) (by simp [hl])
  unfold gName
  rw [h1]
  simpa [numName] using this
theorem gNew_ok {head : List UInt8} (hl : head.length = 5) (hh : ∀ c ∈ head, (97 ≤ c.toNat ∧ c.toNat ≤ 122) ∨ c.toNat = 46 ∨ c.toNat = 45) {g : Int} (h : nameIn g = true) : okName (gNew head g) = true := by
  obtain ⟨h1, h2⟩ := itoa_in h
  have := numName_ok (tail := newTail) h2 hh (by decide) (by simp [hl, newTail])
  unfold gNew
  rw [h1]
  exact this
theorem hardPre_ok : ∀ c ∈ hardPre, (97 ≤ c.toNat ∧ c.toNat ≤ 122) ∨ c.toNat = 46 ∨ c.toNat = 45 := by decide
theorem snapPre_ok : ∀ c ∈ snapPre, (97 ≤ c.toNat ∧ c.toNat ≤ 122) ∨ c.toNat = 46 ∨ c.toNat = 45 := by decide
theorem pSave_nil {name nw : ByteArray} {enc : List UInt8} (h : okName nw = true) (hl : enc.length ≤ 65536) : (pSave [] name nw enc).2 = 0 := by
  have h1 : (pCut [] nw 0).1 = [] := rfl
  have h2 : (pAppend [] nw enc).2 = 0 := by
    unfold pAppend
    rw [h]
    simp only [if_true]
    have hf : fFind [] nw = none := rfl
    rw [hf]
    simp only
    rw [if_neg (by simp; omega)]
  unfold pSave
  rw [h1, if_pos h2]
theorem nil_rising : Rising FileD.name [] := List.Pairwise.nil
def hardA : HardD := ⟨3, 1, 7⟩
theorem hardA_fit : HardFit hardA := ⟨by decide, by decide, by decide, by decide⟩
theorem hardA_may : hMay hardA = true := by decide
theorem hEnc_length {h : HardD} (ht : h.term < 2 ^ 64) (hv : hMay h = true) (hc : h.commit < 2 ^ 64) : (hEnc h).length ≤ 50 := by
  have h1 := hBody_length ht hv hc
  unfold hEnc
  rw [frameB_length]
  have := uv_ten (show (hBody h).length + 5 < 2 ^ 64 by omega)
  omega
set_option maxRecDepth 100000 in
set_option maxHeartbeats 1000000 in
theorem awake7 {w : World} (hT : Tabs w) : Calls Tryz.prog 22 #[] w fun e w' => e = .returned (.bool true) ∧ Below w.heap.size w w' := by
  have hgi : nameIn 4 = true := by decide
  have hsv := pSave_nil (name := gName hardPre 4) (nw := gNew hardPre 4) (enc := hEnc hardA) (gNew_ok rfl hardPre_ok hgi) (by have := hEnc_length (h := hardA) (by decide) hardA_may (by decide); omega)
  have hfd := pSave_find nil_rising (gName_ok rfl hardPre_ok hgi) hsv
  have hrs := pSave_rising nil_rising (gName hardPre 4) (gNew hardPre 4) (hEnc hardA)
  have hdc := hDec_enc (h := hardA) (by decide) hardA_may (by decide)
  have hfc := crash_find hrs [] hfd rfl
  generalize hE : hEnc hardA = enc at *
  have hTw := Lib.hid hT
  go_enter Tryz.func22, Tryz.ntmps22
  go_wp2_with fail
  refine (new_any w).mono ?_
  rintro e w1 ⟨p, rfl, hd, hB⟩
  have hd1 : DiskAt w1 p (fun k => w.heap.size ≤ k ∧ ¬ k = w1.heap.size) [] := hd.mono (fun k hk hlt => ⟨hk, by omega⟩)
  have hbA := (Below.refl w1.heap.size w1).alloc (Nat.le_refl _) (.cells #[.int .u64 3, .int .i64 1, .int .u64 7] 49)
  have hM : MineN w (w1.alloc (.cells #[.int .u64 3, .int .i64 1, .int .u64 7] 49)) (fun k => k = w1.heap.size) p [] := ⟨hd1.step (Same.of_below hbA _), fun k hk => by subst hk; simp, hB.trans (hbA.mono hB.size)⟩
  have bx := heap_alloc_new w1 (.cells #[.int .u64 3, .int .i64 1, .int .u64 7] 49)
  clear hd hB hT hd1 hbA
  generalize hW : w1.alloc (.cells #[.int .u64 3, .int .i64 1, .int .u64 7] 49) = W at *
  have hsave := hsave_at (hTw.out.below hM.2.2) hM.at_ (fun k hk => hk.2) 4 (by decide) (by decide) hardA hardA_fit hgi hardA_may
  rw [hE, hsv] at hsave
  obtain ⟨v0, v1, v2, _, _, _, _⟩ := three_at bx (Below.refl _ _)
  replace hM := Lib.hid hM
  replace bx := Lib.hid bx
  generalize hS : (pSave [] (gName hardPre 4) (gNew hardPre 4) enc).1 = m1 at *
  generalize hNM : gName hardPre 4 = NM at *
  replace hrs := Lib.hid hrs
  replace hfc := Lib.hid hfc
  replace hdc := Lib.hid hdc
  have hZ : (hardA.term : Int) = 3 ∧ hardA.vote = 1 ∧ (hardA.commit : Int) = 7 := by decide
  rw [hZ.1, hZ.2.1, hZ.2.2] at hsave
  go_wp2_with fail
  refine hsave.mono ?_
  clear hsave hS hfd hsv v0 v1 v2
  rintro e w2 ⟨rfl, hA⟩
  obtain ⟨hM2, hs2⟩ := hM.out.next hA
  have bx2 := Lib.hid (hs2.blk rfl bx.out)
  have hcr := crash_any hM2.at_ (okc := fun _ => False) (cuts := []) (Reads.nil _ _ _) (fun k hk => hk.elim) (fun c hc => by cases hc)
  replace hM2 := Lib.hid hM2
  clear hM hA hs2 bx
  go_wp2_with fail
  refine hcr.mono ?_
  clear hcr
  rintro e w3 ⟨rfl, hA⟩
  obtain ⟨hM3, hs3⟩ := hM2.out.next hA
  have bx3 := hs3.blk rfl bx2.out
  have hld := hload_yes (hTw.out.below hM3.2.2) hM3.at_ 4 (by decide) (by decide) hgi (by rw [hNM]; exact hfc.out) hdc.out
  obtain ⟨z0, z1, z2, _, _, _, bx3'⟩ := three_at (w1 := w3) bx3 (Below.refl _ _)
  replace hM3 := Lib.hid hM3
  replace bx3 := Lib.hid bx3
  rw [hZ.1, hZ.2.1, hZ.2.2] at hld
  clear hM2 hA hs3 bx2 bx3' hZ
  go_wp2_with fail
  refine hld.mono ?_
  clear hld
  rintro e w4 ⟨rfl, hb4⟩
  have hM4 := Lib.hid (hM3.out.below hb4)
  obtain ⟨y0, y1, y2, _, _, _, bx4⟩ := three_at bx3.out hb4
  have hlt := (Array.getElem?_eq_some_iff.1 bx4).1
  have hbA := (Below.refl w4.heap.size w4).alloc (Nat.le_refl _) (.cells #[.int .u64 3, .int .i64 1, .int .u64 7] 49)
  have hM5 := Lib.hid (hM4.out.below hbA)
  clear z0 z1 z2 bx3 bx4 hbA hb4
  go_wp2_with fail
  go_ret
  exact ⟨rfl, hM5.out.2.2⟩
end Go.Proofs.YthnodmbenbiahaaGreatDoor
