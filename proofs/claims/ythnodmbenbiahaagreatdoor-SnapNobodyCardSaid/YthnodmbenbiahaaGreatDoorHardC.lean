import Derived.Test.YthnodmbenbiahaaGreatDoorHardA
import Derived.Test.YthnodmbenbiahaaGreatDoorNoDisk
import Derived.Test.YthnodmbenbiahaaGreatDoorMine
import Derived.Test.YthnodmbenbiahaaGreatDoorDiskF
import Derived.Test.YthnodmbenbiahaaGreatDoorDiskD
namespace Go.Proofs.YthnodmbenbiahaaGreatDoor
/- The program's layer 7 (hard): and layer 8 (snap): the name of a group's file. -/
section
open Go.RowKit Go.Maps

theorem sync_none {w : World} {p : Nat} {ok : Nat → Prop} {m : List FileD} (h : DiskAt w p ok m) (s : ByteArray) (hs : s.size ≤ maxLen) (hf : fFind m s = none) :
    Calls Tryz.prog 68 #[.pointer (some ⟨p, 0, none⟩), .string s] w fun e w' => e = .returned (.int .i64 4) ∧ w = w' := by
  obtain ⟨mb, g, hg, rfl, hk⟩ := h
  have hcall := find_any hg s hs
  rw [find_file] at hf
  cases hx : lfind Ent.name g s with
  | none =>
    rw [hx] at hcall
    clear hx hg hk hf
    go_enter Tryz.func68, Tryz.ntmps68
    go_wp2_with (go_at_call 121; refine hcall.mono ?_; rintro e w' ⟨rfl, rfl⟩)
    go_ret
    exact ⟨rfl, rfl⟩
  | some x => rw [hx] at hf; cases hf
def noStr : ByteArray := ⟨#[]⟩
theorem noStr_size : noStr.size ≤ maxLen := by decide
theorem find_noStr {w : World} {p : Nat} {ok : Nat → Prop} {m : List FileD} (h : DiskAt w p ok m) : fFind m noStr = none := by
  obtain ⟨mb, g, hg, rfl, hk⟩ := h
  rw [find_file]
  cases hx : lfind Ent.name g noStr with
  | none => rfl
  | some x =>
    obtain ⟨hm, hn⟩ := lfind_some hx
    have := hg.nm x hm
    rw [hn] at this
    exact absurd this (by decide)
theorem strOf_append (a b : List UInt8) : strOf a ++ strOf b = strOf (a ++ b) := by
  apply bytes_ext
  have e : (strOf a ++ strOf b).data = (strOf a).data ++ (strOf b).data := ByteArray.data_append ..
  rw [e]
  simp [strOf]
theorem itoa_len (g : Int) (g0 : -9223372036854775808 ≤ g) (g1 : g ≤ 9223372036854775807) : (strOf (Lib.itoa g)).size ≤ 20 := by
  have e : (strOf (Lib.itoa g)).size = (Lib.itoa g).length := rfl
  rw [e]
  unfold Lib.itoa
  split
  · have := (decDigits_len 18 g.natAbs (by omega)).2
    simp only [List.length_cons]
    omega
  · have := (decDigits_len 18 g.toNat (by omega)).2
    omega
def nameIn (g : Int) : Bool := decide (0 ≤ g) && decide (g ≤ 999)
def hardPre : List UInt8 := [104, 97, 114, 100, 45]
set_option maxRecDepth 100000 in
theorem hname_at {w : World} {p : Nat} {ok : Nat → Prop} {m : List FileD} (hT : Tabs w) (h : DiskAt w p ok m) (g : Int) (g0 : -9223372036854775808 ≤ g) (g1 : g ≤ 9223372036854775807) {b : Bool} (hb : nameIn g = b) :
    Calls Tryz.prog 89 #[.pointer (some ⟨p, 0, none⟩), .int .i64 g] w fun e w' => e = .returned (.tuple #[.string (strOf (hardPre ++ Lib.itoa g)), .bool b]) ∧ Below w.heap.size w w' := by
  replace h := Lib.hid h
  have hi := itoa_any hT g g0 g1
  have hsz := itoa_len g g0 g1
  have hap := strOf_append hardPre (Lib.itoa g)
  clear hT
  replace hap := Lib.hid hap
  generalize hS : strOf (Lib.itoa g) = S at *
  clear hS
  go_enter Tryz.func89, Tryz.ntmps89
  go_wp2_with fail
  refine hi.mono ?_
  clear hi
  rintro e w1 ⟨rfl, hb1⟩
  have hsy := sync_none (h.out.step (Same.of_below hb1 ok)) noStr noStr_size (find_noStr h.out)
  replace hb1 := Lib.hid hb1
  go_wp2_with fail
  refine hsy.mono ?_
  clear hsy
  rintro e w' ⟨rfl, rfl⟩
  replace hb := Lib.hid hb
  by_cases h0 : 0 ≤ g
  · by_cases h1 : g ≤ 999
    · obtain rfl : b = true := by rw [← hb.out]; unfold nameIn; rw [decide_eq_true h0, decide_eq_true h1]; rfl
      go_wp2_with fail
      go_ret2
      exact ⟨by rw [← hap.out]; rfl, hb1.out⟩
    · obtain rfl : b = false := by rw [← hb.out]; unfold nameIn; rw [decide_eq_false h1, Bool.and_false]
      have h2 : decide (g ≤ 999) = false := decide_eq_false h1
      go_wp2_with fail
      go_ret2
      exact ⟨by rw [← hap.out]; rfl, hb1.out⟩
  · obtain rfl : b = false := by rw [← hb.out]; unfold nameIn; rw [decide_eq_false h0, Bool.false_and]
    go_wp2_with fail
    go_ret2
    exact ⟨by rw [← hap.out]; rfl, hb1.out⟩
set_option maxRecDepth 100000 in
theorem hname_no {w : World} {v : Value} (hT : Tabs w) (h : ∀ w', Below w.heap.size w w' → NoDisk w' v) (g : Int) (g0 : -9223372036854775808 ≤ g) (g1 : g ≤ 9223372036854775807) :
    Calls Tryz.prog 89 #[v, .int .i64 g] w fun e w' => e = .returned (.tuple #[.string (strOf (hardPre ++ Lib.itoa g)), .bool false]) ∧ Below w.heap.size w w' := by
  replace h := Lib.hid h
  have hi := itoa_any hT g g0 g1
  have hsz := itoa_len g g0 g1
  have hap := strOf_append hardPre (Lib.itoa g)
  clear hT
  replace hap := Lib.hid hap
  generalize hS : strOf (Lib.itoa g) = S at *
  clear hS
  go_enter Tryz.func89, Tryz.ntmps89
  go_wp2_with fail
  refine hi.mono ?_
  clear hi
  rintro e w1 ⟨rfl, hb1⟩
  have hsy := sync_no (h.out w1 hb1) noStr
  replace hb1 := Lib.hid hb1
  go_wp2_with fail
  refine hsy.mono ?_
  clear hsy
  rintro e w' ⟨rfl, rfl⟩
  go_wp2_with fail
  go_ret2
  exact ⟨by rw [← hap.out]; rfl, hb1.out⟩
def snapPre : List UInt8 := [115, 110, 97, 112, 45]
set_option maxRecDepth 100000 in
theorem sname_at {w : World} {p : Nat} {ok : Nat → Prop} {m : List FileD} (hT : Tabs w) (h : DiskAt w p ok m) (g : Int) (g0 : -9223372036854775808 ≤ g) (g1 : g ≤ 9223372036854775807) {b : Bool} (hb : nameIn g = b) :
    Calls Tryz.prog 63 #[.pointer (some ⟨p, 0, none⟩), .int .i64 g] w fun e w' => e = .returned (.tuple #[.string (strOf (snapPre ++ Lib.itoa g)), .bool b]) ∧ Below w.heap.size w w' := by
  replace h := Lib.hid h
  have hi := itoa_any hT g g0 g1
  have hsz := itoa_len g g0 g1
  have hap := strOf_append snapPre (Lib.itoa g)
  clear hT
  replace hap := Lib.hid hap
  generalize hS : strOf (Lib.itoa g) = S at *
  clear hS
  go_enter Tryz.func63, Tryz.ntmps63
  go_wp2_with fail
  refine hi.mono ?_
  clear hi
  rintro e w1 ⟨rfl, hb1⟩
  have hsy := sync_none (h.out.step (Same.of_below hb1 ok)) noStr noStr_size (find_noStr h.out)
  replace hb1 := Lib.hid hb1
  go_wp2_with fail
  refine hsy.mono ?_
  clear hsy
  rintro e w' ⟨rfl, rfl⟩
  replace hb := Lib.hid hb
  by_cases h0 : 0 ≤ g
  · by_cases h1 : g ≤ 999
    · obtain rfl : b = true := by rw [← hb.out]; unfold nameIn; rw [decide_eq_true h0, decide_eq_true h1]; rfl
      go_wp2_with fail
      go_ret2
      exact ⟨by rw [← hap.out]; rfl, hb1.out⟩
    · obtain rfl : b = false := by rw [← hb.out]; unfold nameIn; rw [decide_eq_false h1, Bool.and_false]
      have h2 : decide (g ≤ 999) = false := decide_eq_false h1
      go_wp2_with fail
      go_ret2
      exact ⟨by rw [← hap.out]; rfl, hb1.out⟩
  · obtain rfl : b = false := by rw [← hb.out]; unfold nameIn; rw [decide_eq_false h0, Bool.false_and]
    go_wp2_with fail
    go_ret2
    exact ⟨by rw [← hap.out]; rfl, hb1.out⟩
set_option maxRecDepth 100000 in
theorem sname_no {w : World} {v : Value} (hT : Tabs w) (h : ∀ w', Below w.heap.size w w' → NoDisk w' v) (g : Int) (g0 : -9223372036854775808 ≤ g) (g1 : g ≤ 9223372036854775807) :
    Calls Tryz.prog 63 #[v, .int .i64 g] w fun e w' => e = .returned (.tuple #[.string (strOf (snapPre ++ Lib.itoa g)), .bool false]) ∧ Below w.heap.size w w' := by
  replace h := Lib.hid h
  have hi := itoa_any hT g g0 g1
  have hsz := itoa_len g g0 g1
  have hap := strOf_append snapPre (Lib.itoa g)
  clear hT
  replace hap := Lib.hid hap
  generalize hS : strOf (Lib.itoa g) = S at *
  clear hS
  go_enter Tryz.func63, Tryz.ntmps63
  go_wp2_with fail
  refine hi.mono ?_
  clear hi
  rintro e w1 ⟨rfl, hb1⟩
  have hsy := sync_no (h.out w1 hb1) noStr
  replace hb1 := Lib.hid hb1
  go_wp2_with fail
  refine hsy.mono ?_
  clear hsy
  rintro e w' ⟨rfl, rfl⟩
  go_wp2_with fail
  go_ret2
  exact ⟨by rw [← hap.out]; rfl, hb1.out⟩
end
/- The program's layers 7 and 8 (hard, snap): Save, on a disk that was made. -/
section
open Go.RowKit Go.Maps

theorem After.pre {w w1 w2 : World} {p : Nat} {ok : Nat → Prop} {m : List FileD} (hb : Below w.heap.size w w1) (h : After w1 w2 p ok m) : After w w2 p ok m :=
  ⟨h.1.mono (fun _ hk _ => hk.imp id (fun hk => Nat.le_trans hb.size hk)), (Kept.of_below hb ok).trans h.2 (fun _ hk => .inl hk)⟩
def newTail : List UInt8 := [46, 110, 101, 119]
def gName (head : List UInt8) (g : Int) : ByteArray := strOf (head ++ Lib.itoa g)
def gNew (head : List UInt8) (g : Int) : ByteArray := strOf ((head ++ Lib.itoa g) ++ newTail)
theorem gName_size {head : List UInt8} (hh : head.length = 5) (g : Int) (g0 : -9223372036854775808 ≤ g) (g1 : g ≤ 9223372036854775807) : (gName head g).size ≤ 25 := by
  have := itoa_len g g0 g1
  have e : (strOf (Lib.itoa g)).size = (Lib.itoa g).length := rfl
  have e2 : (gName head g).size = (head ++ Lib.itoa g).length := rfl
  rw [e2, List.length_append]
  omega
theorem gNew_size {head : List UInt8} (hh : head.length = 5) (g : Int) (g0 : -9223372036854775808 ≤ g) (g1 : g ≤ 9223372036854775807) : (gNew head g).size ≤ 29 := by
  have := gName_size hh g g0 g1
  have e2 : (gName head g).size = (head ++ Lib.itoa g).length := rfl
  have e3 : (gNew head g).size = ((head ++ Lib.itoa g) ++ newTail).length := rfl
  rw [e3, List.length_append]
  have e4 : newTail.length = 4 := rfl
  omega
theorem small_max {n : Nat} (h : n ≤ 1000) : n ≤ maxLen := Nat.le_trans h (by unfold maxLen; decide)
theorem cat_new (head : List UInt8) (g : Int) : gName head g ++ strOf newTail = gNew head g := strOf_append _ _
set_option maxRecDepth 100000 in
set_option maxHeartbeats 2000000 in
theorem hsave_at {w : World} {p : Nat} {ok : Nat → Prop} {m : List FileD} (hT : Tabs w) (hD : DiskAt w p ok m) (hok : ∀ k, ok k → k < w.heap.size) (g : Int) (g0 : -9223372036854775808 ≤ g) (g1 : g ≤ 9223372036854775807) (h : HardD) (hf : HardFit h) (hgi : nameIn g = true) (hm : hMay h = true) :
    Calls Tryz.prog 35 #[.pointer (some ⟨p, 0, none⟩), .int .i64 g, .agg #[.int .u64 h.term, .int .i64 h.vote, .int .u64 h.commit]] w fun e w' => e = .returned (.int .i64 (pSave m (gName hardPre g) (gNew hardPre g) (hEnc h)).2) ∧ After w w' p ok (pSave m (gName hardPre g) (gNew hardPre g) (hEnc h)).1 := by
  obtain ⟨SV, hsv⟩ : ∃ SV, SV = pSave m (gName hardPre g) (gNew hardPre g) (hEnc h) := ⟨_, rfl⟩
  rw [← hsv]
  generalize hO : (Obj.cells #[.int .u64 (h.term : Int), .int .i64 h.vote, .int .u64 (h.commit : Int)] 49) = O
  have bx : (w.alloc O).heap[w.heap.size]? = some (.cells #[.int .u64 (h.term : Int), .int .i64 h.vote, .int .u64 (h.commit : Int)] 49) := by rw [← hO]; exact heap_alloc_new w _
  have hb0 := ((Below.refl w.heap.size w).alloc (Nat.le_refl _) O)
  have hT0 := hT.below hb0
  have hD0 := hD.step (Same.of_below hb0 ok)
  have hsz : (w.alloc O).heap.size = w.heap.size + 1 := by simp
  subst hO
  have hn := hname_at hT0 hD0 g g0 g1 hgi
  generalize hW : w.alloc (.cells #[.int .u64 (h.term : Int), .int .i64 h.vote, .int .u64 (h.commit : Int)] 49) = W at *
  have hNs := gName_size (head := hardPre) rfl g g0 g1
  have hWs := gNew_size (head := hardPre) rfl g g0 g1
  have hcat := cat_new hardPre g
  change Calls Tryz.prog 89 _ W (fun e w' => e = .returned (.tuple #[.string (gName hardPre g), .bool true]) ∧ Below W.heap.size W w') at hn
  generalize gName hardPre g = NM at *
  generalize gNew hardPre g = NW at *
  replace hT0 := Lib.hid hT0
  replace hD0 := Lib.hid hD0
  replace hok := Lib.hid hok
  replace hsv := Lib.hid hsv
  replace hb0 := Lib.hid hb0
  clear hT hD
  go_enter Tryz.func35, Tryz.ntmps35
  go_wp2_with fail
  refine hn.mono ?_
  clear hn
  rintro e wa ⟨rfl, hba⟩
  obtain ⟨y0, y1, y2, _, _, _, _⟩ := three_at bx hba
  have hen := hencode_ok (hT0.out.below hba) h hf hm (L := hEnc h) rfl
  have hD1 := Lib.hid (hD0.out.step (Same.of_below hba ok))
  have hba1 := Lib.hid (hb0.out.trans (hba.mono hb0.out.size))
  clear bx hba hT0 hD0 hb0
  go_wp2_with fail
  refine hen.mono ?_
  clear hen
  rintro e wb ⟨EA, ec, rfl, hE, hbb⟩
  replace hE : Hid (Bytes wb (fun k => w.heap.size ≤ k) (.slice EA (hEnc h).length ec) (hEnc h)) := Lib.hid ((Reads.of_own (α := UInt8) (enc := byteV) hE).mono (fun k hk _ => Nat.le_trans hba1.out.size (own_base hE k hk)))
  have hD := Lib.hid (hD1.out.step (Same.of_below hbb ok))
  replace hbb := Lib.hid (hba1.out.trans (hbb.mono hba1.out.size))
  generalize hEnc h = enc at *
  clear hD1 hba1 y0 y1 y2
  replace hcat := hcat
  have hsv1 := hsv.out
  unfold pSave at hsv1
  clear hsv
  change NM ++ ⟨#[46, 110, 101, 119]⟩ = NW at hcat
  go_wp2_with fail
  refine (cut_any hD.out NW 0 (small_max (by omega)) (by decide) (by decide)).mono ?_
  rintro e wc ⟨rfl, a1⟩
  have hE1 := Lib.hid (hE.out.step (a1.2.part (fun k hk h => by have := hok.out k h; omega)))
  generalize hm1 : (pCut m NW 0).1 = m1 at *
  generalize (pCut m NW 0).2 = ec1
  replace a1 := Lib.hid a1
  clear hE hm1
  go_wp2_with fail
  refine (append_any a1.out.1 NW (small_max (by omega)) hE1.out).mono ?_
  rintro e wd ⟨rfl, a2⟩
  replace a2 := Lib.hid (a1.out.trans a2)
  clear a1 hE1
  by_cases hcode : (pAppend m1 NW enc).2 = 0
  · rw [if_pos hcode] at hsv1
    subst hsv1
    rw [hcode]
    clear hcode
    go_wp2_with fail
    refine (sync_any a2.out.1 NW (small_max (by omega))).mono ?_
    rintro e we ⟨rfl, a3⟩
    replace a3 := Lib.hid (a2.out.trans a3)
    clear a2
    generalize (pSync (pAppend m1 NW enc).1 NW).2 = ec3
    go_wp2_with fail
    refine (rename_any a3.out.1 NW NM (small_max (by omega)) (small_max (by omega))).mono ?_
    rintro e wf ⟨rfl, a4⟩
    have a5 := Lib.hid ((a3.out.trans a4).pre hbb.out)
    clear a3 a4
    generalize (pRename (pSync (pAppend m1 NW enc).1 NW).1 NW NM).2 = ec4
    go_wp2_with fail
    go_ret
    exact ⟨rfl, a5.out⟩
  · rw [if_neg hcode] at hsv1
    subst hsv1
    have hfl := pAppend_fail hcode
    rw [hfl] at a2
    have a5 := Lib.hid (a2.out.pre hbb.out)
    clear hfl a2
    generalize (pAppend m1 NW enc).2 = ec2 at *
    go_wp2_with fail
    go_ret
    exact ⟨rfl, a5.out⟩
set_option maxRecDepth 100000 in
set_option maxHeartbeats 2000000 in
theorem ssave_at {w : World} {p : Nat} {ok okb : Nat → Prop} {m : List FileD} (hT : Tabs w) (hD : DiskAt w p ok m) (hok : ∀ k, ok k → k < w.heap.size) (g : Int) (g0 : -9223372036854775808 ≤ g) (g1 : g ≤ 9223372036854775807) (ix tm : Nat) (hix : ix < 18446744073709551616) (htm : tm < 18446744073709551616) (h0 : ix ≠ 0) {BA : Option Addr} {bn bc : Nat} {bs : List UInt8} (hBs : Bytes w okb (.slice BA bn bc) bs) (hbn : bn ≤ 32768) (hgi : nameIn g = true) {enc : List UInt8} (hen : enc = sEnc ⟨ix, tm, bs⟩) :
    Calls Tryz.prog 18 #[.pointer (some ⟨p, 0, none⟩), .int .i64 g, .int .u64 ix, .int .u64 tm, .slice BA bn bc] w fun e w' => e = .returned (.int .i64 (pSave m (gName snapPre g) (gNew snapPre g) enc).2) ∧ After w w' p ok (pSave m (gName snapPre g) (gNew snapPre g) enc).1 := by
  obtain ⟨SV, hsv⟩ : ∃ SV, SV = pSave m (gName snapPre g) (gNew snapPre g) enc := ⟨_, rfl⟩
  rw [← hsv]
  obtain rfl := hBs.len
  have hn := sname_at hT hD g g0 g1 hgi
  have hNs := gName_size (head := snapPre) rfl g g0 g1
  have hWs := gNew_size (head := snapPre) rfl g g0 g1
  have hcat := cat_new snapPre g
  change Calls Tryz.prog 63 _ w (fun e w' => e = .returned (.tuple #[.string (gName snapPre g), .bool true]) ∧ Below w.heap.size w w') at hn
  generalize gName snapPre g = NM at *
  generalize gNew snapPre g = NW at *
  have hu1 := uv_ten (show ix < 2 ^ 64 from hix)
  have hu2 := uv_ten (show tm < 2 ^ 64 from htm)
  have hen1 : enc = frameB 3 (uv ix ++ uv tm ++ bs) := hen
  generalize hU1 : uv ix = U1 at *
  generalize hU2 : U1 ++ uv tm = U2 at *
  have hU2l : U2.length ≤ 20 := by rw [← hU2, List.length_append]; omega
  generalize hU3 : U2 ++ bs = U3 at *
  have hU3l : U3.length = U2.length + bs.length := by rw [← hU3, List.length_append]
  replace hU3 := Lib.hid hU3
  replace hU3l := Lib.hid hU3l
  replace hU1 : [] ++ uv ix = U1 := hU1
  replace hU1 := Lib.hid hU1
  replace hU2 := Lib.hid hU2
  replace hen1 := Lib.hid hen1
  replace hT := Lib.hid hT
  replace hD := Lib.hid hD
  replace hok := Lib.hid hok
  replace hsv := Lib.hid hsv
  replace hBs := Lib.hid hBs
  have i0 : ¬ (ix : Int) = 0 := by omega
  have i1 : ¬ (32768 : Int) < bs.length := by omega
  have i2 : ((ix : Int) == 0) = false := by simpa using i0
  have i3 : decide ((32768 : Int) < bs.length) = false := decide_eq_false i1
  clear hen
  go_enter Tryz.func18, Tryz.ntmps18
  go_wp2_with fail
  refine hn.mono ?_
  clear hn
  rintro e wa ⟨rfl, hba⟩
  have hc1 := wuv_any (w := wa) (ok := fun _ => True) (l := []) (Reads.nil _ _ _) ix hix (Nat.zero_le _) hU1.out
  replace hba := Lib.hid hba
  go_wp2_with fail
  refine hc1.mono ?_
  clear hc1
  rintro e w1 ⟨A1, c1, rfl, r1, b1⟩
  have hc2 := wuv_any (Reads.of_own (α := UInt8) (enc := byteV) r1) tm htm (by omega) hU2.out
  have hb1 := Lib.hid (hba.out.trans (b1.mono hba.out.size))
  clear r1 b1
  go_wp2_with fail
  refine hc2.mono ?_
  clear hc2
  rintro e w2 ⟨A2, c2, rfl, r2, b2⟩
  have hb2 := Lib.hid (hb1.out.trans (b2.mono hb1.out.size))
  have hr2 := Lib.hid (own_lower r2 hb1.out.size)
  have hBs2 := Lib.hid (hBs.out.step (Same.of_below hb2.out okb))
  clear r2 b2 hb1
  go_wp2_with (at_builtin; refine wpList_onto rfl _ _ rfl rfl hr2.out rfl hBs2.out (N := U3.length) hU3l.out (by have := hU3l.out; omega) (by have := hb2.out.size; omega) ?_; intro A3 c3 w3 r3 b3; rw [hU3.out] at r3)
  have hb3 := Lib.hid (hb2.out.trans b3)
  have hput := fput_any (hT.out.below hb3.out).known 3 (Reads.of_own (α := UInt8) (enc := byteV) r3) (by have := hU3l.out; omega) hen1.out
  clear r3 b3 hb2 hr2 hBs2
  refine hput.mono ?_
  clear hput
  rintro e wb ⟨EA, ec, rfl, hE, hbb⟩
  replace hE : Hid (Bytes wb (fun k => w.heap.size ≤ k) (.slice EA enc.length ec) enc) := Lib.hid ((Reads.of_own (α := UInt8) (enc := byteV) hE).mono (fun k hk _ => Nat.le_trans hb3.out.size (own_base hE k hk)))
  replace hbb := Lib.hid (hb3.out.trans (hbb.mono hb3.out.size))
  replace hD := Lib.hid (hD.out.step (Same.of_below hbb.out ok))
  clear hb3 hba
  have hsv1 := hsv.out
  unfold pSave at hsv1
  clear hsv hen1
  change NM ++ ⟨#[46, 110, 101, 119]⟩ = NW at hcat
  go_wp2_with fail
  refine (cut_any hD.out NW 0 (small_max (by omega)) (by decide) (by decide)).mono ?_
  rintro e wc ⟨rfl, a1⟩
  have hE1 := Lib.hid (hE.out.step (a1.2.part (fun k hk h => by have := hok.out k h; omega)))
  generalize hm1 : (pCut m NW 0).1 = m1 at *
  generalize (pCut m NW 0).2 = ec1
  replace a1 := Lib.hid a1
  clear hE hm1
  go_wp2_with fail
  refine (append_any a1.out.1 NW (small_max (by omega)) hE1.out).mono ?_
  rintro e wd ⟨rfl, a2⟩
  replace a2 := Lib.hid (a1.out.trans a2)
  clear a1 hE1
  by_cases hcode : (pAppend m1 NW enc).2 = 0
  · rw [if_pos hcode] at hsv1
    subst hsv1
    rw [hcode]
    clear hcode
    go_wp2_with fail
    refine (sync_any a2.out.1 NW (small_max (by omega))).mono ?_
    rintro e we ⟨rfl, a3⟩
    replace a3 := Lib.hid (a2.out.trans a3)
    clear a2
    generalize (pSync (pAppend m1 NW enc).1 NW).2 = ec3
    go_wp2_with fail
    refine (rename_any a3.out.1 NW NM (small_max (by omega)) (small_max (by omega))).mono ?_
    rintro e wf ⟨rfl, a4⟩
    have a5 := Lib.hid ((a3.out.trans a4).pre hbb.out)
    clear a3 a4
    generalize (pRename (pSync (pAppend m1 NW enc).1 NW).1 NW NM).2 = ec4
    go_wp2_with fail
    go_ret
    exact ⟨rfl, a5.out⟩
  · rw [if_neg hcode] at hsv1
    subst hsv1
    have hfl := pAppend_fail hcode
    rw [hfl] at a2
    have a5 := Lib.hid (a2.out.pre hbb.out)
    clear hfl a2
    generalize (pAppend m1 NW enc).2 = ec2 at *
    go_wp2_with fail
    go_ret
    exact ⟨rfl, a5.out⟩
end
end Go.Proofs.YthnodmbenbiahaaGreatDoor
