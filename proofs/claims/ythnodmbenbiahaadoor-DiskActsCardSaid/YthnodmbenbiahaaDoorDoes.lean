/- Law 5's does: an act, with both the disk and the files. -/
import Derived.Test.YthnodmbenbiahaaDoorRefG
import Derived.Test.YthnodmbenbiahaaDoorOwns
namespace Go.Proofs.YthnodmbenbiahaaDoor
open Go.RowKit Go.Maps

structure ActD where
  act : Int
  name : ByteArray
  dst : ByteArray
  b : List UInt8
  n : Int
  cuts : List Int
/-- What an act leaves. -/
def actTo (m : List FileD) (a : ActD) : List FileD :=
  if a.act = 1 then (pSync m a.name).1 else if a.act = 2 then (pCut m a.name a.n).1 else if a.act = 3 then (pRename m a.name a.dst).1 else if a.act = 4 then (pRemove m a.name).1 else if a.act = 5 then pCrash m a.cuts else (pAppend m a.name a.b).1
/-- An act's numbers and names are within their bounds. -/
structure ActOk (a : ActD) : Prop where
  name : a.name.size ≤ maxLen
  dst : a.dst.size ≤ maxLen
  n1 : -9223372036854775808 ≤ a.n
  n2 : a.n ≤ 9223372036854775807
  cuts : ∀ c ∈ a.cuts, -9223372036854775808 ≤ c ∧ c ≤ 9223372036854775807
/-- A disk and a list of files that lie apart; the disk is none of the blocks that were there in w0. -/
structure Both (w0 w : World) (p : Nat) (v : Value) (m l : List FileD) (okd okl : Nat → Prop) : Prop where
  d : ∀ k, okd k → w0.heap.size ≤ k ∧ k < w.heap.size
  ap : ∀ k, okl k → ¬ okd k ∧ k < w.heap.size
  at_ : DiskAt w p okd m
  rd : FilesRd w okl v l
  bel : Below w0.heap.size w0 w
theorem DiskAt.sz {w : World} {p : Nat} {ok : Nat → Prop} {m : List FileD} (h : DiskAt w p ok m) : (∀ x ∈ m, x.data.length ≤ 65536 ∧ 0 ≤ x.safe ∧ x.safe ≤ x.data.length) ∧ m.length ≤ 64 ∧ ∀ x ∈ m, okName x.name = true := by
  obtain ⟨mb, g, h1, rfl, _⟩ := h
  refine ⟨fun x hx => ?_, by simpa using h1.ct, fun x hx => ?_⟩
  · obtain ⟨y, hy, rfl⟩ := List.mem_map.1 hx
    exact h1.sz y hy
  · obtain ⟨y, hy, rfl⟩ := List.mem_map.1 hx
    exact h1.nm y hy
section
variable {w0 w w' : World} {p : Nat} {v : Value} {m m' l l' : List FileD} {okd okl : Nat → Prop}
theorem Both.below (h : Both w0 w p v m l okd okl) (hb : Below w.heap.size w w') : Both w0 w' p v m l okd okl :=
  ⟨fun k hk => ⟨(h.d k hk).1, Nat.lt_of_lt_of_le (h.d k hk).2 hb.size⟩, fun k hk => ⟨(h.ap k hk).1, Nat.lt_of_lt_of_le (h.ap k hk).2 hb.size⟩, h.at_.step (Same.of_below hb _), h.rd.step (Same.of_below hb _), h.bel.trans (hb.mono h.bel.size)⟩
theorem Both.disk (h : Both w0 w p v m l okd okl) (hA : After w w' p okd m') : Both w0 w' p v m' l (fun k => (okd k ∨ w.heap.size ≤ k) ∧ k < w'.heap.size) okl :=
  ⟨fun k hk => ⟨hk.1.elim (fun h1 => (h.d k h1).1) (fun h1 => Nat.le_trans h.bel.size h1), hk.2⟩,
    fun k hk => ⟨fun h1 => h1.1.elim (h.ap k hk).1 (fun h2 => by have := (h.ap k hk).2; omega), Nat.lt_of_lt_of_le (h.ap k hk).2 hA.2.size⟩,
    hA.1.mono (fun _ hk hlt => ⟨hk, hlt⟩), h.rd.step (hA.2.part (fun k hk => (h.ap k hk).1)),
    h.bel.trans ⟨hA.2.os, hA.2.tape, hA.2.output, hA.2.size, fun k hk => hA.2.same k (fun h1 => by have := (h.d k h1).1; omega) (Nat.lt_of_lt_of_le hk h.bel.size)⟩⟩
theorem Both.ref (h : Both w0 w p v m l okd okl) {v' : Value} (hR : RefOut w w' okl v' l') : Both w0 w' p v' m l' okd (fun k => (okl k ∨ w.heap.size ≤ k) ∧ k < w'.heap.size) :=
  ⟨fun k hk => ⟨(h.d k hk).1, Nat.lt_of_lt_of_le (h.d k hk).2 hR.2.size⟩,
    fun k hk => ⟨fun h1 => hk.1.elim (fun h2 => (h.ap k h2).1 h1) (fun h2 => by have := (h.d k h1).2; omega), hk.2⟩,
    h.at_.step (Same.of_below hR.2 _), hR.1.mono (fun _ hk hlt => ⟨hk, hlt⟩), h.bel.trans (hR.2.mono h.bel.size)⟩
/-- What a disk's call leaves of blocks that are not its own. -/
theorem Both.apart (h : Both w0 w p v m l okd okl) (hA : After w w' p okd m') {ok : Nat → Prop} (hk : ∀ k, ok k → ¬ okd k) : Same w w' ok := (fun _ => hA.2.part hk) h
end
theorem Both.kept {w0 w w' : World} {p : Nat} {v : Value} {m l : List FileD} {okd okl S : Nat → Prop} (h : Both w0 w p v m l okd okl) (hk : Kept w w' S) (hS : ∀ k, S k → ¬ okd k ∧ ¬ okl k ∧ w0.heap.size ≤ k) : Both w0 w' p v m l okd okl :=
  ⟨fun k h1 => ⟨(h.d k h1).1, Nat.lt_of_lt_of_le (h.d k h1).2 hk.size⟩, fun k h1 => ⟨(h.ap k h1).1, Nat.lt_of_lt_of_le (h.ap k h1).2 hk.size⟩, h.at_.step (hk.part (fun k h1 h2 => (hS k h2).1 h1)), h.rd.step (hk.part (fun k h1 h2 => (hS k h2).2.1 h1)),
    h.bel.trans ⟨hk.os, hk.tape, hk.output, hk.size, fun k h1 => hk.same k (fun h2 => by have := (hS k h2).2.2; omega) (Nat.lt_of_lt_of_le h1 h.bel.size)⟩⟩
theorem Same.within {w w' : World} {ok : Nat → Prop} (h : Same w w' (fun k => ok k ∧ k < w.heap.size)) : Same w w' ok := fun k h1 h2 => h k ⟨h1, h2⟩ h2
theorem info_int : (Tryd.prog.info? 3).map (fun i => (i.zero, i.size, i.bytes)) = some (some (.int .i64 0), 1, 8) := by kernel_rfl
def Fine (m : List FileD) : Prop := Rising FileD.name m ∧ m.length ≤ 1000 ∧ ∀ x ∈ m, x.data.length ≤ 65536 ∧ 0 ≤ x.safe ∧ x.safe ≤ x.data.length
theorem Both.fine {w0 w : World} {p : Nat} {v : Value} {m l : List FileD} {okd okl : Nat → Prop} (h : Both w0 w p v m l okd okl) : Fine m := ⟨h.at_.rising, by have := h.at_.sz.2.1; omega, h.at_.sz.1⟩

set_option maxRecDepth 100000 in
set_option maxHeartbeats 4000000 in
theorem does_any {w0 w : World} {p : Nat} {v : Value} {m : List FileD} {okd okl : Nat → Prop} (hBoth : Both w0 w p v m m okd okl) (a : ActD) (ha : ActOk a) {oka : Nat → Prop} (hoka : ∀ k, oka k → k < w.heap.size ∧ ¬ okd k)
    {BA : Option Addr} {bn bc : Nat} (hb : Bytes w oka (.slice BA bn bc) a.b) (hbl : bn ≤ 262144) {CA : Option Addr} {cn cc : Nat} (hc : Ints w oka (.slice CA cn cc) a.cuts) (hcl : cn ≤ 17592186044416) :
    Calls Tryd.prog 15 #[.pointer (some ⟨p, 0, none⟩), v, .agg #[.int .i64 a.act, .string a.name, .string a.dst, .slice BA bn bc, .int .i64 a.n, .slice CA cn cc]] w fun e w' => ∃ A n c okd' okl', e = .returned (.tuple #[.slice A n c, .bool true]) ∧ Both w0 w' p (.slice A n c) (actTo m a) (actTo m a) okd' okl' ∧ Same w w' (fun k => ¬ okd k) ∧ (∀ k, okd' k → okd k ∨ w.heap.size ≤ k) := by
  obtain ⟨A, c, rfl, _, _⟩ := hBoth.rd.form
  obtain ⟨act, name, tn, bs, n, cuts⟩ := a
  obtain ⟨hn1, hn2, hn3, hn4, hn5⟩ := ha
  simp only at hn1 hn2 hn3 hn4 hn5 hb hc ⊢
  obtain rfl := hb.len
  obtain rfl := hc.len
  generalize hO : (Obj.cells #[.int .i64 act, .string name, .string tn, .slice BA bs.length bc, .int .i64 n, .slice CA cuts.length cc] 41) = O
  have bx : (w.alloc O).heap[w.heap.size]? = some (.cells #[.int .i64 act, .string name, .string tn, .slice BA bs.length bc, .int .i64 n, .slice CA cuts.length cc] 41) := by rw [← hO]; exact heap_alloc_new w _
  have hBel : Below w.heap.size w (w.alloc O) := (Below.refl _ _).alloc (Nat.le_refl _) O
  have hB1 := hBoth.below hBel
  have hb1 := hb.step (Same.of_below hBel _)
  have hc1 := hc.step (Same.of_below hBel _)
  have hs1 : (w.alloc O).heap.size = w.heap.size + 1 := by simp
  have z0 : (w.alloc O).cell? ⟨w.heap.size, 0, none⟩ = some (.int .i64 act) := cell_blk bx 0
  have z1 : (w.alloc O).cell? ⟨w.heap.size, 1, none⟩ = some (.string name) := cell_blk bx 1
  have z2 : (w.alloc O).cell? ⟨w.heap.size, 2, none⟩ = some (.string tn) := cell_blk bx 2
  have z3 : (w.alloc O).cell? ⟨w.heap.size, 3, none⟩ = some (.slice BA bs.length bc) := cell_blk bx 3
  have z4 : (w.alloc O).cell? ⟨w.heap.size, 4, none⟩ = some (.int .i64 n) := cell_blk bx 4
  have z5 : (w.alloc O).cell? ⟨w.heap.size, 5, none⟩ = some (.slice CA cuts.length cc) := cell_blk bx 5
  have hnB : ¬ okd w.heap.size := fun h => by have := (hBoth.d _ h).2; omega
  have hfine := hBoth.fine
  have hdok : ∀ k, okd k → k < w.heap.size := fun k hk => (hBoth.d k hk).2
  have hSame0 : Same w (w.alloc O) (fun k => ¬ okd k) := Same.of_below hBel _
  have hdl : ∀ k, okd k → w0.heap.size ≤ k := fun k hk => (hBoth.d k hk).1
  clear hb hc hBoth bx hBel
  generalize hw1 : w.alloc O = w1 at *
  rw [← hO] at hw1
  clear hO
  replace hB1 := Lib.hid hB1
  replace hb1 := Lib.hid hb1
  replace hc1 := Lib.hid hc1
  replace hfine := Lib.hid hfine
  replace hoka := Lib.hid hoka
  replace hdok := Lib.hid hdok
  replace hSame0 := Lib.hid hSame0
  replace hn5 := Lib.hid hn5
  replace hdl := Lib.hid hdl
  replace hs1 := Lib.hid hs1
  go_enter Tryd.func15, Tryd.ntmps15
  by_cases k1 : act = 1
  · obtain rfl := k1
    go_wp2_with fail
    refine (sync_any hB1.out.at_ name hn1).mono ?_
    rintro e w2 ⟨rfl, hA⟩
    have hB2 := Lib.hid (hB1.out.disk hA)
    have hS2 := Lib.hid (hB1.out.apart hA (ok := fun k => ¬ okd k) (fun _ h => h))
    have y1 := hS2.out.cell (a := ⟨w.heap.size, 1, none⟩) hnB z1
    clear hA
    go_wp2_with fail
    refine (rsync_any hB2.out.rd hfine.out.1 hfine.out.2.1 name).mono ?_
    rintro e w3 ⟨A1, n1, c1, rfl, hR⟩
    have hB3 := hB2.out.ref hR
    have hS3 := Same.of_below hR.2 (fun k => ¬ okd k)
    generalize (pSync m name).2 = er at *
    replace hB3 := Lib.hid hB3
    replace hS3 := Lib.hid hS3
    clear hR
    go_wp2_with fail
    go_ret2
    refine ⟨A1, n1, c1, (fun k => (okd k ∨ w1.heap.size ≤ k) ∧ k < w2.heap.size), (fun k => (okl k ∨ w2.heap.size ≤ k) ∧ k < w3.heap.size), ?_, ?_, (hSame0.out.trans hS2.out).trans hS3.out, ?_⟩
    · simp
    · exact hB3.out
    · rintro k ⟨hk | hk, _⟩
      · exact .inl hk
      · exact .inr (by have := hs1.out; omega)
  by_cases k2 : act = 2
  · obtain rfl := k2
    go_wp2_with fail
    refine (cut_any hB1.out.at_ name n hn1 hn3 hn4).mono ?_
    rintro e w2 ⟨rfl, hA⟩
    have hB2 := Lib.hid (hB1.out.disk hA)
    have hS2 := Lib.hid (hB1.out.apart hA (ok := fun k => ¬ okd k) (fun _ h => h))
    have y1 := hS2.out.cell (a := ⟨w.heap.size, 1, none⟩) hnB z1
    have y4 := hS2.out.cell (a := ⟨w.heap.size, 4, none⟩) hnB z4
    clear hA
    go_wp2_with fail
    refine (rcut_any hB2.out.rd hfine.out.1 hfine.out.2.1 hfine.out.2.2 name n).mono ?_
    rintro e w3 ⟨A1, n1, c1, rfl, hR⟩
    have hB3 := hB2.out.ref hR
    have hS3 := Same.of_below hR.2 (fun k => ¬ okd k)
    generalize (pCut m name n).2 = er at *
    replace hB3 := Lib.hid hB3
    replace hS3 := Lib.hid hS3
    clear hR
    go_wp2_with fail
    go_ret2
    refine ⟨A1, n1, c1, (fun k => (okd k ∨ w1.heap.size ≤ k) ∧ k < w2.heap.size), (fun k => (okl k ∨ w2.heap.size ≤ k) ∧ k < w3.heap.size), ?_, ?_, (hSame0.out.trans hS2.out).trans hS3.out, ?_⟩
    · simp
    · exact hB3.out
    · rintro k ⟨hk | hk, _⟩
      · exact .inl hk
      · exact .inr (by have := hs1.out; omega)
  by_cases k3 : act = 3
  · obtain rfl := k3
    go_wp2_with fail
    refine (rename_any hB1.out.at_ name tn hn1 hn2).mono ?_
    rintro e w2 ⟨rfl, hA⟩
    have hB2 := Lib.hid (hB1.out.disk hA)
    have hS2 := Lib.hid (hB1.out.apart hA (ok := fun k => ¬ okd k) (fun _ h => h))
    have y1 := hS2.out.cell (a := ⟨w.heap.size, 1, none⟩) hnB z1
    have y2 := hS2.out.cell (a := ⟨w.heap.size, 2, none⟩) hnB z2
    clear hA
    go_wp2_with fail
    refine (rrename_any hB2.out.rd hfine.out.1 hfine.out.2.1 name tn hn2).mono ?_
    rintro e w3 ⟨A1, n1, c1, rfl, hR⟩
    have hB3 := hB2.out.ref hR
    have hS3 := Same.of_below hR.2 (fun k => ¬ okd k)
    generalize (pRename m name tn).2 = er at *
    replace hB3 := Lib.hid hB3
    replace hS3 := Lib.hid hS3
    clear hR
    go_wp2_with fail
    go_ret2
    refine ⟨A1, n1, c1, (fun k => (okd k ∨ w1.heap.size ≤ k) ∧ k < w2.heap.size), (fun k => (okl k ∨ w2.heap.size ≤ k) ∧ k < w3.heap.size), ?_, ?_, (hSame0.out.trans hS2.out).trans hS3.out, ?_⟩
    · simp
    · exact hB3.out
    · rintro k ⟨hk | hk, _⟩
      · exact .inl hk
      · exact .inr (by have := hs1.out; omega)
  by_cases k4 : act = 4
  · obtain rfl := k4
    go_wp2_with fail
    refine (remove_any hB1.out.at_ name hn1).mono ?_
    rintro e w2 ⟨rfl, hA⟩
    have hB2 := Lib.hid (hB1.out.disk hA)
    have hS2 := Lib.hid (hB1.out.apart hA (ok := fun k => ¬ okd k) (fun _ h => h))
    have y1 := hS2.out.cell (a := ⟨w.heap.size, 1, none⟩) hnB z1
    clear hA
    go_wp2_with fail
    refine (rremove_any hB2.out.rd hfine.out.1 hfine.out.2.1 name).mono ?_
    rintro e w3 ⟨A1, n1, c1, rfl, hR⟩
    have hB3 := hB2.out.ref hR
    have hS3 := Same.of_below hR.2 (fun k => ¬ okd k)
    generalize (pRemove m name).2 = er at *
    replace hB3 := Lib.hid hB3
    replace hS3 := Lib.hid hS3
    clear hR
    go_wp2_with fail
    go_ret2
    refine ⟨A1, n1, c1, (fun k => (okd k ∨ w1.heap.size ≤ k) ∧ k < w2.heap.size), (fun k => (okl k ∨ w2.heap.size ≤ k) ∧ k < w3.heap.size), ?_, ?_, (hSame0.out.trans hS2.out).trans hS3.out, ?_⟩
    · simp
    · exact hB3.out
    · rintro k ⟨hk | hk, _⟩
      · exact .inl hk
      · exact .inr (by have := hs1.out; omega)
  by_cases k5 : act = 5
  · obtain rfl := k5
    have hm := Lib.hid (World.ownsRow_made (base := w1.heap.size) (size := 1) (e := 3) w1 #[] 0 (Nat.le_refl _) (Nat.zero_le _) rfl)
    have zA5 : ∀ O, (w1.alloc O).cell? ⟨w.heap.size, 5, none⟩ = some (.slice CA cuts.length cc) := fun O => (World.cell?_alloc_lt w1 O _ (cell_lt z5)).trans z5
    have hcA := Lib.hid (fun O => (hc1.out.step (Same.alloc w1 O oka)).cells)
    go_wp2_with (at_builtin; refine wpList_append rfl _ _ 36 rfl Tryd.underlying36 info_int rfl (by decide) (v := .slice (some ⟨w1.heap.size, 0, none⟩) 0 0) (n := 0) (xs := []) rfl hm.out (A := CA) (m := cuts.length) (c := cc) rfl (by simp) (hcA.out _) (int_one _) (by omega) (by omega) (by simp) ?_; intro v1 w2 r1 r2 r3; rw [Nat.zero_add, List.nil_append] at r1; obtain ⟨VA, vc, rfl, _, _⟩ := own_form r1)
    have hg : Below w1.heap.size w1 w2 := ((Below.refl _ _).alloc (Nat.le_refl _) _).grown r2 (by simp) (fun k hk => own_base hm.out k hk)
    have hB2 := Lib.hid (hB1.out.below hg)
    have y5 := (hg.cell (p := ⟨w.heap.size, 5, none⟩) (by have := hs1.out; show w.heap.size < _; omega)).trans z5
    have hS1 := Lib.hid (Same.of_below hg (fun k => ¬ okd k))
    have hI := Lib.hid (Reads.of_own (α := Int) (enc := intV) r1)
    have hdi := Lib.hid (show ∀ k, (Value.slice VA cuts.length vc).ownBlock = some k → ¬ okd k from fun k hk h => by have := own_base r1 k hk; have := hdok.out k h; have := hs1.out; omega)
    have hsz2 : w1.heap.size ≤ w2.heap.size := hg.size
    have hc2 := Lib.hid (hc1.out.step (Same.of_below hg oka))
    clear hg r1 r2 r3
    go_wp2_with fail
    refine (crash_any hB2.out.at_ hI.out hdi.out hn5.out).mono ?_
    rintro e w3 ⟨rfl, hA⟩
    have hB3 := Lib.hid (hB2.out.disk hA)
    have hS2 := Lib.hid (hB2.out.apart hA (ok := fun k => ¬ okd k) (fun _ h => h))
    have y5' := hS2.out.cell (a := ⟨w.heap.size, 5, none⟩) hnB y5
    have hc3 := Lib.hid (hc2.out.step (hA.2.part (fun k hk => (hoka.out k hk).2)))
    clear hA
    go_wp2_with fail
    refine (rcrash_any hB3.out.rd hfine.out.2.1 hfine.out.2.2 hc3.out hn5.out).mono ?_
    rintro e w4 ⟨A1, n1, c1, rfl, hR⟩
    have hB4 := Lib.hid (hB3.out.ref hR)
    have hS3 := Lib.hid (Same.of_below hR.2 (fun k => ¬ okd k))
    clear hR
    go_wp2_with fail
    go_ret2
    refine ⟨A1, n1, c1, (fun k => (okd k ∨ w2.heap.size ≤ k) ∧ k < w3.heap.size), (fun k => (okl k ∨ w3.heap.size ≤ k) ∧ k < w4.heap.size), rfl, hB4.out, ((hSame0.out.trans hS1.out).trans hS2.out).trans hS3.out, ?_⟩
    rintro k ⟨hk | hk, _⟩
    · exact .inl hk
    · exact .inr (by have := hs1.out; omega)
  have hm := Lib.hid (World.ownsRow_made (base := w1.heap.size) (size := 1) (e := 5) w1 #[] 0 (Nat.le_refl _) (Nat.zero_le _) rfl)
  have zA3 : ∀ O, (w1.alloc O).cell? ⟨w.heap.size, 3, none⟩ = some (.slice BA bs.length bc) := fun O => (World.cell?_alloc_lt w1 O _ (cell_lt z3)).trans z3
  have hbA := Lib.hid (fun O => (hb1.out.step (Same.alloc w1 O oka)).cells)
  have hact : actTo m ⟨act, name, tn, bs, n, cuts⟩ = (pAppend m name bs).1 := by unfold actTo; simp only; rw [if_neg k1, if_neg k2, if_neg k3, if_neg k4, if_neg k5]
  rw [hact]
  clear hact
  have hBw : w.heap.size < w1.heap.size := by have := hs1.out; omega
  go_wp2_with (at_builtin; refine wpList_append rfl _ _ 22 rfl Tryd.underlying22 info_u8 rfl (by decide) (v := .slice (some ⟨w1.heap.size, 0, none⟩) 0 0) (n := 0) (xs := []) rfl hm.out (A := BA) (m := bs.length) (c := bc) rfl (by simp) (hbA.out _) (byte_one _) (by omega) (by omega) (by simp) ?_; intro v1 w2 r1 r2 r3; rw [Nat.zero_add, List.nil_append] at r1; obtain ⟨VA, vc, rfl, _, _⟩ := own_form r1; have hg := ((Below.refl w1.heap.size w1).alloc (Nat.le_refl _) _).grown r2 (by simp) (fun k hk => own_base hm.out k hk); have y1 := (hg.cell (p := ⟨w.heap.size, 1, none⟩) hBw).trans z1; have y3 := (hg.cell (p := ⟨w.heap.size, 3, none⟩) hBw).trans z3)
  have hB2 := Lib.hid (hB1.out.below hg)
  have hS1 := Lib.hid (Same.of_below hg (fun k => ¬ okd k))
  have hI := Lib.hid (Reads.of_own (α := UInt8) (enc := byteV) r1)
  have hdi := Lib.hid (show ∀ k, (Value.slice VA bs.length vc).ownBlock = some k → ¬ okd k from fun k hk h => by have := own_base r1 k hk; have := hdok.out k h; omega)
  have hsz2 : w1.heap.size ≤ w2.heap.size := hg.size
  have hb2 := Lib.hid (hb1.out.step (Same.of_below hg oka))
  have hr2 := Lib.hid r1
  have hob := Lib.hid (fun k hk => And.intro (own_base r1 k hk) (own_lt r1 k hk))
  clear hg r1 r2 r3
  go_wp2_with fail
  refine (append_any hB2.out.at_ name hn1 hI.out).mono ?_
  rintro e w3 ⟨rfl, hA⟩
  have hB3 := Lib.hid (hB2.out.disk hA)
  have hS2 := Lib.hid (hB2.out.apart hA (ok := fun k => ¬ okd k) (fun _ h => h))
  have x1 := hS2.out.cell (a := ⟨w.heap.size, 1, none⟩) hnB y1
  have x3 := hS2.out.cell (a := ⟨w.heap.size, 3, none⟩) hnB y3
  have hb3 := Lib.hid (hb2.out.step (hA.2.part (fun k hk => (hoka.out k hk).2)))
  have hr3 := own_step hr2.out hS2.out hdi.out
  have hys : (bs.map fun b => (b.toNat : Int)).length = bs.length := by simp
  rw [bytes_nums] at hr3
  generalize (bs.map fun b => (b.toNat : Int)) = Y at hr3 hys
  replace hr3 := Lib.hid hr3
  replace hys := Lib.hid hys
  have hsz3 : w2.heap.size ≤ w3.heap.size := hA.2.size
  clear hA
  go_wp2_with fail
  go_loopw [11] (fun i wr => ∃ (k : Nat) (ys : List Int), k ≤ bs.length ∧ i = .int .i64 k ∧ wr.ownsRow w1.heap.size 5 1 (.slice VA bs.length vc) bs.length (ys.map (Value.int .u8)) ∧ Hid (ys.length = bs.length) ∧ Kept w3 wr (fun x => (Value.slice VA bs.length vc).ownBlock = some x)) (fun i _ => bs.length - (intOf i).toNat)
  case atStart => exact ⟨0, Y, Nat.zero_le _, rfl, hr3.out, hys, Kept.refl _ _⟩
  case round =>
    obtain ⟨k, ys, hk, rfl, hrow, hyl, hKept⟩ := hrel
    have hrow : wr.ownsRow w1.heap.size 5 1 (.slice VA bs.length vc) bs.length (ys.map (Value.int .u8)) := hrow
    by_cases hlt : k < bs.length
    · obtain ⟨g, c', hform, _, _⟩ := own_some hrow (by omega)
      injection hform with e1 e2 e3
      subst e1 e3
      have q1 : wr.cell? ⟨g, k, none⟩ = some (.int .u8 (ys.getD k 0)) := by
        rw [hrow.cellAt k (by omega), List.getElem?_map, List.getD_eq_getElem?_getD, List.getElem?_eq_getElem (by rw [hyl.out]; exact hlt)]; rfl
      have q2 := hrow.frozenAt k
      have hput := Lib.hid (fun y => own_put (k := k) hrow hyl.out y)
      generalize hy0 : ys.getD k 0 = y0 at q1
      clear hrow hy0
      have i6 : (0 : Int) ≤ k := by omega
      have i7 : (k : Int) < bs.length := by omega
      go_wp2_with fail
      go_roundw
      case measure => simp [intOf]; omega
      case rel =>
        obtain ⟨a1, a2, a3⟩ := hput.out _
        exact ⟨k + 1, _, by omega, by go_num, a1, Lib.hid a2, hKept.trans a3 (fun _ h => .inl h)⟩
    · obtain rfl : k = bs.length := by omega
      clear hlt hrow
      rename World => w4
      have hnB4 : ¬ (Value.slice VA bs.length vc).ownBlock = some w.heap.size := fun h => by have := (hob.out _ h).1; omega
      have u1 := hKept.same.cell (a := ⟨w.heap.size, 1, none⟩) hnB4 x1
      have u3 := hKept.same.cell (a := ⟨w.heap.size, 3, none⟩) hnB4 x3
      have hB4 := Lib.hid (hB3.out.kept hKept (fun k hk => ⟨fun h => h.1.elim (hdi.out k hk) (fun h2 => by have := (hob.out k hk).2; omega), fun h => by have := (hB1.out.ap k h).2; have := (hob.out k hk).1; omega, by have := (hob.out k hk).1; have := hB1.out.bel.size; omega⟩))
      have hb4 := Lib.hid (hb3.out.step (hKept.part (fun k hk h => by have := (hoka.out k hk).1; have := (hob.out k h).1; omega)))
      have hS3 := Lib.hid (show Same w w4 (fun k => ¬ okd k) from Same.within ((((hSame0.out.trans hS1.out).trans hS2.out).mono (fun _ h => h.1)).trans (hKept.part (fun k hk h => by have := (hob.out k h).1; have := hk.2; omega))))
      clear hKept hyl
      go_wp2_with fail
      refine (rappend_any hB4.out.rd hfine.out.1 hfine.out.2.1 hfine.out.2.2 name hn1 hb4.out (by omega)).mono ?_
      rintro e w5 ⟨A1, n1, c1, rfl, hR⟩
      have hB5 := hB4.out.ref hR
      have hS4 := Lib.hid (Same.of_below hR.2 (fun k => ¬ okd k))
      generalize (pAppend m name bs).2 = er at *
      replace hB5 := Lib.hid hB5
      clear hR
      go_wp2_with fail
      go_ret2
      refine ⟨A1, n1, c1, (fun k => (okd k ∨ w2.heap.size ≤ k) ∧ k < w3.heap.size), (fun k => (okl k ∨ w4.heap.size ≤ k) ∧ k < w5.heap.size), ?_, hB5.out, hS3.out.trans hS4.out, ?_⟩
      · simp
      · rintro k ⟨hk | hk, _⟩
        · exact .inl hk
        · exact .inr (by omega)
end Go.Proofs.YthnodmbenbiahaaDoor
