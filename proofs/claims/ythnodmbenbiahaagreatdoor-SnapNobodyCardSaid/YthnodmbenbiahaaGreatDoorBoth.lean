/- A disk, and a list of files that lies apart. -/
import Derived.Test.YthnodmbenbiahaaGreatDoorRefG
import Derived.Test.YthnodmbenbiahaaGreatDoorOwnB
namespace Go.Proofs.YthnodmbenbiahaaGreatDoor
open Go.RowKit Go.Maps

/-- A disk and a list of files that lie apart; the disk is none of the blocks that were there in w0. -/
structure Both (w0 w : World) (p : Nat) (v : Value) (m l : List FileD) (okd okl : Nat → Prop) : Prop where
  d : ∀ k, okd k → w0.heap.size ≤ k ∧ k < w.heap.size
  ap : ∀ k, okl k → ¬ okd k ∧ k < w.heap.size
  at_ : DiskAt w p okd m
  rd : FilesRd w okl v l
  bel : Below w0.heap.size w0 w
theorem DiskAt.sz {w : World} {p : Nat} {ok : Nat → Prop} {m : List FileD} (h : DiskAt w p ok m) : (∀ x ∈ m, x.data.length ≤ 65536 ∧ 0 ≤ x.safe ∧ x.safe ≤ x.data.length) ∧ m.length ≤ 64 ∧ ∀ x ∈ m, okName x.name = true := by
  obtain ⟨mb, g, h1, rfl, _⟩ := h
  refine ⟨fun x hx => ?_, by simpa using h1.ct, fun x hx => ?_⟩
  · obtain ⟨y, hy, rfl⟩ := List.mem_map.1 hx
    exact h1.sz y hy
  · obtain ⟨y, hy, rfl⟩ := List.mem_map.1 hx
    exact h1.nm y hy
section
variable {w0 w w' : World} {p : Nat} {v : Value} {m m' l l' : List FileD} {okd okl : Nat → Prop}
theorem Both.below (h : Both w0 w p v m l okd okl) (hb : Below w.heap.size w w') : Both w0 w' p v m l okd okl :=
  ⟨fun k hk => ⟨(h.d k hk).1, Nat.lt_of_lt_of_le (h.d k hk).2 hb.size⟩, fun k hk => ⟨(h.ap k hk).1, Nat.lt_of_lt_of_le (h.ap k hk).2 hb.size⟩, h.at_.step (Same.of_below hb _), h.rd.step (Same.of_below hb _), h.bel.trans (hb.mono h.bel.size)⟩
theorem Both.disk (h : Both w0 w p v m l okd okl) (hA : After w w' p okd m') : Both w0 w' p v m' l (fun k => (okd k ∨ w.heap.size ≤ k) ∧ k < w'.heap.size) okl :=
  ⟨fun k hk => ⟨hk.1.elim (fun h1 => (h.d k h1).1) (fun h1 => Nat.le_trans h.bel.size h1), hk.2⟩,
    fun k hk => ⟨fun h1 => h1.1.elim (h.ap k hk).1 (fun h2 => by have := (h.ap k hk).2; omega), Nat.lt_of_lt_of_le (h.ap k hk).2 hA.2.size⟩,
    hA.1.mono (fun _ hk hlt => ⟨hk, hlt⟩), h.rd.step (hA.2.part (fun k hk => (h.ap k hk).1)),
    h.bel.trans ⟨hA.2.os, hA.2.tape, hA.2.output, hA.2.size, fun k hk => hA.2.same k (fun h1 => by have := (h.d k h1).1; omega) (Nat.lt_of_lt_of_le hk h.bel.size)⟩⟩
theorem Both.ref (h : Both w0 w p v m l okd okl) {v' : Value} (hR : RefOut w w' okl v' l') : Both w0 w' p v' m l' okd (fun k => (okl k ∨ w.heap.size ≤ k) ∧ k < w'.heap.size) :=
  ⟨fun k hk => ⟨(h.d k hk).1, Nat.lt_of_lt_of_le (h.d k hk).2 hR.2.size⟩,
    fun k hk => ⟨fun h1 => hk.1.elim (fun h2 => (h.ap k h2).1 h1) (fun h2 => by have := (h.d k h1).2; omega), hk.2⟩,
    h.at_.step (Same.of_below hR.2 _), hR.1.mono (fun _ hk hlt => ⟨hk, hlt⟩), h.bel.trans (hR.2.mono h.bel.size)⟩
/-- What a disk's call leaves of blocks that are not its own. -/
theorem Both.apart (h : Both w0 w p v m l okd okl) (hA : After w w' p okd m') {ok : Nat → Prop} (hk : ∀ k, ok k → ¬ okd k) : Same w w' ok := (fun _ => hA.2.part hk) h
end
theorem Both.kept {w0 w w' : World} {p : Nat} {v : Value} {m l : List FileD} {okd okl S : Nat → Prop} (h : Both w0 w p v m l okd okl) (hk : Kept w w' S) (hS : ∀ k, S k → ¬ okd k ∧ ¬ okl k ∧ w0.heap.size ≤ k) : Both w0 w' p v m l okd okl :=
  ⟨fun k h1 => ⟨(h.d k h1).1, Nat.lt_of_lt_of_le (h.d k h1).2 hk.size⟩, fun k h1 => ⟨(h.ap k h1).1, Nat.lt_of_lt_of_le (h.ap k h1).2 hk.size⟩, h.at_.step (hk.part (fun k h1 h2 => (hS k h2).1 h1)), h.rd.step (hk.part (fun k h1 h2 => (hS k h2).2.1 h1)),
    h.bel.trans ⟨hk.os, hk.tape, hk.output, hk.size, fun k h1 => hk.same k (fun h2 => by have := (hS k h2).2.2; omega) (Nat.lt_of_lt_of_le h1 h.bel.size)⟩⟩
theorem Same.within {w w' : World} {ok : Nat → Prop} (h : Same w w' (fun k => ok k ∧ k < w.heap.size)) : Same w w' ok := fun k h1 h2 => h k ⟨h1, h2⟩ h2
theorem info_int : (Tryz.prog.info? 3).map (fun i => (i.zero, i.size, i.bytes)) = some (some (.int .i64 0), 1, 8) := by kernel_rfl
def Fine (m : List FileD) : Prop := Rising FileD.name m ∧ m.length ≤ 1000 ∧ ∀ x ∈ m, x.data.length ≤ 65536 ∧ 0 ≤ x.safe ∧ x.safe ≤ x.data.length
theorem Both.fine {w0 w : World} {p : Nat} {v : Value} {m l : List FileD} {okd okl : Nat → Prop} (h : Both w0 w p v m l okd okl) : Fine m := ⟨h.at_.rising, by have := h.at_.sz.2.1; omega, h.at_.sz.1⟩
end Go.Proofs.YthnodmbenbiahaaGreatDoor
