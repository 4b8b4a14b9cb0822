/- Rows of one's own: stores; a disk's files. -/
import Derived.Test.YthnodmbenbiahaaGreatDoorMine
import Derived.Test.YthnodmbenbiahaaGreatDoorFiles
import Derived.Test.YthnodmbenbiahaaGreatDoorDiskH
namespace Go.Proofs.YthnodmbenbiahaaGreatDoor
open Go.RowKit Go.Maps

theorem bytes_nums (l : List UInt8) : l.map byteV = (l.map fun b => (b.toNat : Int)).map (Value.int .u8) := by rw [List.map_map]; rfl
theorem nums_set (ys : List Int) (k : Nat) (y : Int) : (ys.map (Value.int .u8)).set k (.int .u8 y) = (ys.set k y).map (Value.int .u8) := by rw [List.map_set]
/-- A store into a row of one's own, at a place within. -/
theorem own_put {w : World} {base : Nat} {g n c k : Nat} {ys : List Int} (h : w.ownsRow base 5 1 (.slice (some ⟨g, 0, none⟩) n c) n (ys.map (Value.int .u8))) (hl : ys.length = n) (y : Int) :
    (w.setCell ⟨g, k, none⟩ (.int .u8 y)).ownsRow base 5 1 (.slice (some ⟨g, 0, none⟩) n c) n ((ys.set k y).map (Value.int .u8)) ∧ (ys.set k y).length = n ∧ Kept w (w.setCell ⟨g, k, none⟩ (.int .u8 y)) (fun b => (Value.slice (some ⟨g, 0, none⟩) n c).ownBlock = some b) := by
  have := h.stored k (.int .u8 y)
  rw [nums_set] at this
  exact ⟨this.1, by simpa using hl, (Kept.refl w (fun b => (Value.slice (some ⟨g, 0, none⟩) n c).ownBlock = some b)).setCell (a := ⟨g, k, none⟩) (.inl rfl) _⟩
theorem own_some {w : World} {base : Nat} {e : TypeId} {size : Nat} {v : Value} {n : Nat} {xs : List Value} (h : w.ownsRow base e size v n xs) (hn : 0 < n) : ∃ g cap, v = .slice (some ⟨g, 0, none⟩) n cap ∧ base ≤ g ∧ g < w.heap.size := by
  rcases h.2 with ⟨_, h0⟩ | ⟨g, cap, cur, rfl, hb, hg, _⟩
  · omega
  · exact ⟨g, cap, rfl, hb, (Array.getElem?_eq_some_iff.1 hg).1⟩
theorem files_at {w : World} {p : Nat} {ok : Nat → Prop} {m : List FileD} (h : DiskAt w p ok m) :
    Calls Tryz.prog 21 #[.pointer (some ⟨p, 0, none⟩)] w fun e w' => ∃ v us, e = .returned v ∧ FilesOwn w' w.heap.size v m us ∧ Below w.heap.size w w' := by
  obtain ⟨mb, g, h1, rfl, _⟩ := h
  exact files_any h1
/-- A row that is new since w1 is none of a disk's blocks. -/
theorem Mine.kept {w w1 w2 : World} {p : Nat} {m : List FileD} {S : Nat → Prop} (h : Mine w w1 p m) (hk : Kept w1 w2 S) {ok : Nat → Prop} (hd : DiskAt w1 p ok m) (hok : ∀ k, ok k → w.heap.size ≤ k ∧ ¬ S k) (hS : ∀ k, S k → w.heap.size ≤ k) : Mine w w2 p m :=
  ⟨(hd.step (hk.part (fun k hk => (hok k hk).2))).mono (fun k hk _ => (hok k hk).1), h.2.trans ⟨hk.os, hk.tape, hk.output, hk.size, fun k hlt => hk.same k (fun hs => by have := hS k hs; omega) (Nat.lt_of_lt_of_le hlt h.2.size)⟩⟩

theorem append_nil_ok {name : ByteArray} {b : List UInt8} (h : (pAppend [] name b).2 = 0) : (pAppend [] name b).1 = [⟨name, b, 0⟩] ∧ b.length ≤ 65536 := by
  unfold pAppend at h ⊢
  cases ho : okName name with
  | false => rw [ho] at h; simp at h
  | true =>
    rw [ho] at h
    simp only [if_true] at h ⊢
    have hf : fFind [] name = none := rfl
    rw [hf] at h ⊢
    simp only at h ⊢
    by_cases hb : 64 ≤ ([] : List FileD).length ∨ 65536 < b.length
    · rw [if_pos hb] at h; simp at h
    · rw [if_neg hb]
      refine ⟨rfl, ?_⟩
      simp at hb
      omega
theorem find_one (name : ByteArray) (b : List UInt8) (s : Int) : fFind [⟨name, b, s⟩] name = some ⟨name, b, s⟩ := by simp [fFind, lfind]
end Go.Proofs.YthnodmbenbiahaaGreatDoor
