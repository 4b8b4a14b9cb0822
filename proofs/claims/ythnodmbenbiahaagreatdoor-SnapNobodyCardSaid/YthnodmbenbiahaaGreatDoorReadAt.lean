/- Reading a file that is known to be there, or not: the disk's call and the document's. -/
import Derived.Test.YthnodmbenbiahaaGreatDoorBoth
namespace Go.Proofs.YthnodmbenbiahaaGreatDoor
open Go.RowKit Go.Maps

theorem read_some {w : World} {p : Nat} {ok : Nat → Prop} {m : List FileD} (h : DiskAt w p ok m) (s : ByteArray) (hs : s.size ≤ maxLen) {f : FileD} (hf : fFind m s = some f) :
    Calls Tryz.prog 86 #[.pointer (some ⟨p, 0, none⟩), .string s] w fun e w' => ∃ A c, e = .returned (.tuple #[.slice A f.data.length c, .bool true]) ∧ w'.ownsRow w.heap.size 5 1 (.slice A f.data.length c) f.data.length (f.data.map byteV) ∧ Below w.heap.size w w' := by
  refine (read_any h s hs).mono ?_
  rintro e w' ⟨v, he, hr, hb⟩
  rw [hf] at he hr
  simp only [Option.map_some, Option.getD_some, Option.isSome_some] at he hr
  obtain ⟨A, c, rfl, _⟩ := own_form hr
  exact ⟨A, c, he, hr, hb⟩
theorem read_none {w : World} {p : Nat} {ok : Nat → Prop} {m : List FileD} (h : DiskAt w p ok m) (s : ByteArray) (hs : s.size ≤ maxLen) (hf : fFind m s = none) :
    Calls Tryz.prog 86 #[.pointer (some ⟨p, 0, none⟩), .string s] w fun e w' => ∃ A c, e = .returned (.tuple #[.slice A 0 c, .bool false]) ∧ Below w.heap.size w w' := by
  refine (read_any h s hs).mono ?_
  rintro e w' ⟨v, he, hr, hb⟩
  rw [hf] at he hr
  simp only [Option.map_none, Option.getD_none, Option.isSome_none, List.length_nil, List.map_nil] at he hr
  obtain ⟨A, c, rfl, _⟩ := own_form hr
  exact ⟨A, c, he, hb⟩
theorem rread_some {w : World} {ok : Nat → Prop} {v : Value} {l : List FileD} (h : FilesRd w ok v l) (hr : Rising FileD.name l) (s : ByteArray) (hl : l.length ≤ 1000) {f : FileD} (hf : fFind l s = some f) :
    Calls Tryz.prog 38 #[v, .string s] w fun e w' => (∃ A c, e = .returned (.tuple #[.slice A f.data.length c, .bool true]) ∧ Bytes w ok (.slice A f.data.length c) f.data) ∧ w = w' := by
  refine (rread_any h hr s hl).mono ?_
  rintro e w' ⟨h1, rfl⟩
  rcases h1 with ⟨x, A, n, c, hx, he, hb⟩ | ⟨hx, _⟩
  · rw [hf] at hx
    injection hx with hx
    subst hx
    obtain rfl := hb.len
    exact ⟨⟨A, c, he, hb⟩, rfl⟩
  · rw [hf] at hx
    cases hx
theorem rread_none {w : World} {ok : Nat → Prop} {v : Value} {l : List FileD} (h : FilesRd w ok v l) (hr : Rising FileD.name l) (s : ByteArray) (hl : l.length ≤ 1000) (hf : fFind l s = none) :
    Calls Tryz.prog 38 #[v, .string s] w fun e w' => e = .returned (.tuple #[.slice none 0 0, .bool false]) ∧ w = w' := by
  refine (rread_any h hr s hl).mono ?_
  rintro e w' ⟨h1, rfl⟩
  rcases h1 with ⟨x, A, n, c, hx, he, hb⟩ | ⟨_, he⟩
  · rw [hf] at hx
    cases hx
  · exact ⟨he, rfl⟩
end Go.Proofs.YthnodmbenbiahaaGreatDoor
