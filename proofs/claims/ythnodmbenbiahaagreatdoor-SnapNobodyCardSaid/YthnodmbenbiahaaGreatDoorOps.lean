/- What a disk's calls do, as plain functions on its files (by rising names). No program. -/
import Derived.Test.YthnodmbenbiahaaGreatDoorDisk
namespace Go.Proofs.YthnodmbenbiahaaGreatDoor

abbrev fFind (m : List FileD) (s : ByteArray) : Option FileD := lfind FileD.name m s
abbrev fPut (m : List FileD) (x : FileD) : List FileD := lput FileD.name m x
abbrev fDel (m : List FileD) (s : ByteArray) : List FileD := ldel FileD.name m s
def pSync (m : List FileD) (s : ByteArray) : List FileD × Int := match fFind m s with
  | some f => (fPut m { f with safe := f.data.length }, 0)
  | none => (m, 4)
def pCut (m : List FileD) (s : ByteArray) (n : Int) : List FileD × Int := match fFind m s with
  | some f => if n < 0 ∨ (f.data.length : Int) < n then (m, 1) else (fPut m { f with data := f.data.take n.toNat, safe := min f.safe n }, 0)
  | none => (m, 4)
def pRename (m : List FileD) (s t : ByteArray) : List FileD × Int := match fFind m s with
  | some f => if okName t then (fPut (fDel m s) { f with name := t }, 0) else (m, 1)
  | none => (m, 4)
def pRemove (m : List FileD) (s : ByteArray) : List FileD × Int := match fFind m s with
  | some _ => (fDel m s, 0)
  | none => (m, 4)
def pAppend (m : List FileD) (s : ByteArray) (b : List UInt8) : List FileD × Int :=
  if okName s then
    match fFind m s with
    | some f => if 65536 < f.data.length + b.length then (m, 2) else (fPut m { f with data := f.data ++ b }, 0)
    | none => if 64 ≤ m.length ∨ 65536 < b.length then (m, 2) else (fPut m ⟨s, b, 0⟩, 0)
  else (m, 1)
/-- How many bytes stay behind a crash. -/
def stays (f : FileD) (c : Option Int) : Nat := match c with
  | some c => f.safe.toNat + (min c.toNat (f.data.length - f.safe.toNat))
  | none => f.safe.toNat
def crashed (f : FileD) (c : Option Int) : FileD := ⟨f.name, f.data.take (stays f c), stays f c⟩
def crashTo (k : Nat) (m : List FileD) (cuts : List Int) : List FileD := m.mapIdx fun i f => if i < k then crashed f cuts[i]? else f
def pCrash (m : List FileD) (cuts : List Int) : List FileD := m.mapIdx fun i f => crashed f cuts[i]?
theorem crashTo_zero (m : List FileD) (cuts : List Int) : crashTo 0 m cuts = m := by
  unfold crashTo
  apply List.ext_getElem?
  intro i
  simp
theorem crashTo_all (m : List FileD) (cuts : List Int) : crashTo m.length m cuts = pCrash m cuts := by
  unfold crashTo pCrash
  apply List.ext_getElem?
  intro i
  rw [List.getElem?_mapIdx, List.getElem?_mapIdx]
  cases h : m[i]? with
  | none => rfl
  | some f => have := (List.getElem?_eq_some_iff.1 h).1; simp [this]
theorem crashTo_get (k : Nat) (m : List FileD) (cuts : List Int) (hk : k < m.length) : (crashTo k m cuts)[k]? = some m[k] := by
  unfold crashTo
  rw [List.getElem?_mapIdx, List.getElem?_eq_getElem hk]
  simp
theorem crashTo_succ (k : Nat) (m : List FileD) (cuts : List Int) (hk : k < m.length) : crashTo (k + 1) m cuts = (crashTo k m cuts).set k (crashed m[k] cuts[k]?) := by
  unfold crashTo
  apply List.ext_getElem?
  intro i
  rw [List.getElem?_mapIdx, List.getElem?_set, List.getElem?_mapIdx, List.length_mapIdx]
  by_cases hik : k = i
  · subst hik
    rw [if_pos rfl, if_pos hk, List.getElem?_eq_getElem hk]
    simp
  · rw [if_neg hik]
    cases h : m[i]? with
    | none => rfl
    | some f =>
      simp only [Option.map_some, Option.some.injEq]
      by_cases hi : i < k
      · rw [if_pos (by omega), if_pos hi]
      · rw [if_neg (by omega), if_neg hi]
theorem crashTo_length (k : Nat) (m : List FileD) (cuts : List Int) : (crashTo k m cuts).length = m.length := by unfold crashTo; simp
theorem stays_le {f : FileD} (h0 : 0 ≤ f.safe) (h1 : f.safe ≤ f.data.length) (c : Option Int) : stays f c ≤ f.data.length ∧ f.safe ≤ stays f c := by
  unfold stays
  cases c with
  | none => simp only; omega
  | some c => simp only; omega
/-- A store at a name that is there turns that place alone. -/
theorem lput_set {α : Type} {nm : α → ByteArray} {l : List α} (hr : Rising nm l) {k : Nat} (hk : k < l.length) {x : α} (hn : nm x = nm l[k]) : lput nm l x = l.set k x := by
  have hset : ∀ i (hi : i < l.length), nm ((l.set k x)[i]'(by simpa using hi)) = nm l[i] := by
    intro i hi
    rw [List.getElem_set]
    by_cases h : k = i
    · subst h; simp [hn]
    · simp [h]
  refine (hr.put x).ext ?_ (fun y => ?_)
  · unfold Rising
    rw [List.pairwise_iff_getElem]
    intro i j hi hj hij
    rw [hset i (by simpa using hi), hset j (by simpa using hj)]
    exact (List.pairwise_iff_getElem.1 hr) i j (by simpa using hi) (by simpa using hj) hij
  · rw [mem_lput]
    constructor
    · rintro (rfl | ⟨h1, h2⟩)
      · exact List.mem_set hk y
      · obtain ⟨i, hi, rfl⟩ := List.mem_iff_getElem.1 h1
        have hne : k ≠ i := fun e => by subst e; exact h2 hn.symm
        exact List.mem_iff_getElem.2 ⟨i, by simpa using hi, by rw [List.getElem_set]; simp [hne]⟩
    · intro h
      obtain ⟨i, hi, rfl⟩ := List.mem_iff_getElem.1 h
      have hi' : i < l.length := by simpa using hi
      rw [List.getElem_set]
      by_cases hne : k = i
      · simp [hne]
      · refine .inr ?_
        rw [if_neg hne]
        refine ⟨List.getElem_mem hi', fun e => hne ?_⟩
        rw [hn] at e
        rcases Nat.lt_trichotomy k i with h | h | h
        · exact absurd e.symm (nlt_ne ((List.pairwise_iff_getElem.1 hr) k i hk hi' h))
        · exact h
        · exact absurd e (nlt_ne ((List.pairwise_iff_getElem.1 hr) i k hi' hk h))
end Go.Proofs.YthnodmbenbiahaaGreatDoor
