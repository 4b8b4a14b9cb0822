import Derived.Test.YthnodmbenbiahaaGreatDoorOps
import Derived.Test.YthnodmbenbiahaaGreatDoorNum
import Derived.Lib.ItoaNum
namespace Go.Proofs.YthnodmbenbiahaaGreatDoor
/- A file that is saved beside and renamed: what it leaves, and that it is there behind a crash. Plain lists; no program. -/
section

theorem fput_find {m : List FileD} (hr : Rising FileD.name m) (x : FileD) : fFind (fPut m x) x.name = some x := lfind_of_mem (hr.put x) (mem_lput.2 (.inl rfl))
/-- What a saving leaves: nw cut to nothing, appended to, synced, renamed to name. -/
def pSave (m : List FileD) (name nw : ByteArray) (enc : List UInt8) : List FileD × Int :=
  if (pAppend (pCut m nw 0).1 nw enc).2 = 0 then ((pRename (pSync (pAppend (pCut m nw 0).1 nw enc).1 nw).1 nw name).1, 0) else ((pCut m nw 0).1, 2)
theorem pAppend_codes (m : List FileD) (s : ByteArray) (b : List UInt8) : (pAppend m s b).2 = 0 ∨ ((pAppend m s b).1 = m ∧ ((pAppend m s b).2 = 1 ∨ (pAppend m s b).2 = 2)) := by
  unfold pAppend
  cases okName s with
  | false => exact .inr ⟨rfl, .inl rfl⟩
  | true =>
    simp only [if_true]
    cases fFind m s with
    | none =>
      simp only
      split
      · exact .inr ⟨rfl, .inr rfl⟩
      · exact .inl rfl
    | some f =>
      simp only
      split
      · exact .inr ⟨rfl, .inr rfl⟩
      · exact .inl rfl
theorem pAppend_fail {m : List FileD} {s : ByteArray} {b : List UInt8} (h : (pAppend m s b).2 ≠ 0) : (pAppend m s b).1 = m := by
  rcases pAppend_codes m s b with h1 | h1
  · exact absurd h1 h
  · exact h1.1
theorem pCut_rising {m : List FileD} (hr : Rising FileD.name m) (s : ByteArray) (n : Int) : Rising FileD.name (pCut m s n).1 := by
  unfold pCut
  cases fFind m s with
  | none => exact hr
  | some f =>
    simp only
    split
    · exact hr
    · exact hr.put _
theorem pAppend_rising {m : List FileD} (hr : Rising FileD.name m) (s : ByteArray) (b : List UInt8) : Rising FileD.name (pAppend m s b).1 := by
  unfold pAppend
  cases okName s with
  | false => exact hr
  | true =>
    simp only [if_true]
    cases fFind m s with
    | none =>
      simp only
      split
      · exact hr
      · exact hr.put _
    | some f =>
      simp only
      split
      · exact hr
      · exact hr.put _
theorem pSync_rising {m : List FileD} (hr : Rising FileD.name m) (s : ByteArray) : Rising FileD.name (pSync m s).1 := by
  unfold pSync
  cases fFind m s with
  | none => exact hr
  | some f => exact hr.put _
theorem pRename_rising {m : List FileD} (hr : Rising FileD.name m) (s t : ByteArray) : Rising FileD.name (pRename m s t).1 := by
  unfold pRename
  cases fFind m s with
  | none => exact hr
  | some f =>
    simp only
    split
    · exact (hr.del _).put _
    · exact hr
theorem pSave_rising {m : List FileD} (hr : Rising FileD.name m) (name nw : ByteArray) (enc : List UInt8) : Rising FileD.name (pSave m name nw enc).1 := by
  unfold pSave
  split
  · exact pRename_rising (pSync_rising (pAppend_rising (pCut_rising hr _ _) _ _) _) _ _
  · exact pCut_rising hr _ _
theorem pCut_zero (m : List FileD) (hr : Rising FileD.name m) (s : ByteArray) : (fFind (pCut m s 0).1 s = none ∧ fFind m s = none) ∨ ∃ f, fFind (pCut m s 0).1 s = some f ∧ f.data = [] ∧ f.name = s := by
  unfold pCut
  cases h : fFind m s with
  | none => exact .inl ⟨h, rfl⟩
  | some f =>
    obtain ⟨_, rfl⟩ := lfind_some h
    simp only
    rw [if_neg (by omega)]
    exact .inr ⟨_, fput_find hr { f with data := f.data.take (0 : Int).toNat, safe := min f.safe 0 }, by simp, rfl⟩
theorem pAppend_found {m : List FileD} (hr : Rising FileD.name m) {s : ByteArray} {b : List UInt8} (h : (pAppend m s b).2 = 0) (h0 : fFind m s = none ∨ ∃ f, fFind m s = some f ∧ f.data = [] ∧ f.name = s) : ∃ k, fFind (pAppend m s b).1 s = some ⟨s, b, k⟩ := by
  unfold pAppend at h ⊢
  cases ho : okName s with
  | false => rw [ho] at h; simp at h
  | true =>
    rw [ho] at h
    simp only [if_true] at h ⊢
    rcases h0 with h0 | ⟨f, h0, h1, h2⟩
    · rw [h0] at h ⊢
      simp only at h ⊢
      split at h
      · simp at h
      · rename_i hc
        rw [if_neg hc]
        exact ⟨0, fput_find hr ⟨s, b, 0⟩⟩
    · rw [h0] at h ⊢
      simp only at h ⊢
      split at h
      · simp at h
      · rename_i hc
        rw [if_neg hc]
        subst h2
        refine ⟨f.safe, ?_⟩
        have := fput_find hr { f with data := f.data ++ b }
        rw [h1] at this ⊢
        exact this
theorem pSave_find {m : List FileD} (hr : Rising FileD.name m) {name nw : ByteArray} {enc : List UInt8} (hn : okName name = true) (h : (pSave m name nw enc).2 = 0) : fFind (pSave m name nw enc).1 name = some ⟨name, enc, enc.length⟩ := by
  unfold pSave at h ⊢
  split at h
  · rename_i ha
    rw [if_pos ha]
    simp only
    have r1 := pCut_rising hr nw 0
    have h1 := pCut_zero m hr nw
    generalize (pCut m nw 0).1 = m1 at *
    obtain ⟨k, hk⟩ := pAppend_found r1 ha (h1.imp (fun h => h.1) id)
    have r2 := pAppend_rising r1 nw enc
    generalize (pAppend m1 nw enc).1 = m2 at *
    have hs : fFind (pSync m2 nw).1 nw = some ⟨nw, enc, enc.length⟩ := by
      unfold pSync
      rw [hk]
      exact fput_find r2 ⟨nw, enc, enc.length⟩
    have r3 := pSync_rising r2 nw
    generalize (pSync m2 nw).1 = m3 at *
    unfold pRename
    rw [hs]
    simp only
    rw [hn, if_pos rfl]
    exact fput_find (r3.del nw) ⟨name, enc, enc.length⟩
  · simp at h
theorem crash_rising {m : List FileD} (hr : Rising FileD.name m) (cuts : List Int) : Rising FileD.name (pCrash m cuts) := by
  unfold Rising at *
  rw [List.pairwise_iff_getElem] at *
  intro i j hi hj hij
  have hl : (pCrash m cuts).length = m.length := by simp [pCrash]
  have := hr i j (by omega) (by omega) hij
  simpa [pCrash, crashed] using this
theorem crash_find {m : List FileD} (hr : Rising FileD.name m) (cuts : List Int) {s : ByteArray} {f : FileD} (h : fFind m s = some f) (hs : f.safe = f.data.length) : fFind (pCrash m cuts) s = some f := by
  obtain ⟨hm, rfl⟩ := lfind_some h
  obtain ⟨i, hi, rfl⟩ := List.mem_iff_getElem.1 hm
  have hl : (pCrash m cuts).length = m.length := by simp [pCrash]
  have e : (pCrash m cuts)[i]'(by omega) = m[i] := by
    simp only [pCrash, List.getElem_mapIdx]
    generalize m[i] = x at hs
    obtain ⟨a, d, k⟩ := x
    simp only at hs
    subst hs
    have : stays ⟨a, d, (d.length : Int)⟩ cuts[i]? = d.length := by
      unfold stays
      cases cuts[i]? <;> simp
    unfold crashed
    rw [this]
    simp
  have := lfind_of_mem (crash_rising hr cuts) (List.getElem_mem (by omega : i < (pCrash m cuts).length))
  rw [e] at this
  exact this
end
/- The names of groups' files. Plain lists; no program. -/
section
open Go

theorem decDigits_all (u : Nat) : ∀ c ∈ Lib.decDigits u, 48 ≤ c.toNat ∧ c.toNat ≤ 57 := by
  induction u using Nat.strongRecOn with
  | _ u ih =>
    rw [Lib.decDigits]
    split
    · intro c hc
      rw [List.mem_singleton] at hc
      subst hc
      rw [toNat_ofNat (by omega)]
      omega
    · intro c hc
      rcases List.mem_append.1 hc with h | h
      · exact ih (u / 10) (by omega) c h
      · rw [List.mem_singleton] at h
        subst h
        rw [toNat_ofNat (by omega)]
        omega
theorem decDigits_len (k : Nat) : ∀ u, u < 10 ^ (k + 1) → 1 ≤ (Lib.decDigits u).length ∧ (Lib.decDigits u).length ≤ k + 1 := by
  induction k with
  | zero =>
    intro u hu
    rw [Lib.decDigits, dif_pos (by simpa using hu)]
    simp
  | succ k ih =>
    intro u hu
    rw [Lib.decDigits]
    split
    · simp
    · have := ih (u / 10) (by rw [Nat.pow_succ 10 (k + 1)] at hu; exact Nat.div_lt_of_lt_mul (by omega))
      simp only [List.length_append, List.length_cons, List.length_nil]
      omega
theorem okName_list {l : List UInt8} (h1 : 1 ≤ l.length) (h2 : l.length ≤ 32) (h : ∀ c ∈ l, (97 ≤ c.toNat ∧ c.toNat ≤ 122) ∨ (48 ≤ c.toNat ∧ c.toNat ≤ 57) ∨ c.toNat = 46 ∨ c.toNat = 45) : okName (strOf l) = true := by
  unfold okName
  have e : (strOf l).size = l.length := rfl
  rw [e]
  simp only [h1, h2, decide_true, Bool.true_and, List.all_eq_true]
  intro c hc
  have := h c hc
  simp only [Bool.or_eq_true, Bool.and_eq_true, decide_eq_true_eq]
  omega
/-- Behind an error of the append the number is another, but the files are as they were. -/
def numName (head : List UInt8) (g : Nat) (tail : List UInt8) : ByteArray := strOf (head ++ Lib.decDigits g ++ tail)
theorem numName_ok {head tail : List UInt8} {g : Nat} (hg : g ≤ 999) (hh : ∀ c ∈ head, (97 ≤ c.toNat ∧ c.toNat ≤ 122) ∨ c.toNat = 46 ∨ c.toNat = 45) (ht : ∀ c ∈ tail, (97 ≤ c.toNat ∧ c.toNat ≤ 122) ∨ c.toNat = 46 ∨ c.toNat = 45) (hl : head.length + tail.length ≤ 29) : okName (numName head g tail) = true := by
  have := decDigits_len 2 g (by omega)
  refine okName_list ?_ ?_ (fun c hc => ?_)
  · simp only [List.length_append]; omega
  · simp only [List.length_append]; omega
  · rcases List.mem_append.1 hc with h | h
    · rcases List.mem_append.1 h with h | h
      · have := hh c h; omega
      · have := decDigits_all g c h; omega
    · have := ht c h; omega
end
end Go.Proofs.YthnodmbenbiahaaGreatDoor
