/- What the document's put comes to on rising files. No program. -/
import Derived.Test.YthnodmbenbiahaaGreatDoorOps
namespace Go.Proofs.YthnodmbenbiahaaGreatDoor

def putStep (f : FileD) (s : List FileD × Bool) (x : FileD) : List FileD × Bool :=
  let a := if !s.2 && !decide (nlt x.name f.name) then (s.1 ++ [f], true) else s
  if x.name = f.name then a else (a.1 ++ [x], a.2)
def putTo (f : FileD) (l : List FileD) : List FileD × Bool := l.foldl (putStep f) ([], false)
def putEnd (f : FileD) (s : List FileD × Bool) : List FileD := if s.2 then s.1 else s.1 ++ [f]
theorem snoc_ind {α : Type} {P : List α → Prop} (h0 : P []) (hs : ∀ l x, P l → P (l ++ [x])) : ∀ l, P l := by
  intro l
  rw [← l.reverse_reverse]
  generalize l.reverse = r
  induction r with
  | nil => exact h0
  | cons a r ih => rw [List.reverse_cons]; exact hs _ _ ih
theorem putTo_snoc (f : FileD) (l : List FileD) (x : FileD) : putTo f (l ++ [x]) = putStep f (putTo f l) x := by simp [putTo, List.foldl_append]
theorem putTo_length (f : FileD) (l : List FileD) : (putTo f l).1.length ≤ 2 * l.length := by
  induction l using snoc_ind with
  | h0 => simp [putTo]
  | hs l x ih =>
    rw [putTo_snoc]
    unfold putStep
    simp only
    split <;> split <;> simp <;> omega
theorem putTo_is (f : FileD) : ∀ l : List FileD, Rising FileD.name l → putTo f l = if ∀ x ∈ l, nlt x.name f.name then (l, false) else (lput FileD.name l f, true) := by
  intro l
  induction l using snoc_ind with
  | h0 => intro _; simp [putTo]
  | hs l x ih =>
    intro hr
    obtain ⟨h1, _, h3⟩ := List.pairwise_append.1 hr
    rw [putTo_snoc, ih h1]
    have h3' : ∀ y ∈ l, nlt y.name x.name := fun y hy => h3 y hy x (by simp)
    by_cases ha : ∀ y ∈ l, nlt y.name f.name
    · rw [if_pos ha]
      have e1 : l.filter (fun y => decide (nlt y.name f.name)) = l := List.filter_eq_self.2 (fun y hy => by simpa using ha y hy)
      have e2 : l.filter (fun y => decide (nlt f.name y.name)) = [] := List.filter_eq_nil_iff.2 (fun y hy => by simpa using nlt_asymm (ha y hy))
      by_cases hx : nlt x.name f.name
      · rw [if_pos (by intro y hy; rcases List.mem_append.1 hy with hy | hy; exact ha y hy; simp at hy; subst hy; exact hx)]
        unfold putStep
        simp [hx, nlt_ne hx]
      · rw [if_neg (fun h => hx (h x (by simp)))]
        unfold putStep lput
        by_cases he : x.name = f.name
        · simp only [List.filter_append, e1, e2, he]
          simp [he, nlt_irrefl]
        · have hg : nlt f.name x.name := (nlt_total he).resolve_left hx
          simp only [List.filter_append, e1, e2]
          simp [hx, he, hg]
    · have hx : nlt f.name x.name := by
        obtain ⟨y, hy, hn⟩ : ∃ y, y ∈ l ∧ ¬ nlt y.name f.name := Classical.byContradiction (fun h => ha (fun y hy => Classical.byContradiction (fun hn => h ⟨y, hy, hn⟩)))
        by_cases he : y.name = f.name
        · rw [← he]; exact h3' y hy
        · exact nlt_trans ((nlt_total he).resolve_left hn) (h3' y hy)
      rw [if_neg ha, if_neg (fun h => ha (fun y hy => h y (by simp [hy])))]
      unfold putStep lput
      simp only [List.filter_append]
      simp [hx, nlt_asymm hx, (nlt_ne hx).symm]
theorem put_is (f : FileD) (l : List FileD) (hr : Rising FileD.name l) : putEnd f (putTo f l) = fPut l f := by
  rw [putTo_is f l hr]
  by_cases h : ∀ x ∈ l, nlt x.name f.name
  · rw [if_pos h]
    unfold putEnd fPut lput
    have e1 : l.filter (fun y => decide (nlt y.name f.name)) = l := List.filter_eq_self.2 (fun y hy => by simpa using h y hy)
    have e2 : l.filter (fun y => decide (nlt f.name y.name)) = [] := List.filter_eq_nil_iff.2 (fun y hy => by simpa using nlt_asymm (h y hy))
    rw [e1, e2]
    rfl
  · rw [if_neg h]
    rfl
end Go.Proofs.YthnodmbenbiahaaGreatDoor
