/- Plain lists of named things in rising order: find, take away, put. No program. -/
import Derived.Sort.Walk0
namespace Go.Proofs.YthnodmbenbiahaaGreatDoor

/-- Names by bytes. -/
def nlt (a b : ByteArray) : Prop := a.data.toList < b.data.toList
instance (a b : ByteArray) : Decidable (nlt a b) := inferInstanceAs (Decidable (a.data.toList < b.data.toList))
theorem bytes_ext {a b : ByteArray} (h : a.data.toList = b.data.toList) : a = b := by
  cases a; cases b; simp only [ByteArray.mk.injEq]; exact Array.toList_inj.1 h
theorem nlt_irrefl (a : ByteArray) : ¬ nlt a a := List.lt_irrefl _
theorem nlt_trans {a b c : ByteArray} (h : nlt a b) (h' : nlt b c) : nlt a c := List.lt_trans h h'
theorem nlt_total {a b : ByteArray} (h : a ≠ b) : nlt a b ∨ nlt b a := by
  unfold nlt
  by_cases h1 : a.data.toList < b.data.toList
  · exact .inl h1
  · refine .inr ?_
    have h2 : b.data.toList ≤ a.data.toList := List.not_lt.1 h1
    rcases Classical.em (b.data.toList < a.data.toList) with h3 | h3
    · exact h3
    · exact absurd (bytes_ext (List.le_antisymm (List.not_lt.1 h3) h2)) h
theorem nlt_asymm {a b : ByteArray} (h : nlt a b) : ¬ nlt b a := fun h' => nlt_irrefl _ (nlt_trans h h')
theorem nlt_ne {a b : ByteArray} (h : nlt a b) : a ≠ b := fun e => by subst e; exact nlt_irrefl _ h

section
variable {α : Type} (nm : α → ByteArray)
def lfind (l : List α) (s : ByteArray) : Option α := l.find? fun x => decide (nm x = s)
def ldel (l : List α) (s : ByteArray) : List α := l.filter fun x => decide (nm x ≠ s)
def lput (l : List α) (x : α) : List α := (l.filter fun y => decide (nlt (nm y) (nm x))) ++ x :: (l.filter fun y => decide (nlt (nm x) (nm y)))
def Rising (l : List α) : Prop := l.Pairwise fun x y => nlt (nm x) (nm y)
variable {nm} {l : List α} {s : ByteArray} {x y : α}

theorem lfind_some (h : lfind nm l s = some x) : x ∈ l ∧ nm x = s := by
  unfold lfind at h
  exact ⟨List.mem_of_find?_eq_some h, by simpa using List.find?_some h⟩
theorem lfind_none (h : lfind nm l s = none) : ∀ y ∈ l, nm y ≠ s := by
  intro y hy e
  simpa [e] using List.find?_eq_none.1 h y hy
theorem lfind_none_of (h : ∀ y ∈ l, nm y ≠ s) : lfind nm l s = none := List.find?_eq_none.2 (fun y hy => by simpa using h y hy)
theorem Rising.inj (h : Rising nm l) : ∀ {x y : α}, x ∈ l → y ∈ l → nm x = nm y → x = y := by
  induction l with
  | nil => intro x y hx; cases hx
  | cons a r ih =>
    obtain ⟨h1, h2⟩ := List.pairwise_cons.1 h
    intro x y hx hy e
    rcases List.mem_cons.1 hx with e1 | hx1
    · rcases List.mem_cons.1 hy with e2 | hy1
      · exact e1.trans e2.symm
      · exact absurd (e1 ▸ e) (nlt_ne (h1 y hy1))
    · rcases List.mem_cons.1 hy with e2 | hy1
      · exact absurd (e2 ▸ e.symm) (nlt_ne (h1 x hx1))
      · exact ih h2 hx1 hy1 e
theorem lfind_of_mem (h : Rising nm l) (hx : x ∈ l) : lfind nm l (nm x) = some x := by
  cases e : lfind nm l (nm x) with
  | none => exact absurd rfl (lfind_none e x hx)
  | some y =>
    obtain ⟨h1, h2⟩ := lfind_some e
    rw [h.inj hx h1 h2.symm]
theorem mem_ldel : y ∈ ldel nm l s ↔ y ∈ l ∧ nm y ≠ s := by simp [ldel]
theorem mem_lput : y ∈ lput nm l x ↔ y = x ∨ (y ∈ l ∧ nm y ≠ nm x) := by
  unfold lput
  simp only [List.mem_append, List.mem_cons, List.mem_filter, decide_eq_true_eq]
  constructor
  · rintro (⟨h, hl⟩ | rfl | ⟨h, hl⟩)
    · exact .inr ⟨h, nlt_ne hl⟩
    · exact .inl rfl
    · exact .inr ⟨h, (nlt_ne hl).symm⟩
  · rintro (rfl | ⟨h, hl⟩)
    · exact .inr (.inl rfl)
    · rcases nlt_total hl with hl | hl
      · exact .inl ⟨h, hl⟩
      · exact .inr (.inr ⟨h, hl⟩)
theorem Rising.del (h : Rising nm l) (s : ByteArray) : Rising nm (ldel nm l s) := List.Pairwise.filter _ h
theorem Rising.put (h : Rising nm l) (x : α) : Rising nm (lput nm l x) := by
  unfold lput Rising
  rw [List.pairwise_append]
  refine ⟨h.filter _, List.pairwise_cons.2 ⟨fun y hy => by simpa using (List.mem_filter.1 hy).2, h.filter _⟩, ?_⟩
  intro a ha b hb
  have h1 : nlt (nm a) (nm x) := by simpa using (List.mem_filter.1 ha).2
  rcases List.mem_cons.1 hb with rfl | hb
  · exact h1
  · have h2 : nlt (nm x) (nm b) := by simpa using (List.mem_filter.1 hb).2
    exact nlt_trans h1 h2
theorem lput_perm (x : α) : (lput nm l x).Perm (x :: ldel nm l (nm x)) := by
  unfold lput ldel
  refine List.perm_middle.trans (List.Perm.cons _ ?_)
  have hf : ∀ p q r : α → Bool, (∀ y, r y = (p y || q y)) → (∀ y, p y = true → q y = false) → ∀ l : List α, (l.filter p ++ l.filter q).Perm (l.filter r) := by
    intro p q r h1 h2 l
    induction l with
    | nil => simp
    | cons a t ih =>
      have e1 := h1 a
      have e2 := h2 a
      cases hp : p a <;> cases hq : q a <;> simp [hp, hq] at e1 e2 <;> simp only [List.filter_cons, hp, hq, e1, if_true, Bool.false_eq_true, if_false]
      · exact ih
      · exact List.perm_middle.trans (List.Perm.cons _ ih)
      · exact List.Perm.cons _ ih
  refine hf _ _ _ (fun y => ?_) (fun y hy => ?_) l
  · by_cases e : nm y = nm x
    · rw [e]; simp [nlt_irrefl]
    · rcases nlt_total e with h | h
      · simp [e, h]
      · simp [e, h]
  · have := nlt_asymm (show nlt (nm y) (nm x) by simpa using hy)
    simpa using this
theorem lput_length (x : α) : (lput nm l x).length = (ldel nm l (nm x)).length + 1 := by
  rw [(lput_perm x).length_eq]; rfl
theorem ldel_none (h : lfind nm l s = none) : ldel nm l s = l := List.filter_eq_self.2 (fun y hy => by simpa using lfind_none h y hy)
theorem perm_some (h : Rising nm l) (hx : x ∈ l) : l.Perm (x :: ldel nm l (nm x)) := by
  induction l with
  | nil => cases hx
  | cons a r ih =>
    obtain ⟨h1, h2⟩ := List.pairwise_cons.1 h
    rcases List.mem_cons.1 hx with rfl | hx
    · have : ldel nm (x :: r) (nm x) = r := by
        unfold ldel
        rw [List.filter_cons, if_neg (by simp)]
        exact List.filter_eq_self.2 (fun y hy => by simpa using (nlt_ne (h1 y hy)).symm)
      rw [this]
    · have hne := nlt_ne (h1 x hx)
      have : ldel nm (a :: r) (nm x) = a :: ldel nm r (nm x) := by
        unfold ldel
        rw [List.filter_cons, if_pos (by simpa using hne)]
      rw [this]
      exact (List.Perm.cons _ (ih h2 hx)).trans (List.Perm.swap _ _ _)
theorem ldel_length (h : Rising nm l) (hx : x ∈ l) : (ldel nm l (nm x)).length + 1 = l.length := by
  rw [(perm_some h hx).length_eq]; rfl
theorem lput_length_some (h : Rising nm l) {z : α} (hz : z ∈ l) (e : nm z = nm x) : (lput nm l x).length = l.length := by
  rw [lput_length, ← e, ldel_length h hz]
theorem lput_length_none (e : lfind nm l (nm x) = none) : (lput nm l x).length = l.length + 1 := by
  rw [lput_length, ldel_none e]
/-- Two rising lists with the same members are one. -/
theorem Rising.ext {l' : List α} (h : Rising nm l) (h' : Rising nm l') (hm : ∀ y, y ∈ l ↔ y ∈ l') : l = l' := by
  induction l generalizing l' with
  | nil =>
    cases l' with
    | nil => rfl
    | cons b t => have := (hm b).2 (by simp); cases this
  | cons a r ih =>
    cases l' with
    | nil => have := (hm a).1 (by simp); cases this
    | cons b t =>
      obtain ⟨h1, h2⟩ := List.pairwise_cons.1 h
      obtain ⟨h1', h2'⟩ := List.pairwise_cons.1 h'
      have e : a = b := by
        rcases List.mem_cons.1 ((hm a).1 (by simp)) with e | e
        · exact e
        · rcases List.mem_cons.1 ((hm b).2 (by simp)) with e' | e'
          · exact e'.symm
          · exact absurd (nlt_trans (h1 b e') (h1' a e)) (nlt_irrefl _)
      subst e
      congr 1
      refine ih h2 h2' (fun y => ⟨fun hy => ?_, fun hy => ?_⟩)
      · rcases List.mem_cons.1 ((hm y).1 (List.mem_cons_of_mem _ hy)) with e | e
        · subst e; exact absurd (h1 y hy) (nlt_irrefl _)
        · exact e
      · rcases List.mem_cons.1 ((hm y).2 (List.mem_cons_of_mem _ hy)) with e | e
        · subst e; exact absurd (h1' y hy) (nlt_irrefl _)
        · exact e
theorem lput_self (h : Rising nm l) (hx : x ∈ l) : lput nm l x = l := by
  refine (h.put x).ext h (fun y => ?_)
  rw [mem_lput]
  constructor
  · rintro (rfl | h1)
    · exact hx
    · exact h1.1
  · intro hy
    by_cases e : nm y = nm x
    · exact .inl (h.inj hy hx e)
    · exact .inr ⟨hy, e⟩
end
section
variable {α β : Type} {nm : α → ByteArray} {nb : β → ByteArray} {f : α → β} (hf : ∀ x, nb (f x) = nm x)
include hf
theorem lfind_map (l : List α) (s : ByteArray) : lfind nb (l.map f) s = (lfind nm l s).map f := by
  unfold lfind
  rw [List.find?_map]
  simp only [Function.comp_def, hf]
theorem ldel_map (l : List α) (s : ByteArray) : ldel nb (l.map f) s = (ldel nm l s).map f := by
  unfold ldel
  rw [List.filter_map]
  simp only [Function.comp_def, hf]
theorem lput_map (l : List α) (x : α) : lput nb (l.map f) (f x) = (lput nm l x).map f := by
  unfold lput
  rw [List.filter_map, List.filter_map, List.map_append, List.map_cons]
  simp only [Function.comp_def, hf]
theorem rising_map (l : List α) : Rising nb (l.map f) ↔ Rising nm l := by
  unfold Rising
  rw [List.pairwise_map]
  simp only [hf]
end
end Go.Proofs.YthnodmbenbiahaaGreatDoor
