/- Slices of files (api.File): read, and made. The disk's call Files. -/
import Derived.Test.YthnodmbenbiahaaGreatDoorDiskG
namespace Go.Proofs.YthnodmbenbiahaaGreatDoor
open Go.RowKit Go.Maps

theorem info_File : (Tryz.prog.info? 25).map (fun i => (i.zero, i.size, i.bytes)) = some (some (.agg #[.string ⟨#[]⟩, .slice none 0 0, .int .i64 0]), 3, 48) := by kernel_rfl
def fileCells (x : FileD) (u : Value) : List Value := [.string x.name, u, .int .i64 x.safe]
def filesC : List FileD → List Value → List Value
  | x :: l, u :: us => fileCells x u ++ filesC l us
  | _, _ => []
theorem filesC_length : ∀ (l : List FileD) (us : List Value), us.length = l.length → (filesC l us).length = l.length * 3
  | [], [], _ => rfl
  | x :: l, u :: us, h => by
    have := filesC_length l us (by simpa using h)
    simp only [filesC, List.length_append, this, fileCells, List.length_cons, List.length_nil]
    omega
theorem filesC_snoc : ∀ (l : List FileD) (us : List Value) (x : FileD) (u : Value), us.length = l.length → filesC (l ++ [x]) (us ++ [u]) = filesC l us ++ fileCells x u
  | [], [], x, u, _ => by simp [filesC]
  | y :: l, v :: us, x, u, h => by
    have := filesC_snoc l us x u (by simpa using h)
    simp only [List.cons_append, filesC, this, List.append_assoc]
theorem filesC_get : ∀ (l : List FileD) (us : List Value) (i : Nat) (x : FileD) (u : Value), l[i]? = some x → us[i]? = some u → ∀ j c, (fileCells x u)[j]? = some c → (filesC l us)[i * 3 + j]? = some c
  | y :: l, v :: us, 0, x, u, h1, h2, j, c, hc => by
    simp only [List.getElem?_cons_zero, Option.some.injEq] at h1 h2
    subst h1 h2
    have hj : j < 3 := by
      have := (List.getElem?_eq_some_iff.1 hc).1
      simpa [fileCells] using this
    rw [filesC, List.getElem?_append_left (by simp [fileCells]; omega)]
    simpa using hc
  | y :: l, v :: us, i + 1, x, u, h1, h2, j, c, hc => by
    rw [filesC, List.getElem?_append_right (by simp [fileCells]; omega)]
    have := filesC_get l us i x u (by simpa using h1) (by simpa using h2) j c hc
    rw [show (i + 1) * 3 + j - (fileCells y v).length = i * 3 + j from by simp [fileCells]; omega]
    exact this
theorem fileCells_one (x : FileD) (u : Value) (hu : u.oneCell' = true) : ∀ c ∈ fileCells x u, c.oneCell' = true := by
  intro c hc
  simp only [fileCells, List.mem_cons, List.not_mem_nil, or_false] at hc
  rcases hc with rfl | rfl | rfl
  · rfl
  · exact hu
  · rfl
/-- v is a slice that reads as the files l; what it leads to lies in ok. -/
def FilesRd (w : World) (ok : Nat → Prop) (v : Value) (l : List FileD) : Prop :=
  ∃ A c us, v = .slice A l.length c ∧ l.length ≤ c ∧ l.length ≤ maxLen ∧ us.length = l.length ∧ Cells w ok A (filesC l us) ∧ ∀ (i : Nat) x u, l[i]? = some x → us[i]? = some u → Bytes w ok u x.data
theorem FilesRd.step {w w' : World} {ok : Nat → Prop} {v : Value} {l : List FileD} (h : FilesRd w ok v l) (hs : Same w w' ok) : FilesRd w' ok v l := by
  obtain ⟨A, c, us, e, h1, h2, h3, h4, h5⟩ := h
  exact ⟨A, c, us, e, h1, h2, h3, h4.step hs, fun i x u hx hu => (h5 i x u hx hu).step hs⟩
theorem FilesRd.mono {w : World} {ok ok' : Nat → Prop} {v : Value} {l : List FileD} (h : FilesRd w ok v l) (hk : ∀ k, ok k → k < w.heap.size → ok' k) : FilesRd w ok' v l := by
  obtain ⟨A, c, us, e, h1, h2, h3, h4, h5⟩ := h
  exact ⟨A, c, us, e, h1, h2, h3, h4.mono hk, fun i x u hx hu => (h5 i x u hx hu).mono hk⟩
theorem FilesRd.nil (w : World) (ok : Nat → Prop) : FilesRd w ok (.slice none 0 0) [] := ⟨none, 0, [], rfl, Nat.le_refl _, Nat.zero_le _, rfl, Cells.empty _ _ _, fun i x u h => by simp at h⟩
theorem FilesRd.len {w : World} {ok : Nat → Prop} {A : Option Addr} {n c : Nat} {l : List FileD} (h : FilesRd w ok (.slice A n c) l) : n = l.length := by
  obtain ⟨A', c', us, e, _⟩ := h
  injection e
theorem FilesRd.form {w : World} {ok : Nat → Prop} {v : Value} {l : List FileD} (h : FilesRd w ok v l) : ∃ A c, v = .slice A l.length c ∧ l.length ≤ c ∧ l.length ≤ maxLen := by
  obtain ⟨A, c, us, e, h1, h2, _⟩ := h
  exact ⟨A, c, e, h1, h2⟩
/-- An element's cells. -/
theorem FilesRd.get {w : World} {ok : Nat → Prop} {A : Option Addr} {n c : Nat} {l : List FileD} (h : FilesRd w ok (.slice A n c) l) (i : Nat) (hi : i < l.length) :
    ∃ b o B d, A = some ⟨b, o, none⟩ ∧ ok b ∧ w.cell? ⟨b, o + i * 3, none⟩ = some (.string l[i].name) ∧ w.cell? ⟨b, o + i * 3 + 1, none⟩ = some (.slice B l[i].data.length d) ∧ w.cell? ⟨b, o + i * 3 + 2, none⟩ = some (.int .i64 l[i].safe) ∧
      l[i].data.length ≤ d ∧ Bytes w ok (.slice B l[i].data.length d) l[i].data := by
  obtain ⟨A', c', us, e, h1, h2, h3, h4, h5⟩ := h
  injection e with e1 e2 e3
  subst e1
  have hu : i < us.length := by omega
  have hx : l[i]? = some l[i] := List.getElem?_eq_getElem hi
  have hus : us[i]? = some us[i] := List.getElem?_eq_getElem hu
  have hg := filesC_get l us i _ _ hx hus
  obtain ⟨b, o, e, hk, hc⟩ := h4 (by intro e; have := hg 0 _ rfl; rw [e] at this; simp at this)
  have hb := h5 i _ _ hx hus
  obtain ⟨B, d, hv, hd⟩ := hb.form
  refine ⟨b, o, B, d, e, hk, ?_, ?_, ?_, hd, hv ▸ hb⟩
  · exact hc _ _ (hg 0 _ rfl)
  · rw [Nat.add_assoc, ← hv]; exact hc _ _ (hg 1 _ rfl)
  · rw [Nat.add_assoc]; exact hc _ _ (hg 2 _ rfl)
/-- Made by the call: the row and all files' bytes are its own. -/
def FilesOwn (w : World) (base : Nat) (v : Value) (l : List FileD) (us : List Value) : Prop :=
  us.length = l.length ∧ w.ownsRow base 25 3 v l.length (filesC l us) ∧ ∀ (i : Nat) x u, l[i]? = some x → us[i]? = some u → w.ownsRow base 5 1 u x.data.length (x.data.map byteV)
theorem FilesOwn.rd {w : World} {base : Nat} {v : Value} {l : List FileD} {us : List Value} (h : FilesOwn w base v l us) : FilesRd w (fun k => base ≤ k) v l := by
  obtain ⟨h1, h2, h3⟩ := h
  obtain ⟨A, c, e, r1, r2, r3⟩ := own_form h2
  exact ⟨A, c, us, e, r1, r2, h1, r3.mono (fun k hk _ => own_base h2 k hk), fun i x u hx hu => (Reads.of_own (h3 i x u hx hu)).mono (fun k hk _ => own_base (h3 i x u hx hu) k hk)⟩
/-- One more file. -/
theorem FilesOwn.snoc {w w' : World} {base : Nat} {v v' : Value} {l : List FileD} {us : List Value} (h : FilesOwn w base v l us) {x : FileD} {u : Value} (hs : Same w w' (fun k => v.ownBlock ≠ some k))
    (hv : w'.ownsRow base 25 3 v' (l.length + 1) (filesC l us ++ fileCells x u)) (hu : w'.ownsRow base 5 1 u x.data.length (x.data.map byteV)) : FilesOwn w' base v' (l ++ [x]) (us ++ [u]) := by
  obtain ⟨h1, h2, h3⟩ := h
  refine ⟨by simp [h1], by rw [filesC_snoc l us x u h1]; simpa using hv, fun i y z hy hz => ?_⟩
  rcases Nat.lt_or_ge i l.length with hi | hi
  · rw [List.getElem?_append_left hi] at hy
    rw [List.getElem?_append_left (by omega)] at hz
    have hr := h3 i y z hy hz
    refine own_step hr hs (fun k hk e => ?_)
    obtain ⟨c1, e1⟩ := own_typed hr k hk
    obtain ⟨c2, e2⟩ := own_typed h2 k e
    rw [e1] at e2
    simp at e2
  · rw [List.getElem?_append_right hi] at hy
    rw [List.getElem?_append_right (by omega)] at hz
    have h0 : i - l.length = 0 := by
      have := (List.getElem?_eq_some_iff.1 hy).1
      simp at this
      omega
    rw [h0] at hy
    rw [show i - us.length = 0 from by omega] at hz
    simp at hy hz
    subst hy hz
    exact hu
theorem FilesOwn.step {w w' : World} {base : Nat} {v : Value} {l : List FileD} {us : List Value} (h : FilesOwn w base v l us) (hb : Below w.heap.size w w') : FilesOwn w' base v l us :=
  ⟨h.1, own_step h.2.1 (Same.of_below hb (fun _ => True)) (fun _ _ => trivial), fun i x u hx hu => own_step (h.2.2 i x u hx hu) (Same.of_below hb (fun _ => True)) (fun _ _ => trivial)⟩
end Go.Proofs.YthnodmbenbiahaaGreatDoor
