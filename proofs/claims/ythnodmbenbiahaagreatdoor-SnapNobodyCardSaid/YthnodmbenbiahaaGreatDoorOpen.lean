import Derived.Test.YthnodmbenbiahaaGreatDoorFiles
import Derived.ChangeArms
import Derived.ChangeOld
import Derived.OpenShut
import Derived.ShutString
import Derived.ProofKit
import Derived.SizedLaws
namespace Go.Proofs.YthnodmbenbiahaaGreatDoor
/- Opening the arguments of a row: what a slice reads as, out of the form's own reading. Plain facts. -/
section
open Go.RowKit Go.Maps

theorem mapM_range {α : Type} {f : Nat → Option α} : ∀ {n : Nat} {l : List α}, (List.range n).mapM f = some l → l.length = n ∧ ∀ j, j < n → f j = l[j]? := by
  intro n l h
  have key : ∀ (is : List Nat) (l : List α), is.mapM f = some l → l.length = is.length ∧ ∀ j, j < is.length → (is[j]?).bind f = l[j]? := by
    intro is
    induction is with
    | nil => intro l h; simp at h; subst h; simp
    | cons i r ih =>
      intro l h
      rw [List.mapM_cons] at h
      cases hi : f i with
      | none => simp [hi] at h
      | some a =>
        cases hr : r.mapM f with
        | none => simp [hi, hr] at h
        | some t =>
          simp [hi, hr] at h
          subst h
          obtain ⟨h1, h2⟩ := ih t hr
          refine ⟨by simp [h1], fun j hj => ?_⟩
          cases j with
          | zero => simp [hi]
          | succ j => simpa using h2 j (by simpa using hj)
  obtain ⟨h1, h2⟩ := key _ _ h
  refine ⟨by simpa using h1, fun j hj => ?_⟩
  have := h2 j (by simpa using hj)
  rw [List.getElem?_range hj] at this
  exact this
theorem cells_at {w : World} {base : Nat} {a : Addr} {n : Nat} {cs : List Value} (h : w.cells? base a n = some cs) (hn : 0 < n) :
    a.spot = none ∧ a.block < w.heap.size ∧ cs.length = n ∧ ∀ j u, cs[j]? = some u → w.cell? ⟨a.block, a.off + j, none⟩ = some u := by
  unfold World.cells? at h
  split at h
  · obtain ⟨h1, h2⟩ := mapM_range h
    have h0 := h2 0 hn
    rw [List.getElem?_eq_getElem (by omega)] at h0
    have e0 : a.add 0 = a := rfl
    rw [e0] at h0
    have hsp : a.spot = none := by
      unfold World.cell? at h0
      split at h0
      · split at h0
        · cases h0
        · rename_i hs; simpa using hs
      · cases h0
    refine ⟨hsp, cell_lt h0, h1, fun j u hj => ?_⟩
    have hjl : j < cs.length := (List.getElem?_eq_some_iff.1 hj).1
    have := h2 j (by omega)
    rw [hj] at this
    rw [← this]
    obtain ⟨b, o, sp⟩ := a
    simp only at hsp
    subst hsp
    rw [Addr.add_lit]
  · cases h
theorem list_of {α : Type} {Q : Nat → α → Prop} : ∀ (n : Nat), (∀ i, i < n → ∃ x, Q i x) → ∃ l : List α, l.length = n ∧ ∀ i x, l[i]? = some x → Q i x
  | 0, _ => ⟨[], rfl, fun i x h => by simp at h⟩
  | n + 1, h => by
    obtain ⟨l, h1, h2⟩ := list_of n (fun i hi => h i (by omega))
    obtain ⟨y, hy⟩ := h n (by omega)
    refine ⟨l ++ [y], by simp [h1], fun i x hx => ?_⟩
    rcases Nat.lt_or_ge i l.length with hi | hi
    · rw [List.getElem?_append_left hi] at hx; exact h2 i x hx
    · have hlen := (List.getElem?_eq_some_iff.1 hx).1
      simp at hlen
      have : i = n := by omega
      subst this
      rw [List.getElem?_append_right hi, h1] at hx
      simp at hx
      subst hx
      exact hy
section
variable {H : Type} {enc : TypeId × Value → H} {P : Program} {w : World} {base : Nat} {sp : Nat → Bool} {held : Bool} {fuel : Nat}
theorem open_elems {t e : TypeId} {s : Nat} {cs0 : List Value} {x : DataW H × List MemPlace} (ht : P.underlying t = some (.slice e)) (hs : P.cellsOf e = s) (hpos : 0 < s) (h : DataW.trod enc P w base sp held fuel t cs0 = some x) (hwt : ∀ n ∈ x.1.weights P t, n ≤ reachBytes) :
    ∃ A len cap, cs0 = [.slice A len cap] ∧ len ≤ cap ∧ len ≤ maxLen ∧ len * P.bytesOf e ≤ reachBytes ∧ ((len = 0) ∨ ∃ b o, A = some ⟨b, o, none⟩ ∧ b < w.heap.size ∧ ∀ i, i < len → ∃ cs n y, cs.length = s ∧ (∀ j u, cs[j]? = some u → w.cell? ⟨b, o + i * s + j, none⟩ = some u) ∧ DataW.trod enc P w base sp held n e cs = some y ∧ ∀ n ∈ y.1.weights P e, n ≤ reachBytes) := by
  rcases DataW.trod_slice ht h with ⟨h0, _⟩ | ⟨a, len, cap, elems, rest, n, _, rfl, rfl, hb, hl, hm, hlen, hel, _, _⟩
  · exact ⟨none, 0, 0, h0, Nat.le_refl _, Nat.zero_le _, by simp, .inl rfl⟩
  · simp only [DataW.weights, ht, List.mem_cons, List.mem_append, List.length_map] at hwt
    have hw0 := hwt _ (.inl rfl)
    refine ⟨some a, len, cap, rfl, hl, Nat.le_trans hl hm, ?_, ?_⟩
    · rw [hlen, Nat.add_mul] at hw0; omega
    by_cases h0 : len = 0
    · exact .inl h0
    · right
      have each : ∀ i, i < len → ∃ cs n y, (w.cells? base (a.add (i * s)) s = some cs) ∧ DataW.trod enc P w base sp held n e cs = some y ∧ ∀ n ∈ y.1.weights P e, n ≤ reachBytes := by
        intro i hi
        have := hel i hi
        rw [hs, List.getElem?_eq_getElem (by omega), Option.bind_eq_some_iff] at this
        obtain ⟨cs, h1, h2⟩ := this
        refine ⟨cs, n, _, h1, h2, fun k hk => hwt k (.inr (.inl ?_))⟩
        have key : ∀ (l : List (DataW H)) (d : DataW H), d ∈ l → k ∈ d.weights P e → k ∈ DataW.weightsAll P e l := by
          intro l
          induction l with
          | nil => intro d hd; cases hd
          | cons c r ih =>
            intro d hd hk
            simp only [DataW.weightsAll, List.mem_append]
            rcases List.mem_cons.1 hd with rfl | hd
            · exact .inl hk
            · exact .inr (ih d hd hk)
        exact key _ _ (List.mem_map_of_mem (List.getElem_mem _)) hk
      obtain ⟨c0, _, _, hc0, _⟩ := each 0 (by omega)
      rw [Nat.zero_mul] at hc0
      obtain ⟨k1, k2, _, _⟩ := cells_at hc0 hpos
      obtain ⟨b, o, spot⟩ := a
      have k1 : spot = none := k1
      subst k1
      refine ⟨b, o, rfl, k2, fun i hi => ?_⟩
      obtain ⟨cs, n, y, h1, h2, h3⟩ := each i hi
      rw [Addr.add_lit] at h1
      obtain ⟨_, _, q1, q2⟩ := cells_at h1 hpos
      exact ⟨cs, n, y, q1, q2, h2, h3⟩
/-- A struct's fields. -/
theorem open_field {t : TypeId} {fs : Array Field} {cs0 : List Value} {x : DataW H × List MemPlace} (ht : P.underlying t = some (.struct fs)) (h : DataW.trod enc P w base sp held fuel t cs0 = some x) (hwt : ∀ n ∈ x.1.weights P t, n ≤ reachBytes) (i : Nat) (f : Field) (hf : fs[i]? = some f) :
    ∃ n y, DataW.trod enc P w base sp held n f.type ((cs0.drop f.offset).take (P.cellsOf f.type)) = some y ∧ ∀ n ∈ y.1.weights P f.type, n ≤ reachBytes := by
  obtain ⟨xs, n, _, rfl, _, hl, hel⟩ := DataW.trod_struct ht h
  have hi : i < xs.length := by rw [hl]; exact (Array.getElem?_eq_some_iff.1 hf).1
  have := hel i f hf
  rw [List.getElem?_eq_getElem hi] at this
  refine ⟨n, _, this, fun k hk => hwt k ?_⟩
  simp only [DataW.weights, ht]
  refine DataW.weights_mem_each (j := i) (t := f.type) ?_ ?_ k hk
  · rw [List.getElem?_map, Array.getElem?_toList, hf]; rfl
  · rw [List.getElem?_map, List.getElem?_eq_getElem hi]; rfl
/-- A slice of numbers. -/
theorem open_nums {k : IntKind} {t e : TypeId} {cs0 : List Value} {x : DataW H × List MemPlace} (ht : P.underlying t = some (.slice e)) (he : P.underlying e = some (.int k)) (hs : P.cellsOf e = 1) (h : DataW.trod enc P w base sp held fuel t cs0 = some x) (hwt : ∀ n ∈ x.1.weights P t, n ≤ reachBytes) :
    ∃ v l, cs0 = [v] ∧ Reads (fun n : Int => Value.int k n) w (fun b => b < w.heap.size) v l ∧ (∀ n ∈ l, (Lit.int k n).wf = true) ∧ l.length * P.bytesOf e ≤ reachBytes := by
  obtain ⟨A, len, cap, rfl, h1, h2, hby, h3⟩ := open_elems ht hs Nat.one_pos h hwt
  rcases h3 with rfl | ⟨b, o, rfl, hb, hel⟩
  · exact ⟨_, [], rfl, ⟨A, cap, rfl, h1, h2, Cells.empty _ _ _⟩, fun n hn => (by cases hn), by simp⟩
  · obtain ⟨l, hl, hq⟩ := list_of (Q := fun i n => w.cell? ⟨b, o + i, none⟩ = some (.int k n) ∧ (Lit.int k n).wf = true) len (fun i hi => by
      obtain ⟨cs, n, y, e1, e2, e3, _⟩ := hel i hi
      obtain ⟨m, rfl, _, hw⟩ := DataW.trod_int he e3
      exact ⟨m, by simpa using e2 0 _ rfl, hw⟩)
    refine ⟨_, l, rfl, ⟨some ⟨b, o, none⟩, cap, by rw [hl], by omega, by omega, fun _ => ⟨b, o, rfl, hb, fun j u hj => ?_⟩⟩, fun n hn => ?_, by rw [hl]; exact hby⟩
    · rw [List.getElem?_map] at hj
      cases hx : l[j]? with
      | none => rw [hx] at hj; cases hj
      | some n =>
        rw [hx] at hj
        simp only [Option.map_some, Option.some.injEq] at hj
        rw [← hj]
        exact (hq j n hx).1
    · obtain ⟨i, hi⟩ := List.getElem?_of_mem hn
      exact (hq i n hi).2
theorem open_bytesR {t e : TypeId} {cs0 : List Value} {x : DataW H × List MemPlace} (ht : P.underlying t = some (.slice e)) (he : P.underlying e = some (.int .u8)) (hs : P.cellsOf e = 1) (h : DataW.trod enc P w base sp held fuel t cs0 = some x) (hwt : ∀ n ∈ x.1.weights P t, n ≤ reachBytes) :
    ∃ v l, cs0 = [v] ∧ Bytes w (fun b => b < w.heap.size) v l ∧ l.length * P.bytesOf e ≤ reachBytes := by
  obtain ⟨v, l, h0, ⟨A, c, e1, e2, e3, e4⟩, hw, hby⟩ := open_nums ht he hs h hwt
  have hmap : (l.map fun n => UInt8.ofNat n.toNat).map byteV = l.map (fun n : Int => Value.int .u8 n) := by
    rw [List.map_map]
    refine List.map_congr_left (fun n hn => ?_)
    have := hw n hn
    have : 0 ≤ n ∧ n ≤ 255 := by
      simp only [Lit.wf, Bool.and_eq_true, decide_eq_true_eq] at this
      exact this
    simp only [Function.comp, byteV, Value.int.injEq, true_and]
    rw [UInt8.toNat_ofNat']
    omega
  refine ⟨v, l.map fun n => UInt8.ofNat n.toNat, h0, ⟨A, c, by simpa using e1, by simpa using e2, by simpa using e3, ?_⟩, by simpa using hby⟩
  rw [hmap]
  exact e4
theorem open_intsR {t e : TypeId} {cs0 : List Value} {x : DataW H × List MemPlace} (ht : P.underlying t = some (.slice e)) (he : P.underlying e = some (.int .i64)) (hs : P.cellsOf e = 1) (h : DataW.trod enc P w base sp held fuel t cs0 = some x) (hwt : ∀ n ∈ x.1.weights P t, n ≤ reachBytes) :
    ∃ v l, cs0 = [v] ∧ Ints w (fun b => b < w.heap.size) v l ∧ ∀ n ∈ l, -9223372036854775808 ≤ n ∧ n ≤ 9223372036854775807 := by
  obtain ⟨v, l, h0, h1, hw, _⟩ := open_nums ht he hs h hwt
  exact ⟨v, l, h0, h1, fun n hn => by
    have := hw n hn
    simp only [Lit.wf, Bool.and_eq_true, decide_eq_true_eq] at this
    exact this⟩
end
end
/- The cells of plain types. -/
section
open Go.RowKit Go.Maps

theorem cells_int : Tryz.prog.cellsOf 3 = 1 := by kernel_rfl
theorem cells_str : Tryz.prog.cellsOf 9 = 1 := by kernel_rfl
theorem cells_bytes : Tryz.prog.cellsOf 22 = 1 := by kernel_rfl
theorem cells_ints : Tryz.prog.cellsOf 34 = 1 := by kernel_rfl
theorem cells_u8 : Tryz.prog.cellsOf 5 = 1 := by kernel_rfl
theorem bytes_u8 : Tryz.prog.bytesOf 5 = 1 := by kernel_rfl
theorem bytes_int : Tryz.prog.bytesOf 3 = 8 := by kernel_rfl
end
end Go.Proofs.YthnodmbenbiahaaGreatDoor
