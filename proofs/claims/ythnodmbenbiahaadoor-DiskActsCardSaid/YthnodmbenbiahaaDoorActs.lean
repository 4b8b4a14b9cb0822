/- Acts as an argument, and law 5's heavy. -/
import Derived.Test.YthnodmbenbiahaaDoorDoes
namespace Go.Proofs.YthnodmbenbiahaaDoor
open Go.RowKit Go.Maps

structure ActFit (a : ActD) : Prop where
  ok : ActOk a
  b : a.b.length ≤ 140737488351232
  c : a.cuts.length ≤ 17592186044416
/-- v is a slice that reads as the acts l; what it leads to lies in ok. -/
def ActsRd (w : World) (ok : Nat → Prop) (v : Value) (l : List ActD) : Prop :=
  ∃ A c, v = .slice A l.length c ∧ l.length ≤ c ∧ l.length ≤ maxLen ∧ (∀ x ∈ l, ActFit x) ∧ ∀ i x, l[i]? = some x → ∃ b o B d C e, A = some ⟨b, o, none⟩ ∧ ok b ∧
    w.cell? ⟨b, o + i * 6, none⟩ = some (.int .i64 x.act) ∧ w.cell? ⟨b, o + i * 6 + 1, none⟩ = some (.string x.name) ∧ w.cell? ⟨b, o + i * 6 + 2, none⟩ = some (.string x.dst) ∧ w.cell? ⟨b, o + i * 6 + 3, none⟩ = some (.slice B x.b.length d) ∧ w.cell? ⟨b, o + i * 6 + 4, none⟩ = some (.int .i64 x.n) ∧ w.cell? ⟨b, o + i * 6 + 5, none⟩ = some (.slice C x.cuts.length e) ∧
    Bytes w ok (.slice B x.b.length d) x.b ∧ Ints w ok (.slice C x.cuts.length e) x.cuts
theorem ActsRd.step {w w' : World} {ok : Nat → Prop} {v : Value} {l : List ActD} (h : ActsRd w ok v l) (hs : Same w w' ok) : ActsRd w' ok v l := by
  obtain ⟨A, c, e, h1, h2, h3, h4⟩ := h
  refine ⟨A, c, e, h1, h2, h3, fun i x hx => ?_⟩
  obtain ⟨b, o, B, d, C, e', e1, hb, c0, c1, c2, c3, c4, c5, hB, hC⟩ := h4 i x hx
  exact ⟨b, o, B, d, C, e', e1, hb, hs.cell (a := ⟨b, o + i * 6, none⟩) hb c0, hs.cell (a := ⟨b, o + i * 6 + 1, none⟩) hb c1, hs.cell (a := ⟨b, o + i * 6 + 2, none⟩) hb c2, hs.cell (a := ⟨b, o + i * 6 + 3, none⟩) hb c3, hs.cell (a := ⟨b, o + i * 6 + 4, none⟩) hb c4, hs.cell (a := ⟨b, o + i * 6 + 5, none⟩) hb c5, hB.step hs, hC.step hs⟩
theorem ActsRd.form {w : World} {ok : Nat → Prop} {v : Value} {l : List ActD} (h : ActsRd w ok v l) : ∃ A c, v = .slice A l.length c ∧ l.length ≤ c ∧ l.length ≤ maxLen := by
  obtain ⟨A, c, e, h1, h2, _⟩ := h
  exact ⟨A, c, e, h1, h2⟩
theorem ActsRd.get {w : World} {ok : Nat → Prop} {A : Option Addr} {n c : Nat} {l : List ActD} (h : ActsRd w ok (.slice A n c) l) (i : Nat) (hi : i < l.length) : ∃ b o B d C e, A = some ⟨b, o, none⟩ ∧ ok b ∧
    w.cell? ⟨b, o + i * 6, none⟩ = some (.int .i64 l[i].act) ∧ w.cell? ⟨b, o + i * 6 + 1, none⟩ = some (.string l[i].name) ∧ w.cell? ⟨b, o + i * 6 + 2, none⟩ = some (.string l[i].dst) ∧ w.cell? ⟨b, o + i * 6 + 3, none⟩ = some (.slice B l[i].b.length d) ∧ w.cell? ⟨b, o + i * 6 + 4, none⟩ = some (.int .i64 l[i].n) ∧ w.cell? ⟨b, o + i * 6 + 5, none⟩ = some (.slice C l[i].cuts.length e) ∧
    Bytes w ok (.slice B l[i].b.length d) l[i].b ∧ Ints w ok (.slice C l[i].cuts.length e) l[i].cuts := by
  obtain ⟨A', c', e, h1, h2, h3, h4⟩ := h
  injection e with e1 e2 e3
  subst e1
  exact h4 i _ (List.getElem?_eq_getElem hi)
theorem ActsRd.fit {w : World} {ok : Nat → Prop} {v : Value} {l : List ActD} (h : ActsRd w ok v l) : ∀ x ∈ l, ActFit x := by
  obtain ⟨A, c, e, h1, h2, h3, _⟩ := h
  exact h3

def weigh (l : List ActD) : Nat := ((l.map fun x => x.b.length).take 400).sum
theorem sum_snoc (l : List Nat) (k : Nat) (hk : k < l.length) : (l.take (k + 1)).sum = (l.take k).sum + l[k] := by
  rw [List.take_succ_eq_append_getElem hk, List.sum_append]
  simp only [List.sum_cons, List.sum_nil, Nat.add_zero]
theorem sum_take_le (l : List Nat) (B : Nat) (hB : ∀ x ∈ l, x ≤ B) : ∀ k, (l.take k).sum ≤ k * B := by
  intro k
  induction k with
  | zero => simp
  | succ k ih =>
    by_cases hk : k < l.length
    · rw [sum_snoc l k hk, Nat.succ_mul]
      have := hB _ (List.getElem_mem hk)
      omega
    · rw [List.take_of_length_le (by omega)] at ih ⊢
      rw [Nat.succ_mul]
      omega
theorem mem_sum {l : List Nat} {x : Nat} (h : x ∈ l) : x ≤ l.sum := by
  induction l with
  | nil => cases h
  | cons a r ih =>
    rw [List.sum_cons]
    rcases List.mem_cons.1 h with rfl | h
    · omega
    · have := ih h
      omega
theorem weigh_le {l : List ActD} {i : Nat} (hi : i < l.length) (h4 : i < 400) : l[i].b.length ≤ weigh l := by
  refine mem_sum ?_
  refine List.mem_iff_getElem.2 ⟨i, by simp; omega, by simp⟩
set_option maxHeartbeats 1000000 in
theorem heavy_any {w : World} {ok : Nat → Prop} {v : Value} {l : List ActD} (h : ActsRd w ok v l) :
    Calls Tryd.prog 14 #[v] w fun e w' => e = .returned (.bool (decide (262144 < weigh l))) ∧ w = w' := by
  obtain ⟨A, c, rfl, _, hmax⟩ := h.form
  have hle : ∀ x ∈ l.map (fun x => x.b.length), x ≤ 140737488351232 := fun x hx => by
    obtain ⟨y, hy, rfl⟩ := List.mem_map.1 hx
    exact (h.fit y hy).b
  have hsum := Lib.hid (sum_take_le _ _ hle)
  replace h := Lib.hid h
  replace hle := Lib.hid hle
  have hmx : l.length ≤ 9223372036854775807 := hmax
  go_enter Tryd.func14, Tryd.ntmps14
  go_wp2_with fail
  go_loopw [3, 4] (fun n i wr => ∃ (k : Nat) (s : Nat), k ≤ l.length ∧ k ≤ 400 ∧ i = .int .i64 k ∧ n = .int .i64 s ∧ Hid (s = ((l.map fun x => x.b.length).take k).sum) ∧ wr = w) (fun _ i _ => l.length - (intOf i).toNat)
  case atStart => exact ⟨0, 0, Nat.zero_le _, Nat.zero_le _, rfl, rfl, Lib.hid rfl, by first | trivial | rfl⟩
  case round =>
    obtain ⟨k, s, hk, hk4, rfl, rfl, hs, rfl⟩ := hrel
    have hsk := hsum.out k
    rw [← hs.out] at hsk
    by_cases hlt : k < l.length
    · have i1 : (k : Int) < l.length := by omega
      by_cases h4 : k < 400
      · have i2 : (k : Int) < 400 := by omega
        obtain ⟨b, o, B, d, C, e, rfl, hb, c0, c1, c2, c3, c4, c5, _, _⟩ := h.out.get k hlt
        have hx := hle.out _ (List.mem_map_of_mem (List.getElem_mem hlt))
        have i3 : IntKind.i64.wrap ((s : Int) + (l[k].b.length : Nat)) = s + (l[k].b.length : Nat) := IntWalk.i64_in _ (by omega)
        go_wp2_with fail
        go_roundw
        case measure => simp [intOf]; omega
        case rel =>
          refine ⟨k + 1, s + l[k].b.length, by omega, by omega, by go_num, by go_num, Lib.hid ?_, by first | trivial | rfl⟩
          rw [sum_snoc _ k (by simpa using hlt), ← hs.out]
          simp
      · obtain rfl : k = 400 := by omega
        have i2 : ¬ (400 : Int) < 400 := by omega
        go_wp2_with fail
        go_ret
        refine ⟨ret_bool ?_, rfl⟩
        have e : weigh l = s := hs.out.symm
        rw [e]
        simp
        omega
    · obtain rfl : k = l.length := by omega
      go_wp2_with fail
      go_ret
      refine ⟨ret_bool ?_, rfl⟩
      have e : weigh l = s := by
        rw [hs.out]
        unfold weigh
        rw [List.take_of_length_le (by simpa using hk4), List.take_of_length_le (by simp)]
      rw [e]
      simp
      omega
end Go.Proofs.YthnodmbenbiahaaDoor
