/- The disk's names, in rising order. -/
import Derived.Test.YthnodmbenbiahaaGreatDoorDiskF
namespace Go.Proofs
open Go.RowKit Go.Maps Go.Sort Go.Shelf
/-- slices.Sort's two contracts at this dump, at the fence that asks nothing. -/
theorem Tryz.sorts (m : Nat) : AnyZ.SortsIn Tryz.prog Tryz.sorted_ren Fence.wide m :=
  ⟨fun blk off cap ss W hH hblk hsz => callsIn_wide.2 (AnyM.slices_Sort_string Tryz.sort blk off cap ss W hH hblk hsz),
   fun p cap W => callsIn_wide.2 (AnyM.slices_Sort_string_none Tryz.sort p cap W)⟩
theorem Tryz.maps_Keys (mb : Option Nat) (W : World) : CallsIn Fence.wide 5 Tryz.prog 117 #[.map mb] W fun e w' => e = .returned (.func (.func 158) #[] #[.pointer (some ⟨W.heap.size, 0, none⟩)]) ∧ w' = W.alloc (.cells #[.map mb] 74) :=
  AnyZ.keys_in Tryz.keys Fence.wide 5 trivial rfl mb W
set_option maxHeartbeats 1000000 in
theorem Tryz.slices_Sorted_keys {H : Type} (b nn : Nat) (D0 : DataW H) (R : Value → Option (DataW H × List MemPlace)) (w : World) (hown : w.ownsMap Tryz.prog 9 R b nn D0) (hmax : Maps.size D0 ≤ maxLen) (hbytes : Maps.size D0 * 16 ≤ 140737488355328) :
    CallsIn Fence.wide 5 Tryz.prog 116 #[.func (.func 158) #[] #[.pointer (some ⟨w.heap.size, 0, none⟩)]] (w.alloc (.cells #[.map (some b)] 74)) fun e w' => ∃ (v : Value) (ss : List (List UInt8)), e = .returned v ∧ ss.Perm (strKeys D0) ∧
      w'.ownsRow (w.alloc (.cells #[.map (some b)] 74)).heap.size 9 1 v ss.length ((ss.mergeSort (fun x y => decide (x ≤ y))).map encStr) ∧ (v = .slice none 0 0 ↔ ss = []) ∧ Below (w.alloc (.cells #[.map (some b)] 74)).heap.size (w.alloc (.cells #[.map (some b)] 74)) w' := by
  have hbl := hown.lt
  have hseq : SeqGives Fence.wide 2 Tryz.prog 158 #[.pointer (some ⟨w.heap.size, 0, none⟩)] encStr (fun ss => ss.Perm (strKeys D0)) (Maps.size D0) (w.alloc (.cells #[.map (some b)] 74)) :=
    AnyZ.keys_gives (ρ := Tryz.keys_ren) { Tryz.keys with } Fence.wide _ trivial rfl (by omega) w.heap.size b nn D0 _ (by simp) (by simp) (by
      obtain ⟨es, clock, hb, Ft, hs, hD⟩ := hown
      exact ⟨es, clock, (Below.heap_alloc _ _ b hbl).trans hb, Ft, hs, hD⟩)
  exact AnyZ.sorted_in Tryz.sorted Fence.wide 5 trivial trivial trivial trivial rfl (by omega) (Tryz.sorts _) (enters_of Tryz.func157 (by kernel_rfl) rfl) 158 #[.pointer (some ⟨w.heap.size, 0, none⟩)] trivial (enters_of Tryz.func158 (by kernel_rfl) rfl) _ _ hmax hbytes _ hseq
end Go.Proofs
namespace Go.Proofs.YthnodmbenbiahaaGreatDoor
open Go.RowKit Go.Maps Go.Sort

theorem sorted_eq {l l' : List (List UInt8)} (hp : l.Perm l') (h : l.Pairwise (fun x y => x ≤ y)) (h' : l'.Pairwise (fun x y => x ≤ y)) : l = l' :=
  hp.eq_of_pairwise (fun _ _ _ _ h1 h2 => List.le_antisymm h1 h2) h h'
theorem names_sorted {g : List Ent} (hr : Rising Ent.name g) {ss : List (List UInt8)} (hp : ss.Perm (g.map fun x => x.name.data.toList)) :
    (ss.mergeSort (fun x y => decide (x ≤ y))) = g.map fun x => x.name.data.toList := by
  refine sorted_eq ((List.mergeSort_perm _ _).trans hp) ?_ ?_
  · have := List.pairwise_mergeSort (le := fun x y : List UInt8 => decide (x ≤ y)) (fun _ _ _ h1 h2 => by simp only [decide_eq_true_eq] at *; exact List.le_trans h1 h2) (fun a b => by simp only [Bool.or_eq_true, decide_eq_true_eq]; exact List.le_total a b) ss
    exact this.imp (fun h => by simpa using h)
  · rw [List.pairwise_map]
    exact hr.imp (fun h => List.le_of_lt h)

set_option maxHeartbeats 1000000 in
theorem names_any {w : World} {p mb : Nat} {g : List Ent} (h : DiskG w p mb g) :
    Calls Tryz.prog 62 #[.pointer (some ⟨p, 0, none⟩)] w fun e w' => ∃ v, e = .returned v ∧ w'.ownsRow w.heap.size 9 1 v g.length (g.map fun x => strV x.name) ∧ Below w.heap.size w w' := by
  obtain ⟨D, hown, hD⟩ := h.mp
  have hct := h.ct
  have hmax : Maps.size D ≤ maxLen := by rw [hD.size]; unfold maxLen; omega
  have hbytes : Maps.size D * 16 ≤ 140737488355328 := by rw [hD.size]; omega
  have hc0 : w.cell? ⟨p, 0, none⟩ = some (.map (some mb)) := (cell_blk h.pc 0).trans rfl
  have hk := Lib.hid hD.keys
  have hso := Lib.hid h.so
  clear h hD hct
  refine (callsIn_wide (n := 6)).1 ?_
  have hfK : Fence.wide.fn 117 := trivial
  have hfS : Fence.wide.fn 116 := trivial
  have hfI : Fence.wide.fn 115 := trivial
  refine callsIn_of_wp Tryz.func62 rfl trivial ?_ rfl
  simp only [Tryz.ntmps62, List.size_toArray, List.length_cons, List.length_nil, Nat.reduceAdd, Nat.reduceSub, Array.replicate_succ, Array.replicate_zero, List.push_toArray, List.append_toArray, List.nil_append, List.cons_append]
  gi_wp2_with (first | (gi_at_call 115; refine (callsIn_wide.2 (is_cell w p (some mb) hc0)).mono ?_; rintro e w' ⟨rfl, rfl⟩) | (gi_at_call 117; refine (Tryz.maps_Keys _ _).mono ?_; rintro e w' ⟨rfl, rfl⟩) | (gi_at_call 116; refine (Tryz.slices_Sorted_keys mb _ D ptrR w hown hmax hbytes).mono ?_; rintro e w' ⟨v, ss, rfl, hS, hrow, hnil, hb⟩))
  go_ret
  refine ⟨v, rfl, ?_, ((Below.refl _ w).alloc (Nat.le_refl _) _).trans (hb.mono (by simp))⟩
  have hp := hS.trans hk.out
  rw [names_sorted hso.out hp, List.map_map] at hrow
  have hl : ss.length = g.length := by rw [hp.length_eq, List.length_map]
  rw [hl] at hrow
  exact ownsRow_base_a hrow (by simp)
end Go.Proofs.YthnodmbenbiahaaGreatDoor
