/- The program's layer 8 (snap) at nobody's: Load and Save refuse; a basket that is nil or empty. -/
import Derived.Test.YthnodmbenbiahaaGreatDoorSnapA
import Derived.Test.YthnodmbenbiahaaGreatDoorSnapL
namespace Go.Proofs.YthnodmbenbiahaaGreatDoor
open Go.RowKit Go.Maps

set_option maxRecDepth 100000 in
theorem sload_bad {w : World} {v : Value} (g : Int) {S : ByteArray} (hn : ∀ W, Below w.heap.size w W → Calls Tryz.prog 63 #[v, .int .i64 g] W fun e w' => e = .returned (.tuple #[.string S, .bool false]) ∧ Below W.heap.size W w') :
    Calls Tryz.prog 34 #[v, .int .i64 g] w fun e w' => e = .returned (.tuple #[.int .u64 0, .int .u64 0, .slice none 0 0, .int .i64 1]) ∧ Below w.heap.size w w' := by
  have hn1 := hn _ (Below.refl _ _)
  clear hn
  go_enter Tryz.func34, Tryz.ntmps34
  go_wp2_with fail
  refine hn1.mono ?_
  clear hn1
  rintro e wa ⟨rfl, hba⟩
  go_wp2_with fail
  ((try simp only [Exit.inBlock, Exit.then]); refine bodyPost_ret (results_tmp4 rfl _ _ _) rfl ?_)
  exact ⟨rfl, hba⟩
set_option maxRecDepth 100000 in
theorem ssave_bad {w : World} {v : Value} (g : Int) {S : ByteArray} (hn : ∀ W, Below w.heap.size w W → Calls Tryz.prog 63 #[v, .int .i64 g] W fun e w' => e = .returned (.tuple #[.string S, .bool false]) ∧ Below W.heap.size W w') (ix tm : Int) (b : Value) :
    Calls Tryz.prog 18 #[v, .int .i64 g, .int .u64 ix, .int .u64 tm, b] w fun e w' => e = .returned (.int .i64 1) ∧ Below w.heap.size w w' := by
  have hn1 := hn _ (Below.refl _ _)
  clear hn
  go_enter Tryz.func18, Tryz.ntmps18
  go_wp2_with fail
  refine hn1.mono ?_
  clear hn1
  rintro e wa ⟨rfl, hba⟩
  go_wp2_with fail
  go_ret
  exact ⟨rfl, hba⟩
/-- Nobody's basket: nil, or one that nobody filled. -/
def NoBask (w : World) (v : Value) : Prop := v = .pointer none ∨ ∃ b, v = .pointer (some ⟨b, 0, none⟩) ∧ w.cell? ⟨b, 0, none⟩ = some (.int .i64 0) ∧ w.cell? ⟨b, 1, none⟩ = some (.slice none 0 0) ∧ w.cell? ⟨b, 2, none⟩ = some (.slice none 0 0)
set_option maxRecDepth 100000 in
theorem bmissing_no {w : World} {v : Value} (h : NoBask w v) : Calls Tryz.prog 32 #[v] w fun e w' => e = .returned (.slice none 0 0) ∧ w' = w := by
  rcases h with rfl | ⟨b, rfl, c0, c1, c2⟩
  · go_enter Tryz.func32, Tryz.ntmps32
    go_wp2_with fail
    go_ret
    exact ⟨rfl, rfl⟩
  · go_enter Tryz.func32, Tryz.ntmps32
    go_wp2_with fail
    go_loopw [3, 13] (fun o i wr => o = .slice none 0 0 ∧ i = .int .i64 0 ∧ wr = w) (fun _ _ _ => 0)
    case atStart => exact ⟨rfl, rfl, by first | trivial | rfl⟩
    case round =>
      obtain ⟨rfl, rfl, rfl⟩ := hrel
      go_wp2_with fail
      go_ret
      exact ⟨rfl, rfl⟩
set_option maxRecDepth 100000 in
theorem bput_no {w : World} {v : Value} (h : NoBask w v) : Calls Tryz.prog 31 #[v, .int .i64 0, .slice none 0 0] w fun e w' => e = .returned (.int .i64 1) ∧ w' = w := by
  rcases h with rfl | ⟨b, rfl, c0, c1, c2⟩
  · go_enter Tryz.func31, Tryz.ntmps31
    go_wp2_with fail
    go_ret
    exact ⟨rfl, rfl⟩
  · go_enter Tryz.func31, Tryz.ntmps31
    go_wp2_with fail
    go_ret
    exact ⟨rfl, rfl⟩
set_option maxRecDepth 100000 in
theorem bbytes_no {w : World} {v : Value} (h : NoBask w v) : Calls Tryz.prog 33 #[v] w fun e w' => e = .returned (.tuple #[.slice none 0 0, .bool false]) ∧ w' = w := by
  rcases h with rfl | ⟨b, rfl, c0, c1, c2⟩
  · go_enter Tryz.func33, Tryz.ntmps33
    go_wp2_with fail
    go_ret2
    exact ⟨rfl, rfl⟩
  · go_enter Tryz.func33, Tryz.ntmps33
    go_wp2_with fail
    go_ret2
    exact ⟨rfl, rfl⟩
set_option maxRecDepth 100000 in
theorem sgather_no {w : World} (m : Int) (h : m < 0 ∨ 32768 < m) :
    Calls Tryz.prog 29 #[.int .i64 m] w fun e w' => e = .returned (.tuple #[.pointer none, .int .i64 1]) ∧ Below w.heap.size w w' := by
  by_cases h0 : m < 0
  · clear h
    go_enter Tryz.func29, Tryz.ntmps29
    go_wp2_with fail
    go_ret2
    exact ⟨rfl, Below.refl _ _⟩
  · have h1 : 32768 < m := by omega
    clear h
    go_enter Tryz.func29, Tryz.ntmps29
    go_wp2_with fail
    go_ret2
    exact ⟨rfl, Below.refl _ _⟩
theorem info_bytess : (Tryz.prog.info? 22).map (fun i => (i.zero, i.size, i.bytes)) = some (some (.slice none 0 0), 1, 24) := by kernel_rfl
theorem info_bool : (Tryz.prog.info? 4).map (fun i => (i.zero, i.size, i.bytes)) = some (some (.bool false), 1, 1) := by kernel_rfl
/-- make([]T, k). -/
theorem run_make_k (w : World) (t e : TypeId) {z : Value} {size bytes : Nat} (ht : Tryz.prog.underlying t = some (.slice e)) (hi : (Tryz.prog.info? e).map (fun i => (i.zero, i.size, i.bytes)) = some (some z, size, bytes)) (k : Nat) (hk : k ≤ 1000) (hb : bytes ≤ 1000) :
    (Instr.makeSlice t (.int .i64 k) (.int .i64 k)).run Tryz.prog w = .ok (.slice (some ⟨w.heap.size, 0, none⟩) k k) (w.alloc (.cells (madeCells z.cells (k * size)) e)) := by
  obtain ⟨i, h1, h2⟩ := Option.map_eq_some_iff.1 hi
  simp only [Prod.mk.injEq] at h2
  obtain ⟨h3, rfl, rfl⟩ := h2
  have hbk : i.bytes * k ≤ 1000 * 1000 := Nat.mul_le_mul hb hk
  have hq : ((i.bytes * k : Nat) : Int) ≤ 1000000 := by omega
  have hq2 : (i.bytes : Int) * k ≤ 281474976710656 := by
    rw [← Int.natCast_mul]
    omega
  exact run_make (P := Tryz.prog) w t e i z ht h1 h3 .i64 .i64 k k (by omega) (Int.le_refl _) hq2 (by omega)
theorem three_allocs (w : World) (o1 o2 o3 : Obj) : Below w.heap.size w (((w.alloc o1).alloc o2).alloc o3).drew := by
  have h9 := (Below.refl w.heap.size w).alloc (Nat.le_refl _) o1
  have h7 := h9.alloc h9.size o2
  have h8 := h7.alloc h7.size o3
  exact ⟨h8.os, h8.tape, h8.output, h8.size, h8.block⟩
set_option maxRecDepth 100000 in
set_option maxHeartbeats 1000000 in
theorem sgather_yes {w : World} (M : Nat) (h : M ≤ 32768) :
    Calls Tryz.prog 29 #[.int .i64 M] w fun e w' => ∃ b, e = .returned (.tuple #[.pointer (some ⟨b, 0, none⟩), .int .i64 0]) ∧ Below w.heap.size w w' := by
  obtain ⟨k, hk⟩ : ∃ k, k = cnt M := ⟨_, rfl⟩
  have hc := scount_nat (w := w) M (by omega) hk
  have hk1 : k ≤ 129 := by rw [hk]; unfold cnt; omega
  have h0 : ¬ (M : Int) < 0 := by omega
  have h1 : ¬ (32768 : Int) < M := by omega
  have mk1 := fun W => run_make_k W 63 22 Tryz.underlying63 info_bytess k (by omega) (by decide)
  have mk2 := fun W => run_make_k W 65 4 Tryz.underlying65 info_bool k (by omega) (by decide)
  clear h hk
  go_enter Tryz.func29, Tryz.ntmps29
  go_wp2_with fail
  refine hc.mono ?_
  clear hc
  rintro e w' ⟨rfl, rfl⟩
  go_wp2_with fail
  go_region_with (fail)
  all_goals go_wp2_with fail
  all_goals go_ret2
  all_goals exact ⟨_, rfl, three_allocs _ _ _ _⟩
end Go.Proofs.YthnodmbenbiahaaGreatDoor
