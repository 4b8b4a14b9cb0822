/- The document's answer for disks (package gudgeonref05), walked: Crash. -/
import Derived.Test.YthnodmbenbiahaaGreatDoorRefF
namespace Go.Proofs.YthnodmbenbiahaaGreatDoor
open Go.RowKit Go.Maps

theorem heap_alloc_new2 (w : World) (o1 o2 : Obj) : ((w.alloc o1).alloc o2).heap[w.heap.size + 1]? = some o2 := by
  have := heap_alloc_new (w.alloc o1) o2
  have e : (w.alloc o1).heap.size = w.heap.size + 1 := by simp
  rw [e] at this
  exact this

set_option maxRecDepth 100000 in
set_option maxHeartbeats 4000000 in
theorem rcrash_any {w : World} {ok : Nat → Prop} {v : Value} {l : List FileD} (h : FilesRd w ok v l) (hl : l.length ≤ 1000) (hz : ∀ x ∈ l, x.data.length ≤ 65536 ∧ 0 ≤ x.safe ∧ x.safe ≤ x.data.length) {okc : Nat → Prop} {CA : Option Addr} {cn cc : Nat} {cuts : List Int} (hc : Ints w okc (.slice CA cn cc) cuts) (hw : ∀ n ∈ cuts, -9223372036854775808 ≤ n ∧ n ≤ 9223372036854775807) :
    Calls Tryz.prog 17 #[v, .slice CA cn cc] w fun e w' => ∃ A m c, e = .returned (.slice A m c) ∧ RefOut w w' ok (.slice A m c) (pCrash l cuts) := by
  obtain ⟨A, c, rfl, hcap, _⟩ := h.form
  obtain rfl := hc.len
  have hcm := hc.max
  have h0 := Lib.hid (h.mono (ok' := fun k => ok k ∧ k < w.heap.size) (fun k h1 h2 => ⟨h1, h2⟩))
  replace hc := Lib.hid hc
  replace hz := Lib.hid hz
  replace hw := Lib.hid hw
  clear h
  have hm := Lib.hid (World.ownsRow_made (base := w.heap.size) (size := 3) (e := 25) w #[] 0 (Nat.le_refl _) (Nat.zero_le _) rfl)
  have hB0 := Lib.hid ((Below.refl w.heap.size w).alloc (Nat.le_refl _) (.cells #[] 25))
  have hlen : (pCrash l cuts).length = l.length := by simp [pCrash]
  have hget : ∀ k (hk : k < l.length), (pCrash l cuts)[k]'(by rw [hlen]; exact hk) = crashed l[k] cuts[k]? := fun k hk => by simp [pCrash]
  replace hget := Lib.hid hget
  go_enter Tryz.func17, Tryz.ntmps17
  go_wp2_with fail
  go_loopw [5, 6] (fun o i wr => ∃ (k : Nat) (us : List Value), k ≤ l.length ∧ i = .int .i64 k ∧ FilesMix wr w.heap.size (fun k => ok k ∧ k < w.heap.size) o ((pCrash l cuts).take k) us ∧ Below w.heap.size w wr) (fun _ i _ => l.length - (intOf i).toNat)
  case atStart => exact ⟨0, [], Nat.zero_le _, rfl, ⟨rfl, by simpa [filesC] using hm.out, fun i x u h => by simp at h⟩, hB0.out⟩
  case round =>
    obtain ⟨k, us, hk, rfl, hF, hB⟩ := hrel
    have hSame : Same w wr (fun k => ok k ∧ k < w.heap.size) := fun k hk hlt => hB.block k hlt
    have hsz := hB.size
    by_cases hlt : k < l.length
    · obtain ⟨b, o, B, d, rfl, hb, c0, c1, c2, hd, hBy⟩ := (h0.out.step hSame).get k hlt
      obtain ⟨hz1, hz2, hz3⟩ := hz.out _ (List.getElem_mem hlt)
      have i1 : (k : Int) < l.length := by omega
      have i2 : (0 : Int) ≤ k := by omega
      have htk : (pCrash l cuts).take (k + 1) = (pCrash l cuts).take k ++ [crashed l[k] cuts[k]?] := by
        rw [← hget.out k hlt]
        exact List.take_succ_eq_append_getElem (by omega)
      have hLk : ((pCrash l cuts).take k).length = k := by simp; omega
      obtain ⟨VA, vc, hu5, _, _⟩ := own_form hF.2.1
      subst hu5
      rw [hLk]
      generalize hL : (pCrash l cuts).take k = L at *
      generalize l[k] = x at *
      obtain ⟨xn, xd, xs⟩ := x
      simp only at c0 c1 c2 hBy hz1 hz2 hz3 hd
      obtain ⟨q, rfl⟩ : ∃ q : Nat, xs = q := ⟨xs.toNat, by omega⟩
      have hqle : q ≤ xd.length := by omega
      have hLk1 := Lib.hid hLk
      have hr0 := Lib.hid (show wr.ownsRow w.heap.size 25 3 (.slice VA k vc) k (filesC L us) by rw [← hLk]; exact hF.2.1)
      have hN00 : ∀ N : Nat, stays ⟨xn, xd, q⟩ cuts[k]? = N → crashed ⟨xn, xd, q⟩ cuts[k]? = ⟨xn, xd.take N, N⟩ := fun N e => by unfold crashed; rw [e]
      replace hN00 := Lib.hid hN00
      have hFk : FilesMix wr w.heap.size (fun k => ok k ∧ k < w.heap.size) (.slice VA k vc) L us := by rw [← hLk]; exact hF
      have hFA := Lib.hid (fun O => hFk.step (Same.alloc wr O _))
      clear hFk
      replace htk := Lib.hid htk
      replace hBy := Lib.hid hBy
      replace hB := Lib.hid hB
      clear hL hF hLk hSame
      by_cases hcu : k < cuts.length
      · have hsome : cuts[k]? = some cuts[k] := List.getElem?_eq_getElem hcu
        obtain ⟨hw1, hw2⟩ := hw.out _ (List.getElem_mem hcu)
        obtain ⟨cb, co, rfl, hcok, hcc1⟩ := (hc.out.step (Same.of_below hB.out _)).get k hcu
        rw [hsome] at hN00 htk
        generalize cuts[k] = cv at *
        have hcc2 : ∀ O, (wr.alloc O).cell? ⟨cb, co + k, none⟩ = some (.int .i64 cv) := fun O => (World.cell?_alloc_lt wr O _ (cell_lt hcc1)).trans hcc1
        have i6 : (k : Int) < cuts.length := by omega
        clear hcc1 hsome hcok
        go_wp2_with fail
        go_loopw [8, 9] (fun n cn w2 => ∃ (N m : Nat), n = .int .i64 N ∧ cn = .int .i64 m ∧ Hid (N = q + m ∧ N ≤ xd.length ∧ ((m : Int) ≤ cv ∨ m = 0)) ∧ w2 = wr.alloc (.cells #[.string xn, .slice B xd.length d, .int .i64 q] 25)) (fun n _ _ => xd.length - (intOf n).toNat)
        case atStart => exact ⟨q, 0, rfl, rfl, Lib.hid ⟨rfl, hqle, .inr rfl⟩, by first | trivial | rfl⟩
        case round =>
          obtain ⟨N, m, rfl, rfl, hinv, rfl⟩ := hrel
          obtain ⟨hNq, hNl, hmc⟩ := hinv.out
          by_cases hgo : (m : Int) < cv ∧ N < xd.length
          · obtain ⟨g1, g2⟩ := hgo
            have g3 : (N : Int) < xd.length := by omega
            go_wp2_with fail
            go_roundw
            case measure => simp [intOf]; omega
            case rel => exact ⟨N + 1, m + 1, by go_num, by go_num, Lib.hid ⟨by omega, by omega, .inl (by omega)⟩, by first | trivial | rfl⟩
          · have hst : stays ⟨xn, xd, q⟩ (some cv) = N := by unfold stays; simp only; omega
            have hN0 := hN00.out N hst
            replace hN0 := Lib.hid hN0
            clear hst
            by_cases g1 : (m : Int) < cv
            · have g3 : ¬ (N : Int) < xd.length := by omega
              clear hgo hmc hNq
              have i3 : (0 : Int) ≤ N := by omega
              have i4 : (N : Int) ≤ d := by omega
              have i5 : N ≤ d := by omega
              have hta := Lib.hid (fun O => (hBy.out.take N hNl).step (Same.alloc wr O _))
              go_wp2_with (at_builtin; refine wpList_append rfl _ _ 26 (by rfl) Tryz.underlying26 info_File rfl (by decide) (v := .slice VA k vc) (n := k) rfl ((hr0.out.alloc _).alloc _) (by rfl) (m := 1) (by rfl) (news := fileCells ⟨xn, xd.take N, N⟩ (.slice B N d)) (Cells.of_blk (heap_alloc_new2 wr _ _)) (fileCells_one ⟨xn, xd.take N, N⟩ (.slice B N d) rfl) (by omega) (by omega) (by simp; omega) ?_; intro v3 w3 s1 s2 s3)
              go_roundw
              case measure => simp [intOf]; omega
              case rel =>
                obtain ⟨p1, p2⟩ := (hFA.out _).append ⟨xn, xd.take N, N⟩ (by simp; omega) (fun k hk => hk.2) (hta.out _) _ (by rw [hLk1.out]; exact s1) s2
                refine ⟨k + 1, _, by omega, by go_num, by rw [htk.out, hN0.out]; exact p1, (hB.out.alloc (by omega) _).trans p2⟩
            · clear hgo hmc hNq
              have i3 : (0 : Int) ≤ N := by omega
              have i4 : (N : Int) ≤ d := by omega
              have i5 : N ≤ d := by omega
              have hta := Lib.hid (fun O => (hBy.out.take N hNl).step (Same.alloc wr O _))
              go_wp2_with (at_builtin; refine wpList_append rfl _ _ 26 (by rfl) Tryz.underlying26 info_File rfl (by decide) (v := .slice VA k vc) (n := k) rfl ((hr0.out.alloc _).alloc _) (by rfl) (m := 1) (by rfl) (news := fileCells ⟨xn, xd.take N, N⟩ (.slice B N d)) (Cells.of_blk (heap_alloc_new2 wr _ _)) (fileCells_one ⟨xn, xd.take N, N⟩ (.slice B N d) rfl) (by omega) (by omega) (by simp; omega) ?_; intro v3 w3 s1 s2 s3)
              go_roundw
              case measure => simp [intOf]; omega
              case rel =>
                obtain ⟨p1, p2⟩ := (hFA.out _).append ⟨xn, xd.take N, N⟩ (by simp; omega) (fun k hk => hk.2) (hta.out _) _ (by rw [hLk1.out]; exact s1) s2
                refine ⟨k + 1, _, by omega, by go_num, by rw [htk.out, hN0.out]; exact p1, (hB.out.alloc (by omega) _).trans p2⟩
      · have hnone : cuts[k]? = none := List.getElem?_eq_none (by omega)
        rw [hnone] at hN00 htk
        have hN0 := hN00.out q (by unfold stays; simp)
        replace hN0 := Lib.hid hN0
        obtain ⟨N, hNe⟩ : ∃ N, N = q := ⟨q, rfl⟩
        subst hNe
        have hNl := hqle
        clear hnone
        have i3 : (0 : Int) ≤ N := by omega
        have i4 : (N : Int) ≤ d := by omega
        have i5 : N ≤ d := by omega
        have hta := Lib.hid (fun O => (hBy.out.take N hNl).step (Same.alloc wr O _))
        go_wp2_with (at_builtin; refine wpList_append rfl _ _ 26 (by rfl) Tryz.underlying26 info_File rfl (by decide) (v := .slice VA k vc) (n := k) rfl ((hr0.out.alloc _).alloc _) (by rfl) (m := 1) (by rfl) (news := fileCells ⟨xn, xd.take N, N⟩ (.slice B N d)) (Cells.of_blk (heap_alloc_new2 wr _ _)) (fileCells_one ⟨xn, xd.take N, N⟩ (.slice B N d) rfl) (by omega) (by omega) (by simp; omega) ?_; intro v3 w3 s1 s2 s3)
        go_roundw
        case measure => simp [intOf]; omega
        case rel =>
          obtain ⟨p1, p2⟩ := (hFA.out _).append ⟨xn, xd.take N, N⟩ (by simp; omega) (fun k hk => hk.2) (hta.out _) _ (by rw [hLk1.out]; exact s1) s2
          refine ⟨k + 1, _, by omega, by go_num, by rw [htk.out, hN0.out]; exact p1, (hB.out.alloc (by omega) _).trans p2⟩
    · obtain rfl : k = l.length := by omega
      clear hlt
      replace hF := Lib.hid hF
      obtain ⟨VA, vc, hu5, _, _⟩ := own_form hF.out.2.1
      subst hu5
      go_wp2_with fail
      go_ret
      have := hF.out.rd
      rw [List.take_of_length_le (by omega)] at this ⊢
      exact ⟨_, _, _, rfl, this.mono (fun k hk _ => hk.imp (fun h => h.1) id), hB⟩
end Go.Proofs.YthnodmbenbiahaaGreatDoor
