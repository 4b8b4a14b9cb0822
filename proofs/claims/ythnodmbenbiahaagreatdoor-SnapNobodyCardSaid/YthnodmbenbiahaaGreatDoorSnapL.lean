/- The program's layer 8 (snap): Load. -/
import Derived.Test.YthnodmbenbiahaaGreatDoorHardC
import Derived.Test.YthnodmbenbiahaaGreatDoorReadAt
namespace Go.Proofs.YthnodmbenbiahaaGreatDoor
open Go.RowKit Go.Maps

theorem sDec_is {l : List UInt8} {s : SnapD} (h : sDec l = some s) :
    ∃ d n1 k1 n2 k2, fNext l = .ok (3, d, l.length) ∧ num d = some (n1, k1) ∧ n1 ≠ 0 ∧ num (d.drop k1) = some (n2, k2) ∧ d.length - k1 - k2 ≤ 32768 ∧ s = ⟨n1, n2, d.drop (k1 + k2)⟩ := by
  unfold sDec at h
  cases hf : fNext l with
  | error e => rw [hf] at h; cases h
  | ok x =>
    obtain ⟨k, d, m⟩ := x
    rw [hf] at h
    simp only at h
    split at h
    · rename_i hk
      obtain ⟨rfl, rfl⟩ := hk
      cases h1 : num d with
      | none => rw [h1] at h; cases h
      | some p =>
        obtain ⟨n1, k1⟩ := p
        rw [h1] at h
        simp only at h
        split at h
        · cases h
        · rename_i h0
          cases h2 : num (d.drop k1) with
          | none => rw [h2] at h; cases h
          | some p2 =>
            obtain ⟨n2, k2⟩ := p2
            rw [h2] at h
            simp only at h
            split at h
            · cases h
            · rename_i h3
              simp only [Option.some.injEq] at h
              exact ⟨d, n1, k1, n2, k2, rfl, h1, h0, h2, by omega, h.symm⟩
    · cases h
set_option maxRecDepth 100000 in
set_option maxHeartbeats 2000000 in
theorem sload_yes {w : World} {p : Nat} {ok : Nat → Prop} {m : List FileD} (hT : Tabs w) (hD : DiskAt w p ok m) (g : Int) (g0 : -9223372036854775808 ≤ g) (g1 : g ≤ 9223372036854775807) (hgi : nameIn g = true) {f : FileD} (hfd : fFind m (gName snapPre g) = some f) {s : SnapD} (hdc : sDec f.data = some s) {bs : List UInt8} (hbs : s.b = bs) :
    Calls Tryz.prog 34 #[.pointer (some ⟨p, 0, none⟩), .int .i64 g] w fun e w' => (∃ A' c', e = .returned (.tuple #[.int .u64 s.index, .int .u64 s.term, .slice A' bs.length c', .int .i64 0]) ∧ w'.ownsRow w.heap.size 5 1 (.slice A' bs.length c') bs.length (bs.map byteV)) ∧ Below w.heap.size w w' := by
  have hNs := gName_size (head := snapPre) rfl g g0 g1
  have hn := sname_at hT hD g g0 g1 hgi
  change Calls Tryz.prog 63 _ w (fun e w' => e = .returned (.tuple #[.string (gName snapPre g), .bool true]) ∧ Below w.heap.size w w') at hn
  generalize gName snapPre g = NM at *
  obtain ⟨d, n1, k1, n2, k2, hnx, hm1, h0, hm2, h3, rfl⟩ := sDec_is hdc
  have hN1 := rdNum_some (l := d) (p := 0) hm1
  have hN2 := rdNum_some (l := d) (p := 0 + k1) (by rw [Nat.zero_add]; exact hm2)
  obtain ⟨p1, hp1⟩ : ∃ p1, 0 + k1 = p1 := ⟨_, rfl⟩
  rw [hp1] at hN1 hN2
  obtain ⟨p2, hp2⟩ : ∃ p2, p1 + k2 = p2 := ⟨_, rfl⟩
  rw [hp2] at hN2
  have hp3 : k1 + k2 = p2 := by omega
  rw [hp3]
  obtain ⟨q, hq⟩ : ∃ q, q = d.length - p2 := ⟨_, rfl⟩
  have hq3 : q ≤ 32768 := by omega
  have i2 : ¬ (32768 : Int) < q := by omega
  have i3 : decide ((32768 : Int) < q) = false := decide_eq_false i2
  have hsz65 := (DiskAt.sz hD).1 f (lfind_some hfd).1
  have hok := fNext_ok hnx
  have hdl : d.length ≤ 1048576 := by omega
  have hT0 := Lib.hid hT
  have hD0 := Lib.hid hD
  have i0 : ¬ (n1 : Int) = 0 := by omega
  have i1 : ((n1 : Int) == 0) = false := by simpa using i0
  replace hnx := Lib.hid hnx
  replace hN1 := Lib.hid hN1
  replace hN2 := Lib.hid hN2
  clear hT hD hdc hm1 hm2 hok
  simp only at hbs ⊢
  have hbl : bs.length = q := by rw [← hbs, List.length_drop, hq, hp3]
  rw [hbl]
  rw [hp3] at hbs
  replace hbs := Lib.hid hbs
  replace hq := Lib.hid hq
  clear hp1 hp2 hp3 h3
  go_enter Tryz.func34, Tryz.ntmps34
  go_wp2_with fail
  refine hn.mono ?_
  clear hn
  rintro e wa ⟨rfl, hba⟩
  have hrd := read_some (hD0.out.step (Same.of_below hba ok)) NM (small_max (by omega)) hfd
  have hTa := Lib.hid (hT0.out.below hba)
  replace hba := Lib.hid hba
  clear hT0 hfd hD0
  go_wp2_with fail
  refine hrd.mono ?_
  clear hrd
  rintro e wb ⟨A1, c1, rfl, r1, hb1⟩
  have hfx := fnext_ok (hTa.out.below hb1).known (Reads.of_own (α := UInt8) (enc := byteV) r1) (by omega) hnx.out
  have hbB := Lib.hid (hba.out.trans (hb1.mono hba.out.size))
  clear hb1 r1 hba hTa
  go_wp2_with fail
  refine hfx.mono ?_
  clear hfx
  rintro e wc ⟨⟨A2, c2, rfl, r2⟩, hb2⟩
  have hrdr := wread_any r2 (by omega)
  have hbC := Lib.hid (hbB.out.trans (hb2.mono hbB.out.size))
  replace r2 : Hid (Bytes wc (fun k => k < wc.heap.size) (.slice A2 d.length c2) d) := Lib.hid (r2.mono (fun k _ hlt => hlt))
  clear hb2 hbB
  go_wp2_with fail
  refine hrdr.mono ?_
  clear hrdr
  rintro e w2 ⟨rb, rfl, hR, hrb, hb2⟩
  have hbD := Lib.hid (hbC.out.trans (hb2.mono hbC.out.size))
  replace r2 := Lib.hid (r2.out.step (Same.of_below hb2 _))
  have hc1 := wnum_any hR hN1.out
  have hrbw : w.heap.size ≤ rb := Nat.le_trans hbC.out.size hrb
  clear hR hb2 hbC
  go_wp2_with fail
  refine hc1.mono ?_
  clear hc1
  rintro e w3 ⟨rfl, hO1⟩
  have hc2 := wnum_any hO1.1 hN2.out
  replace hO1 := Lib.hid hO1
  go_wp2_with fail
  refine hc2.mono ?_
  clear hc2
  rintro e w4 ⟨rfl, hO2⟩
  have hO := hO1.out.more hO2
  have hp2d : p2 ≤ d.length := hO.1.le
  have hdq : d.length = p2 + q := by have := hq.out; omega
  have e1 : (d.length : Int) - q = p2 := by omega
  have h01 : (0 : Int) ≤ p2 := by omega
  have h02 : (p2 : Int) ≤ d.length := by omega
  have her := werr_any hO.1
  have hlf := wleft_any hO.1 hdq
  have hs0 := Lib.hid (r2.out.step (hO.2.part (fun k hk h1 => by omega)))
  replace hO := Lib.hid hO
  clear hO1 hO2 hN1 hN2 hdq
  go_wp2_with fail
  refine her.mono ?_
  clear her
  rintro e w5 ⟨rfl, rfl⟩
  go_wp2_with fail
  refine hlf.mono ?_
  clear hlf
  rintro e w6 ⟨rfl, hb6⟩
  have hbE := Lib.hid (((Kept.of_below hbD.out (fun _ => False)).trans hO.out.2 (fun k hk => .inr (by subst hk; exact hrbw))).to_below (fun _ hk => hk.elim))
  have hbF := Lib.hid (hbE.out.trans (hb6.mono hbE.out.size))
  have hlf := wleft_any (hO.out.1.below hb6) (n := q) (by have := hq.out; omega)
  have hs1 := Lib.hid (hs0.out.step (Same.of_below hb6 _))
  clear hO hs0 hbE hb6
  go_wp2_with fail
  refine hlf.mono ?_
  clear hlf
  rintro e w7 ⟨rfl, hb7⟩
  have hfr := (hs1.out.step (Same.of_below hb7 _)).from p2 hp2d
  rw [hbs.out] at hfr
  have hcl := clone_sl hfr (by have := hq.out; omega)
  have hbG := Lib.hid (hbF.out.trans (hb7.mono hbF.out.size))
  clear hs1 hb7 hbF
  have hlc : d.length ≤ c2 := by obtain ⟨A', c', e, h1, _⟩ := r2.out; injection e with e1 e2 e3; omega
  by_cases hcp : c2 = p2
  · rw [if_pos hcp] at hcl
    subst hcp
    rw [Nat.sub_self] at hcl
    clear hfr hlc
    go_wp2_with fail
    refine hcl.mono ?_
    clear hcl
    rintro e w8 ⟨A9, c9, rfl, r9, hb9⟩
    go_wp2_with fail
    ((try simp only [Exit.inBlock, Exit.then]); refine bodyPost_ret (results_tmp4 rfl _ _ _) rfl ?_)
    exact ⟨⟨A9, c9, by rw [hq.out]; rfl, by rw [hq.out]; exact own_lower r9 hbG.out.size⟩, hbG.out.trans (hb9.mono hbG.out.size)⟩
  · rw [if_neg hcp] at hcl
    clear hfr
    go_wp2_with fail
    refine hcl.mono ?_
    clear hcl
    rintro e w8 ⟨A9, c9, rfl, r9, hb9⟩
    go_wp2_with fail
    ((try simp only [Exit.inBlock, Exit.then]); refine bodyPost_ret (results_tmp4 rfl _ _ _) rfl ?_)
    exact ⟨⟨A9, c9, by rw [hq.out]; rfl, by rw [hq.out]; exact own_lower r9 hbG.out.size⟩, hbG.out.trans (hb9.mono hbG.out.size)⟩
end Go.Proofs.YthnodmbenbiahaaGreatDoor
