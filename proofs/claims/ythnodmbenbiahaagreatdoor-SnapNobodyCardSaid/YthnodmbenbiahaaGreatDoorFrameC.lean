import Derived.Test.YthnodmbenbiahaaGreatDoorFrameB
import Derived.Test.YthnodmbenbiahaaGreatDoorDiskD
import Derived.Test.YthnodmbenbiahaaGreatDoorOwnB
namespace Go.Proofs.YthnodmbenbiahaaGreatDoor
/- The program's layer 4 (frame): size. -/
section
open Go.RowKit Go.Maps

def szOf (b : List UInt8) : Nat × Nat × Int :=
  match num b with
  | some (v, n) => if v < 5 ∨ 1048576 < v then (0, 0, 5) else (v, n, 0)
  | none => if b.length ≤ 2 ∧ b.all (fun c => decide (128 ≤ c.toNat)) = true then (0, 0, 12) else (0, 0, 5)
theorem szOf_bad {b : List UInt8} (h : num b = none) (h2 : ¬ (b.length ≤ 2 ∧ b.all (fun c => decide (128 ≤ c.toNat)) = true)) : szOf b = (0, 0, 5) := by unfold szOf; rw [h]; exact if_neg h2
theorem szOf_gap {b : List UInt8} (h : num b = none) (h1 : b.length ≤ 2) (h2 : ∀ i, i < b.length → ∃ c, b[i]? = some c ∧ 128 ≤ c.toNat) : szOf b = (0, 0, 12) := by
  unfold szOf
  rw [h]
  refine if_pos ⟨h1, ?_⟩
  rw [List.all_eq_true]
  intro c hc
  obtain ⟨i, hi, rfl⟩ := List.mem_iff_getElem.1 hc
  obtain ⟨c, h3, h4⟩ := h2 i hi
  rw [List.getElem?_eq_getElem hi] at h3
  injection h3 with h3
  rw [h3]
  simpa using h4
theorem szOf_far {L : List UInt8} {acc : Nat} (h : NumAt L 3 acc) (hk : 3 < L.length) : szOf L = (0, 0, 5) := by
  have h1 := h.is
  cases hq : numFrom 3 (L.drop 3) with
  | none => rw [hq] at h1; exact szOf_bad h1 (by omega)
  | some q =>
    rw [hq] at h1
    have h2 := (numFrom_is _ 3 q.1 q.2 (by omega) (by rw [hq])).2.2.2.2 (by omega)
    unfold szOf
    rw [h1]
    simp only [Option.map_some]
    refine if_pos (.inr ?_)
    have : 2 ^ (7 * 3) * 1 ≤ 2 ^ (7 * 3) * q.1 := Nat.mul_le_mul_left _ h2
    have e : (2 : Nat) ^ (7 * 3) = 2097152 := by decide
    omega
theorem szOf_zero {L : List UInt8} {k : Nat} (hk : k < L.length) (h0 : L[k].toNat = 0) (hn : num L = none) : szOf L = (0, 0, 5) := by
  refine szOf_bad hn (fun h => ?_)
  have := List.all_eq_true.1 h.2 _ (List.getElem_mem hk)
  simp only [decide_eq_true_eq] at this
  omega
theorem gather_int {k acc y : Nat} (hy : y < 256) (hk : k ≤ 2) (h1 : acc < 2 ^ (7 * k)) :
    bits .or .i64 (acc : Int) (wrap64 (wrap64 (bits .and .u8 (y : Int) 127) * 2 ^ (7 * k))) = ((acc + 2 ^ (7 * k) * (y % 128) : Nat) : Int) := by
  rw [show (127 : Int) = ((127 : Nat) : Int) from rfl, u8_and_nat _ _ hy (by decide), nat_mask7]
  have h2 : 2 ^ (7 * k) ≤ 2 ^ 14 := Nat.pow_le_pow_right (by decide) (by omega)
  have h3 : 2 ^ (7 * k) * (y % 128) ≤ 2 ^ 14 * 127 := Nat.mul_le_mul h2 (by omega)
  have h14 : (2 : Nat) ^ 14 = 16384 := by decide
  rw [h14] at h2 h3
  have e1 : wrap64 ((y % 128 : Nat) : Int) = ((y % 128 : Nat) : Int) := by unfold wrap64; omega
  have e2 : ((y % 128 : Nat) : Int) * 2 ^ (7 * k) = ((2 ^ (7 * k) * (y % 128) : Nat) : Int) := by
    rw [Int.natCast_mul, Int.natCast_pow, Int.mul_comm]
    rfl
  rw [e1, e2]
  have hor := Nat.two_pow_add_eq_or_of_lt h1 (y % 128)
  generalize 2 ^ (7 * k) * (y % 128) = z at *
  have e3 : wrap64 (z : Int) = z := by unfold wrap64; omega
  rw [e3]
  show IntKind.i64.wrap ((BitVec.ofInt 64 (acc : Int) ||| BitVec.ofInt 64 (z : Int)).toNat : Int) = _
  rw [BitVec.toNat_or, ofInt_u64 acc (by omega), ofInt_u64 z (by omega), Nat.or_comm, ← hor, Nat.add_comm]
  exact IntWalk.i64_in _ (by omega)
set_option maxRecDepth 100000 in
set_option maxHeartbeats 1000000 in
theorem fsize_any {w : World} {ok : Nat → Prop} {A : Option Addr} {n c : Nat} {l : List UInt8} (hBy : Bytes w ok (.slice A n c) l) {v m : Nat} {e : Int} (hr : szOf l = (v, m, e)) :
    Calls Tryz.prog 125 #[.slice A n c] w fun e1 w' => e1 = .returned (.tuple #[.int .i64 v, .int .i64 m, .int .i64 e]) ∧ w = w' := by
  obtain rfl := hBy.len
  have hmx : l.length ≤ 9223372036854775807 := hBy.max
  replace hBy := Lib.hid hBy
  replace hr := Lib.hid hr
  go_enter Tryz.func125, Tryz.ntmps125
  go_wp2_with fail
  go_loop [2, 3, 9] (fun v j i => ∃ (k acc : Nat), i = .int .i64 k ∧ v = .int .i64 acc ∧ j = .int .i64 0 ∧ Hid (NumAt l k acc) ∧ k ≤ 3) (fun _ _ i => l.length - (intOf i).toNat)
  case atStart => exact ⟨0, 0, rfl, rfl, rfl, Lib.hid (NumAt.zero l), by omega⟩
  case round =>
    obtain ⟨k, acc, rfl, rfl, rfl, hN, hk3⟩ := hrel
    by_cases hlt : k < l.length
    · have i1 : (k : Int) < l.length := by omega
      have i2 : (0 : Int) ≤ k := by omega
      obtain ⟨b, o, rfl, _, q0⟩ := hBy.out.get k hlt
      have hbad := hN.out.bad hlt
      have hdone := hN.out.done hlt
      have hnext := hN.out.next hlt
      have hx := l[k].toNat_lt
      change w.cell? ⟨b, o + k, none⟩ = some (.int .u8 (l[k].toNat : Int)) at q0
      have hz := szOf_zero hlt
      generalize l[k].toNat = y at *
      by_cases h3 : k = 3
      · subst h3
        have e0 := szOf_far hN.out hlt
        rw [hr.out] at e0
        simp only [Prod.mk.injEq] at e0
        obtain ⟨rfl, rfl, rfl⟩ := e0
        clear hbad hdone hnext hz hr
        go_wp2_with fail
        go_ret3
        exact ⟨rfl, rfl⟩
      · have j1 : ¬ (k : Int) = 3 := by omega
        have jb1 : ((k : Int) == 3) = false := by simpa using j1
        by_cases hb : y = 0 ∧ 0 < k
        · obtain ⟨rfl, hk0⟩ := hb
          have e0 := hz rfl (hbad (.inr ⟨rfl, hk0⟩))
          rw [hr.out] at e0
          simp only [Prod.mk.injEq] at e0
          obtain ⟨rfl, rfl, rfl⟩ := e0
          have j2 : (0 : Int) < k := by omega
          clear hbad hdone hnext hz hr
          go_wp2_with fail
          go_ret3
          exact ⟨rfl, rfl⟩
        · have hg := gather_int (k := k) (y := y) hx (by omega) hN.out.lt
          have hnb : ¬ ((k = 9 ∧ 1 < y) ∨ (y = 0 ∧ 0 < k)) := by omega
          by_cases h1 : y < 128
          · have e0 := hdone hnb h1
            have hsz : szOf l = if acc + 2 ^ (7 * k) * y < 5 ∨ 1048576 < acc + 2 ^ (7 * k) * y then (0, 0, 5) else (acc + 2 ^ (7 * k) * y, k + 1, 0) := by unfold szOf; rw [e0]
            rw [Nat.mod_eq_of_lt h1] at hg
            rw [hr.out] at hsz
            generalize acc + 2 ^ (7 * k) * y = q at *
            have j3 : (y : Int) < 128 := by omega
            have j4 : ¬ ((k : Int) + 1) = 0 := by omega
            clear hbad hdone hnext hz hr e0 hnb
            by_cases hy0 : y = 0
            · have hk0 : ¬ (0 : Int) < k := by omega
              subst hy0
              change bits .or .i64 (acc : Int) (wrap64 (wrap64 (bits .and .u8 0 127) * 2 ^ (7 * k))) = (q : Int) at hg
              · by_cases t1 : q < 5
                · rw [if_pos (.inl t1)] at hsz
                  simp only [Prod.mk.injEq] at hsz
                  obtain ⟨rfl, rfl, rfl⟩ := hsz
                  have j5 : (q : Int) < 5 := by omega
                  go_wp2_with fail
                  all_goals (go_ret3; exact ⟨rfl, rfl⟩)
                · by_cases t2 : 1048576 < q
                  · rw [if_pos (.inr t2)] at hsz
                    simp only [Prod.mk.injEq] at hsz
                    obtain ⟨rfl, rfl, rfl⟩ := hsz
                    have j5 : ¬ (q : Int) < 5 := by omega
                    have j6 : (1048576 : Int) < q := by omega
                    go_wp2_with fail
                    all_goals (go_ret3; exact ⟨rfl, rfl⟩)
                  · rw [if_neg (by omega)] at hsz
                    simp only [Prod.mk.injEq] at hsz
                    obtain ⟨rfl, rfl, rfl⟩ := hsz
                    have j5 : ¬ (v : Int) < 5 := by omega
                    have j6 : ¬ (1048576 : Int) < v := by omega
                    go_wp2_with fail
                    all_goals (go_ret3; exact ⟨rfl, rfl⟩)
            · have j2 : ¬ (y : Int) = 0 := by omega
              have jb2 : ((y : Int) == 0) = false := by simpa using j2
              · by_cases t1 : q < 5
                · rw [if_pos (.inl t1)] at hsz
                  simp only [Prod.mk.injEq] at hsz
                  obtain ⟨rfl, rfl, rfl⟩ := hsz
                  have j5 : (q : Int) < 5 := by omega
                  go_wp2_with fail
                  all_goals (go_ret3; exact ⟨rfl, rfl⟩)
                · by_cases t2 : 1048576 < q
                  · rw [if_pos (.inr t2)] at hsz
                    simp only [Prod.mk.injEq] at hsz
                    obtain ⟨rfl, rfl, rfl⟩ := hsz
                    have j5 : ¬ (q : Int) < 5 := by omega
                    have j6 : (1048576 : Int) < q := by omega
                    go_wp2_with fail
                    all_goals (go_ret3; exact ⟨rfl, rfl⟩)
                  · rw [if_neg (by omega)] at hsz
                    simp only [Prod.mk.injEq] at hsz
                    obtain ⟨rfl, rfl, rfl⟩ := hsz
                    have j5 : ¬ (v : Int) < 5 := by omega
                    have j6 : ¬ (1048576 : Int) < v := by omega
                    go_wp2_with fail
                    all_goals (go_ret3; exact ⟨rfl, rfl⟩)
          · have j2 : ¬ (y : Int) = 0 := by omega
            have jb2 : ((y : Int) == 0) = false := by simpa using j2
            have j3 : ¬ (y : Int) < 128 := by omega
            have hn := Lib.hid (hnext hnb h1)
            generalize acc + 2 ^ (7 * k) * (y % 128) = q at *
            clear hbad hdone hnext hz hb hnb
            by_cases hk0 : (0 : Int) < k
            · go_wp2_with fail
              go_round
              case measure => simp [intOf]; omega
              case rel => exact ⟨k + 1, q, by go_num, rfl, rfl, hn, by omega⟩
            · go_wp2_with fail
              go_round
              case measure => simp [intOf]; omega
              case rel => exact ⟨k + 1, q, by go_num, rfl, rfl, hn, by omega⟩
    · obtain rfl : k = l.length := by have := hN.out.len; omega
      have e0 := hN.out.ends (Nat.le_refl _)
      by_cases h3 : l.length ≤ 2
      · have e1 := szOf_gap e0 h3 hN.out.big
        rw [hr.out] at e1
        simp only [Prod.mk.injEq] at e1
        obtain ⟨rfl, rfl, rfl⟩ := e1
        have j1 : (l.length : Int) < 3 := by omega
        clear hr e0
        go_wp2_with fail
        go_ret3
        exact ⟨rfl, rfl⟩
      · have e1 := szOf_bad e0 (by omega)
        rw [hr.out] at e1
        simp only [Prod.mk.injEq] at e1
        obtain ⟨rfl, rfl, rfl⟩ := e1
        have j1 : ¬ (l.length : Int) < 3 := by omega
        clear hr e0
        go_wp2_with fail
        go_ret3
        exact ⟨rfl, rfl⟩
end
/- The program's layer 4 (frame): Next. -/
section
open Go.RowKit Go.Maps

theorem fNext_sz (l : List UInt8) : fNext l = if (szOf l).2.2 = 0 then (if l.length - (szOf l).2.1 < (szOf l).1 then .error 12 else if sealed (((l.drop (szOf l).2.1).take (szOf l).1).drop 4) = (l.drop (szOf l).2.1).take (szOf l).1 then .ok (((((l.drop (szOf l).2.1).take (szOf l).1)[4]?).getD 0), ((l.drop (szOf l).2.1).take (szOf l).1).drop 5, (szOf l).2.1 + (szOf l).1) else .error 5) else .error (szOf l).2.2 := by
  unfold fNext szOf
  cases h : num l with
  | none =>
    simp only
    split
    · simp
    · simp
  | some p =>
    obtain ⟨v, n⟩ := p
    simp only
    split
    · simp
    · simp
theorem szOf_fit {l : List UInt8} {v n : Nat} (h : szOf l = (v, n, 0)) : 5 ≤ v ∧ v ≤ 1048576 ∧ n ≤ l.length := by
  unfold szOf at h
  cases hn : num l with
  | none => rw [hn] at h; simp only at h; split at h <;> simp at h
  | some p =>
    obtain ⟨a, b⟩ := p
    rw [hn] at h
    simp only at h
    split at h
    · simp at h
    · simp only [Prod.mk.injEq, and_true] at h
      obtain ⟨rfl, rfl⟩ := h
      have := (num_is hn).2.2.1
      omega
theorem szOf_zeros {l : List UInt8} {v n : Nat} {e : Int} (h : szOf l = (v, n, e)) (he : e ≠ 0) : v = 0 ∧ n = 0 := by
  unfold szOf at h
  cases hn : num l with
  | none => rw [hn] at h; simp only at h; split at h <;> simp at h <;> exact ⟨h.1.symm, h.2.1.symm⟩
  | some p =>
    rw [hn] at h
    simp only at h
    split at h
    · simp at h; exact ⟨h.1.symm, h.2.1.symm⟩
    · simp at h; exact absurd h.2.2.symm he
theorem results_tmp4 {fn : Func} {t u v x : Tmp} (h : fn.results = #[.tmp t, .tmp u, .tmp v, .tmp x]) (tmps : Array Value) (P : Program) (w : World) :
    (results fn tmps).run P w = .ok (.tuple #[tmps.getD t undef, tmps.getD u undef, tmps.getD v undef, tmps.getD x undef]) w := by
  simp [results, h]
set_option maxRecDepth 100000 in
set_option maxHeartbeats 1000000 in
theorem fnext_err {w : World} {ok : Nat → Prop} {A : Option Addr} {n c : Nat} {l : List UInt8} (hK : Known w) (hBy : Bytes w ok (.slice A n c) l) (hl : n ≤ 1000000000) {e : Int} (hr : fNext l = .error e) :
    Calls Tryz.prog 75 #[.slice A n c] w fun e1 w' => e1 = .returned (.tuple #[.int .u8 0, .slice none 0 0, .int .i64 0, .int .i64 e]) ∧ Below w.heap.size w w' := by
  rw [fNext_sz] at hr
  obtain rfl := hBy.len
  have hlc : l.length ≤ c := by obtain ⟨A', c', e, h1, _⟩ := hBy; injection e with e1 e2 e3; omega
  generalize hs : szOf l = q at *
  obtain ⟨v, m, e1⟩ := q
  have hsz := fsize_any hBy hs
  simp only at hr
  by_cases he : e1 = 0
  · subst he
    rw [if_pos rfl] at hr
    obtain ⟨h5, hv, hm⟩ := szOf_fit hs
    clear hs
    by_cases hgap : l.length - m < v
    · rw [if_pos hgap] at hr
      simp only [Except.error.injEq] at hr
      subst hr
      have j1 : (l.length : Int) - m < v := by omega
      clear hgap
      go_enter Tryz.func75, Tryz.ntmps75
      go_wp2_with fail
      refine hsz.mono ?_
      clear hsz
      rintro e w' ⟨rfl, rfl⟩
      go_wp2_with fail
      ((try simp only [Exit.inBlock, Exit.then]); refine bodyPost_ret (results_tmp4 rfl _ _ _) rfl ?_)
      exact ⟨rfl, Below.refl _ _⟩
    · rw [if_neg hgap] at hr
      have hR := ((hBy.drop m hm).take v (by omega))
      generalize hB : (l.drop m).take v = B at *
      have hBl : B.length = v := by rw [← hB, List.length_take, List.length_drop]; omega
      split at hr
      · cases hr
      rename_i hse
      simp only [Except.error.injEq] at hr
      subst hr
      have hop := copen_no hK hR h5 (by omega) hse
      have j1 : ¬ (l.length : Int) - m < v := by omega
      have j2 : ¬ c = m := by omega
      have j3 : (m : Int) + v ≤ 9223372036854775807 := by omega
      have j4 : (m : Int) + v ≤ c := by omega
      clear hse hB hBl hR hgap hBy hK
      go_enter Tryz.func75, Tryz.ntmps75
      go_wp2_with fail
      refine hsz.mono ?_
      clear hsz
      rintro e w' ⟨rfl, rfl⟩
      go_wp2_with fail
      refine hop.mono ?_
      clear hop
      rintro e w1 ⟨rfl, hb⟩
      go_wp2_with fail
      ((try simp only [Exit.inBlock, Exit.then]); refine bodyPost_ret (results_tmp4 rfl _ _ _) rfl ?_)
      exact ⟨rfl, hb⟩
  · rw [if_neg he] at hr
    simp only [Except.error.injEq] at hr
    subst hr
    obtain ⟨rfl, rfl⟩ := szOf_zeros hs he
    clear hs
    go_enter Tryz.func75, Tryz.ntmps75
    go_wp2_with fail
    refine hsz.mono ?_
    clear hsz
    rintro e w' ⟨rfl, rfl⟩
    go_wp2_with fail
    ((try simp only [Exit.inBlock, Exit.then]); refine bodyPost_ret (results_tmp4 rfl _ _ _) rfl ?_)
    exact ⟨rfl, Below.refl _ _⟩
theorem Reads.capped {α : Type} {enc : α → Value} {w : World} {ok : Nat → Prop} {A : Option Addr} {n c c' : Nat} {xs : List α} (h : Reads enc w ok (.slice A n c) xs) (hc : n ≤ c') : Reads enc w ok (.slice A n c') xs := by
  obtain ⟨A', d, e, h1, h2, h3⟩ := h
  injection e with e1 e2 e3
  subst e1 e2
  exact ⟨A, c', rfl, hc, h2, h3⟩
set_option maxRecDepth 100000 in
set_option maxHeartbeats 1000000 in
theorem fnext_ok {w : World} {ok : Nat → Prop} {A : Option Addr} {n c : Nat} {l : List UInt8} (hK : Known w) (hBy : Bytes w ok (.slice A n c) l) (hl : n ≤ 1000000000) {kind : UInt8} {d : List UInt8} {m : Nat} (hr : fNext l = .ok (kind, d, m)) :
    Calls Tryz.prog 75 #[.slice A n c] w fun e1 w' => (∃ A' c', e1 = .returned (.tuple #[.int .u8 kind.toNat, .slice A' d.length c', .int .i64 m, .int .i64 0]) ∧ Bytes w' (fun k => w.heap.size ≤ k) (.slice A' d.length c') d) ∧ Below w.heap.size w w' := by
  rw [fNext_sz] at hr
  obtain rfl := hBy.len
  have hlc : l.length ≤ c := by obtain ⟨A', c', e, h1, _⟩ := hBy; injection e with e1 e2 e3; omega
  generalize hs : szOf l = q at *
  obtain ⟨v, j, e1⟩ := q
  have hsz := fsize_any hBy hs
  simp only at hr
  split at hr
  · rename_i he
    subst he
    obtain ⟨h5, hv, hm⟩ := szOf_fit hs
    clear hs
    split at hr
    · cases hr
    rename_i hgap
    have hR := ((hBy.drop j hm).take v (by omega))
    generalize hB : (l.drop j).take v = B at *
    have hBl : B.length = v := by rw [← hB, List.length_take, List.length_drop]; omega
    split at hr
    · rename_i hse
      simp only [Except.ok.injEq, Prod.mk.injEq] at hr
      obtain ⟨hk, hd, rfl⟩ := hr
      have hop := copen_yes hK hR h5 (by omega) hse
      have hB4 : B.drop 4 = kind :: d := by
        rw [List.drop_eq_getElem_cons (by omega), hd]
        rw [List.getElem?_eq_getElem (by omega)] at hk
        simp only [Option.getD_some] at hk
        rw [hk]
      have hN : v - 4 = d.length + 1 := by rw [← hd, List.length_drop]; omega
      rw [hB4] at hop
      generalize v - 4 = N at *
      have j1 : ¬ (l.length : Int) - j < v := by omega
      have j2 : ¬ c = j := by omega
      have j3 : (j : Int) + v ≤ 9223372036854775807 := by omega
      have j4 : (j : Int) + v ≤ c := by omega
      replace hN := Lib.hid hN
      clear hse hB hBl hR hgap hBy hK hk hd hB4
      go_enter Tryz.func75, Tryz.ntmps75
      go_wp2_with fail
      refine hsz.mono ?_
      clear hsz
      rintro e w' ⟨rfl, rfl⟩
      go_wp2_with fail
      refine hop.mono ?_
      clear hop
      rintro e w1 ⟨⟨A1, c1, rfl, r1⟩, hb⟩
      obtain ⟨g, c2, hform, hg, _⟩ := own_some r1 (by have := hN.out; omega)
      injection hform with f1 f2 f3
      subst f1 f3
      have hrd : Bytes w1 (fun k => w.heap.size ≤ k) (.slice (some ⟨g, 0, none⟩) N c1) (kind :: d) := by
        have h1 := r1
        rw [hN.out] at h1 ⊢
        exact (Reads.of_own (α := UInt8) (enc := byteV) (xs := kind :: d) (by simpa using h1)).mono (fun k hk _ => own_base h1 k hk)
      have hfr := (hrd.capped (Nat.le_refl _)).from 1 (by have := hN.out; omega)
      have q0 : w1.cell? ⟨g, 0, none⟩ = some (.int .u8 (kind.toNat : Int)) := by
        obtain ⟨b, o, e, _, hq⟩ := hrd.get 0 (by simp)
        injection e with e
        injection e with e1 e2 e3
        subst e1 e2
        exact hq
      have k1 : (0 : Int) < N := by have := hN.out; omega
      have k2 : (1 : Int) ≤ N := by have := hN.out; omega
      have k3 : N - 1 = d.length := by have := hN.out; omega
      have k4 : N ≤ c1 := by obtain ⟨A', c', e, h1, _⟩ := hrd; injection e with e1 e2 e3; omega
      have k5 : (N : Int) ≤ c1 := by omega
      rw [k3] at hfr
      clear r1 hrd
      by_cases hN1 : N = 1
      · subst hN1
        have hd0 : d = [] := List.eq_nil_of_length_eq_zero (by omega)
        subst hd0
        clear hfr k3 hN
        go_wp2_with fail
        go_quiet (fail)
        go_wp2_with fail
        ((try simp only [Exit.inBlock, Exit.then]); refine bodyPost_ret (results_tmp4 rfl _ _ _) rfl ?_)
        exact ⟨⟨_, _, rfl, Reads.none_at _ _ _ _ _ rfl⟩, ⟨hb.os, hb.tape, hb.output, hb.size, hb.block⟩⟩
      · have hfr1 := fun m => hfr.step (Same.drewN w1 m _)
        rw [if_neg hN1] at hfr1
        replace hfr1 := Lib.hid hfr1
        clear hfr
        replace k3 := Lib.hid k3
        go_wp2_with fail
        go_quiet (fail)
        go_wp2_with fail
        ((try simp only [Exit.inBlock, Exit.then]); refine bodyPost_ret (results_tmp4 rfl _ _ _) rfl ?_)
        refine ⟨⟨_, _, ?_, hfr1.out nq⟩, ⟨hb.os, hb.tape, hb.output, hb.size, hb.block⟩⟩
        rw [← k3.out]
        simp
        rfl
    · cases hr
  · cases hr
end
end Go.Proofs.YthnodmbenbiahaaGreatDoor
