import Derived.Test.YthnodmbenbiahaaGreatDoorWire
import Derived.Test.YthnodmbenbiahaaGreatDoorNum
namespace Go.Proofs.YthnodmbenbiahaaGreatDoor
/- The program's layer 2 (wire): a reader in memory, and its calls. -/
section
open Go.RowKit Go.Maps

/-- Block rb is a reader (a struct of type t) over the bytes l, at p, with e wrong first; its bytes lie in ok. -/
structure RdAt (t : TypeId) (w : World) (ok : Nat → Prop) (rb : Nat) (l : List UInt8) (p : Nat) (e : Int) : Prop where
  blk : ∃ v, w.heap[rb]? = some (.cells #[v, .int .i64 p, .int .i64 e] t (0, 0)) ∧ Bytes w ok v l
  no : ¬ ok rb
  le : p ≤ l.length
section
variable {t : TypeId} {w w' : World} {ok : Nat → Prop} {rb p : Nat} {l : List UInt8} {e : Int}
theorem RdAt.step (h : RdAt t w ok rb l p e) {ok' : Nat → Prop} (hs : Same w w' ok') (h1 : ok' rb) (h2 : ∀ k, ok k → ok' k) : RdAt t w' ok rb l p e := by
  obtain ⟨⟨v, hb, hr⟩, h3, h4⟩ := h
  exact ⟨⟨v, hs.blk h1 hb, hr.step (hs.mono h2)⟩, h3, h4⟩
theorem RdAt.below (h : RdAt t w ok rb l p e) (hb : Below w.heap.size w w') : RdAt t w' ok rb l p e := h.step (Same.of_below hb (fun _ => True)) trivial (fun _ _ => trivial)
theorem RdAt.setAt (h : RdAt t w ok rb l p e) (p' : Nat) (hp : p' ≤ l.length) : RdAt t (w.setCell ⟨rb, 1, none⟩ (.int .i64 p')) ok rb l p' e := by
  obtain ⟨⟨v, hb, hr⟩, h3, _⟩ := h
  refine ⟨⟨v, ?_, hr.step (Same.setCell w ⟨rb, 1, none⟩ _ (fun k hk (e : k = rb) => h3 (e ▸ hk)))⟩, h3, hp⟩
  have := set_blk hb 1 (.int .i64 p')
  simpa using this
theorem RdAt.setErr (h : RdAt t w ok rb l p e) (e' : Int) : RdAt t (w.setCell ⟨rb, 2, none⟩ (.int .i64 e')) ok rb l p e' := by
  obtain ⟨⟨v, hb, hr⟩, h3, h4⟩ := h
  refine ⟨⟨v, ?_, hr.step (Same.setCell w ⟨rb, 2, none⟩ _ (fun k hk (e : k = rb) => h3 (e ▸ hk)))⟩, h3, h4⟩
  have := set_blk hb 2 (.int .i64 e')
  simpa using this
theorem RdAt.cells (h : RdAt t w ok rb l p e) : ∃ A c, w.cell? ⟨rb, 0, none⟩ = some (.slice A l.length c) ∧ w.cell? ⟨rb, 1, none⟩ = some (.int .i64 p) ∧ w.cell? ⟨rb, 2, none⟩ = some (.int .i64 e) ∧
    w.frozen? ⟨rb, 1, none⟩ = false ∧ w.frozen? ⟨rb, 2, none⟩ = false ∧ l.length ≤ c ∧ l.length ≤ maxLen ∧ Bytes w ok (.slice A l.length c) l := by
  obtain ⟨⟨v, hb, hr⟩, _, _⟩ := h
  obtain ⟨A, c, rfl, hc⟩ := hr.form
  exact ⟨A, c, cell_blk hb 0, cell_blk hb 1, cell_blk hb 2, frozen_blk hb 1, frozen_blk hb 2, hc, hr.max, hr⟩
theorem RdAt.lt (h : RdAt t w ok rb l p e) : rb < w.heap.size := by
  obtain ⟨⟨v, hb, _⟩, _⟩ := h
  exact (Array.getElem?_eq_some_iff.1 hb).1
end
theorem Reads.drop {α : Type} {enc : α → Value} {w : World} {ok : Nat → Prop} {A : Option Addr} {n c : Nat} {xs : List α} (h : Reads enc w ok (.slice A n c) xs) (p : Nat) (hp : p ≤ n) : Reads enc w ok (.slice (A.map fun x => x.add p) (n - p) (c - p)) (xs.drop p) := by
  obtain ⟨A', c', e, h1, h2, h3⟩ := h
  injection e with e1 e2 e3
  subst e1 e2 e3
  refine ⟨_, _, by rw [List.length_drop], by rw [List.length_drop]; omega, by rw [List.length_drop]; omega, ?_⟩
  by_cases hne : xs.drop p = []
  · rw [hne]; exact Cells.empty _ _ _
  · have hx : xs.map enc ≠ [] := fun e => by rw [List.map_eq_nil_iff] at e; subst e; simp at hne
    obtain ⟨b, o, rfl, hk, hc⟩ := h3 hx
    have h3' : Cells w ok (some ⟨b, o, none⟩) (xs.map enc) := h3
    have := Cells.part (k := p) (ds := (xs.drop p).map enc) h3' (fun j u hj => by rw [← hj, List.map_drop, List.getElem?_drop])
    simpa [Addr.add_lit] using this
theorem Reads.none_at {α : Type} (enc : α → Value) (w : World) (ok : Nat → Prop) (A : Option Addr) {xs : List α} (c : Nat) (h : xs = []) : Reads enc w ok (.slice A 0 c) xs := by
  subst h
  exact ⟨A, c, rfl, Nat.zero_le _, Nat.zero_le _, Cells.empty _ _ _⟩
/-- x[p:], as the walk writes it. -/
theorem Reads.from {α : Type} {enc : α → Value} {w : World} {ok : Nat → Prop} {A : Option Addr} {n c : Nat} {xs : List α} (h : Reads enc w ok (.slice A n c) xs) (p : Nat) (hp : p ≤ n) : Reads enc w ok (.slice (if c = p then A else A.map fun x => x.add p) (n - p) (c - p)) (xs.drop p) := by
  by_cases hc : c = p
  · rw [if_pos hc]
    have hlc : n ≤ c := by obtain ⟨A', c', e, h1, _⟩ := h; injection e with e1 e2 e3; omega
    have e0 : n - p = 0 := by omega
    rw [e0]
    exact Reads.none_at _ _ _ _ _ (List.drop_eq_nil_of_le (by have := h.len; omega))
  · rw [if_neg hc]
    exact h.drop p hp
set_option maxRecDepth 100000 in
theorem wfine_any {w : World} {ok : Nat → Prop} {rb p : Nat} {l : List UInt8} {e : Int} (h : RdAt 199 w ok rb l p e) :
    Calls Tryz.prog 127 #[.pointer (some ⟨rb, 0, none⟩)] w fun e1 w' => e1 = .returned (.bool (decide (e = 0))) ∧ w = w' := by
  obtain ⟨A, c, c0, c1, c2, f1, f2, _, _, _⟩ := h.cells
  clear h
  go_enter Tryz.func127, Tryz.ntmps127
  go_wp2_with fail
  go_ret
  exact ⟨by first | rfl | simp, rfl⟩
set_option maxRecDepth 100000 in
theorem wfail_any {w : World} {ok : Nat → Prop} {rb p : Nat} {l : List UInt8} {e : Int} (h : RdAt 199 w ok rb l p e) (e' : Int) (he : e = 0) :
    Calls Tryz.prog 129 #[.pointer (some ⟨rb, 0, none⟩), .int .i64 e'] w fun e1 w' => e1 = .returned (.tuple #[]) ∧ RdAt 199 w' ok rb l p e' ∧ Kept w w' (fun k => k = rb) := by
  obtain ⟨A, c, c0, c1, c2, f1, f2, _, _, _⟩ := h.cells
  subst he
  have hE := Lib.hid (h.setErr e')
  have hK := Lib.hid ((Kept.refl w (fun k => k = rb)).setCell (a := ⟨rb, 2, none⟩) (.inl rfl) (.int .i64 e'))
  clear h
  go_enter Tryz.func129, Tryz.ntmps129
  go_wp2_with fail
  go_end0
  exact ⟨rfl, hE.out, hK.out⟩
set_option maxRecDepth 100000 in
set_option maxHeartbeats 1000000 in
theorem wpeek_any {w : World} {ok : Nat → Prop} {rb p : Nat} {l : List UInt8} {e : Int} (h : RdAt 199 w ok rb l p e) {r : Nat × Nat} (hr : r = (num (l.drop p)).getD (0, 0)) :
    Calls Tryz.prog 128 #[.pointer (some ⟨rb, 0, none⟩)] w fun e1 w' => e1 = .returned (.tuple #[.int .u64 r.1, .int .i64 r.2]) ∧ Below w.heap.size w w' := by
  obtain ⟨A, c, c0, c1, c2, f1, f2, hlc, hmax, hB⟩ := h.cells
  have hp := h.le
  clear h
  have hpi : (p : Int) ≤ l.length := by omega
  have hp0 : (0 : Int) ≤ p := by omega
  replace hB := Lib.hid hB
  go_enter Tryz.func128, Tryz.ntmps128
  go_wp2_with fail
  have hD : l.length - p = (l.drop p).length := (List.length_drop ..).symm
  have hBv := hB.out.from p hp
  rw [hD] at hBv
  replace hD := Lib.hid hD
  replace hBv := Lib.hid hBv
  replace hr := Lib.hid hr
  go_quiet (fail)
  rw [hD.out]
  clear hD
  generalize l.drop p = D at *
  generalize (if c = p then A else A.map fun x => x.add p) = V at *
  generalize c - p = d at *
  have hmx : D.length ≤ 9223372036854775807 := hBv.out.max
  replace hBv := Lib.hid (hBv.out.step (Same.drewN w nq ok))
  have hbW : Below w.heap.size w (w.drewN nq) := ⟨rfl, rfl, rfl, Nat.le_refl _, fun _ _ => rfl⟩
  generalize w.drewN nq = W at *
  go_wp2_with fail
  go_loop [4, 17] (fun v i => ∃ (k acc : Nat), i = .int .i64 k ∧ v = .int .u64 acc ∧ Hid (NumAt D k acc)) (fun _ i => D.length - (intOf i).toNat)
  case atStart => exact ⟨0, 0, rfl, rfl, Lib.hid (NumAt.zero D)⟩
  case round =>
    obtain ⟨k, acc, rfl, rfl, hN⟩ := hrel
    have hk9 := hN.out.le
    by_cases hlt : k < D.length
    · have i1 : (k : Int) < D.length := by omega
      have i2 : (0 : Int) ≤ k := by omega
      obtain ⟨b, o, rfl, _, q0⟩ := hBv.out.get k hlt
      have hbad := hN.out.bad hlt
      have hdone := hN.out.done hlt
      have hnext := hN.out.next hlt
      have hfits := hN.out.fits hlt
      have hor := hN.out.or (D[k].toNat % 128)
      have hx := D[k].toNat_lt
      change W.cell? ⟨b, o + k, none⟩ = some (.int .u8 (D[k].toNat : Int)) at q0
      generalize D[k].toNat = y at *
      by_cases h9 : k = 9
      · subst h9
        by_cases h1 : 1 < y
        · have e0 := hbad (.inl ⟨rfl, h1⟩)
          have hr0 : r = (0, 0) := by rw [hr.out, e0]; rfl
          subst hr0
          clear hr e0 hbad hdone hnext hfits hor
          go_wp2_with fail
          go_ret2
          exact ⟨rfl, hbW⟩
        · by_cases h0 : y = 0
          · have e0 := hbad (.inr ⟨h0, by omega⟩)
            have hr0 : r = (0, 0) := by rw [hr.out, e0]; rfl
            subst hr0 h0
            clear hr e0 hbad hdone hnext hfits hor
            go_wp2_with fail
            go_ret2
            exact ⟨rfl, hbW⟩
          · obtain rfl : y = 1 := by omega
            have e0 := hdone (by omega) (by omega)
            obtain ⟨f1', f2'⟩ := hfits (by omega)
            have hg := gather (k := 9) (y := 1) (by decide) hN.out.lt f1' f2'
            rw [show ((2 : Int) ^ (7 * 9)) = 9223372036854775808 by decide] at hg
            have hr0 : r = (acc + 2 ^ (7 * 9) * (1 % 128), 10) := by rw [hr.out, e0]; rfl
            generalize acc + 2 ^ (7 * 9) * (1 % 128) = q at *
            subst hr0
            clear hr e0 hbad hdone hnext hfits hor f1' f2'
            change bits .or .u64 (acc : Int) (IntKind.u64.wrap (IntKind.u64.wrap (bits .and .u8 1 127) * 9223372036854775808)) = (q : Int) at hg
            go_wp2_with fail
            go_ret2
            exact ⟨rfl, hbW⟩
      · have j1 : ¬ (k : Int) = 9 := by omega
        by_cases h1 : y < 128
        · by_cases hb : y = 0 ∧ 0 < k
          · obtain ⟨rfl, hk0⟩ := hb
            have e0 := hbad (.inr ⟨rfl, hk0⟩)
            have hr0 : r = (0, 0) := by rw [hr.out, e0]; rfl
            have j2 : (0 : Int) < k := by omega
            subst hr0
            clear hr e0 hbad hdone hnext hfits hor
            go_wp2_with fail
            go_ret2
            exact ⟨rfl, hbW⟩
          · have e0 := hdone (by omega) h1
            obtain ⟨f1', f2'⟩ := hfits (by omega)
            have hg := gather (k := k) (y := y) (by omega) hN.out.lt f1' f2'
            rw [Nat.mod_eq_of_lt h1] at hg
            have hr0 : r = (acc + 2 ^ (7 * k) * y, k + 1) := by rw [hr.out, e0]; rfl
            generalize acc + 2 ^ (7 * k) * y = q at *
            have j3 : (y : Int) < 128 := by omega
            subst hr0
            clear hr e0 hbad hdone hnext hfits hor f1' f2'
            by_cases h0 : y = 0
            · have hk0 : ¬ (0 : Int) < k := by omega
              subst h0
              change bits .or .u64 (acc : Int) (IntKind.u64.wrap (IntKind.u64.wrap (bits .and .u8 0 127) * 2 ^ (7 * k))) = (q : Int) at hg
              go_wp2_with fail
              go_ret2
              exact ⟨rfl, hbW⟩
            · have j2 : ¬ (y : Int) = 0 := by omega
              go_wp2_with fail
              go_ret2
              exact ⟨rfl, hbW⟩
        · have j2 : ¬ (y : Int) = 0 := by omega
          have j3 : ¬ (y : Int) < 128 := by omega
          obtain ⟨f1', f2'⟩ := hfits (by omega)
          have hg := gather (k := k) (y := y) (by omega) hN.out.lt f1' f2'
          have hn := Lib.hid (hnext (by omega) h1)
          generalize acc + 2 ^ (7 * k) * (y % 128) = q at *
          clear hbad hdone hnext hfits hor f1' f2'
          go_wp2_with fail
          go_round
          case measure => simp [intOf]; omega
          case rel => exact ⟨k + 1, q, by go_num, rfl, hn⟩
    · obtain rfl : k = D.length := by have := hN.out.len; omega
      have e0 := hN.out.ends (Nat.le_refl _)
      have hr0 : r = (0, 0) := by rw [hr.out, e0]; rfl
      subst hr0
      clear hlt hr e0
      go_wp2_with fail
      go_ret2
      exact ⟨rfl, hbW⟩
end
/- The program's layer 2 (wire): what a reader's calls read. -/
section
open Go.RowKit Go.Maps

theorem wfine_w {w : World} {ok : Nat → Prop} {rb p : Nat} {l : List UInt8} {e : Int} (h : RdAt 199 w ok rb l p e) {b : Bool} (hb : decide (e = 0) = b) :
    Calls Tryz.prog 127 #[.pointer (some ⟨rb, 0, none⟩)] w fun e1 w' => e1 = .returned (.bool b) ∧ w = w' := by
  subst hb
  exact wfine_any h
/-- What a reader's call leaves: the reader at another place, all else as it was. -/
def RdOut (t : TypeId) (w w' : World) (ok : Nat → Prop) (rb : Nat) (l : List UInt8) (p : Nat) (e : Int) : Prop := RdAt t w' ok rb l p e ∧ Kept w w' (fun k => k = rb)
theorem RdOut.same {t : TypeId} {w : World} {ok : Nat → Prop} {rb : Nat} {l : List UInt8} {p : Nat} {e : Int} (h : RdAt t w ok rb l p e) : RdOut t w w ok rb l p e := ⟨h, Kept.refl _ _⟩
theorem RdOut.setAt {t : TypeId} {w w' : World} {ok : Nat → Prop} {rb : Nat} {l : List UInt8} {p : Nat} {e : Int} (h : RdOut t w w' ok rb l p e) (p' : Nat) (hp : p' ≤ l.length) : RdOut t w (w'.setCell ⟨rb, 1, none⟩ (.int .i64 p')) ok rb l p' e :=
  ⟨h.1.setAt p' hp, h.2.setCell (.inl rfl) _⟩
theorem RdOut.below {t : TypeId} {w w1 w2 : World} {ok : Nat → Prop} {rb : Nat} {l : List UInt8} {p : Nat} {e : Int} (h : RdOut t w w1 ok rb l p e) (hb : Below w1.heap.size w1 w2) : RdOut t w w2 ok rb l p e := ⟨h.1.below hb, h.2.below hb⟩
theorem RdOut.more {t : TypeId} {w w1 w2 : World} {ok : Nat → Prop} {rb : Nat} {l : List UInt8} {p p' : Nat} {e e' : Int} (h : RdOut t w w1 ok rb l p e) (h' : RdOut t w1 w2 ok rb l p' e') : RdOut t w w2 ok rb l p' e' := ⟨h'.1, h.2.trans h'.2 (fun _ hk => .inl hk)⟩

set_option maxRecDepth 100000 in
set_option maxHeartbeats 1000000 in
theorem wnum_any {w : World} {ok : Nat → Prop} {rb p : Nat} {l : List UInt8} {e : Int} (h : RdAt 199 w ok rb l p e) {n p' : Nat} {e' : Int} (hr : rdNum l p e = (n, p', e')) :
    Calls Tryz.prog 77 #[.pointer (some ⟨rb, 0, none⟩)] w fun e1 w' => e1 = .returned (.int .u64 n) ∧ RdOut 199 w w' ok rb l p' e' := by
  by_cases he : e = 0
  · subst he
    have hfine := wfine_w h (b := true) (by simp)
    have hO := RdOut.same h
    cases hn : num (l.drop p) with
    | none =>
      have hpk := wpeek_any h (r := (0, 0)) (by rw [hn]; rfl)
      rw [rdNum_none hn] at hr
      simp only [Prod.mk.injEq] at hr
      obtain ⟨rfl, rfl, rfl⟩ := hr
      replace hO := Lib.hid hO
      clear h hn
      go_enter Tryz.func77, Tryz.ntmps77
      go_wp2_with fail
      refine hfine.mono ?_
      clear hfine
      rintro e1 w' ⟨rfl, rfl⟩
      go_wp2_with fail
      refine hpk.mono ?_
      clear hpk
      rintro e1 w1 ⟨rfl, hb⟩
      have hO1 := hO.out.below hb
      have hfail := wfail_any hO1.1 5 rfl
      replace hO1 := Lib.hid hO1
      clear hb
      go_wp2_with fail
      refine hfail.mono ?_
      clear hfail
      rintro e1 w2 ⟨rfl, hR, hK⟩
      have hO2 := hO1.out.more ⟨hR, hK⟩
      obtain ⟨A, c, c0, c1, c2, f1, f2, hlc, hmax, _⟩ := hO2.1.cells
      have hple := hO2.1.le
      have hO3 := Lib.hid (hO2.setAt p hple)
      have hpm : (p : Int) ≤ 9223372036854775807 := by unfold maxLen at hmax; omega
      clear hR hK hO2
      go_wp2_with fail
      go_ret
      exact ⟨rfl, hO3.out⟩
    | some q =>
      obtain ⟨m, k⟩ := q
      have hpk := wpeek_any h (r := (m, k)) (by rw [hn]; rfl)
      have hk0 := num_pos hn
      have hkl := (num_is hn).2.2.1
      rw [List.length_drop] at hkl
      rw [rdNum_some hn] at hr
      simp only [Prod.mk.injEq] at hr
      obtain ⟨rfl, rfl, rfl⟩ := hr
      replace hO := Lib.hid hO
      have hj : ¬ (k : Int) = 0 := by omega
      clear h hn
      go_enter Tryz.func77, Tryz.ntmps77
      go_wp2_with fail
      refine hfine.mono ?_
      clear hfine
      rintro e1 w' ⟨rfl, rfl⟩
      go_wp2_with fail
      refine hpk.mono ?_
      clear hpk
      rintro e1 w1 ⟨rfl, hb⟩
      have hO1 := hO.out.below hb
      obtain ⟨A, c, c0, c1, c2, f1, f2, hlc, hmax, _⟩ := hO1.1.cells
      have hple := hO1.1.le
      have hO3 := Lib.hid (hO1.setAt (p + k) (by omega))
      have hpm : (p : Int) + k ≤ 9223372036854775807 := by unfold maxLen at hmax; omega
      clear hb hO1
      go_wp2_with fail
      go_ret
      exact ⟨rfl, hO3.out⟩
  · have hfine := wfine_w h (b := false) (by simp [he])
    rw [rdNum_bad he] at hr
    simp only [Prod.mk.injEq] at hr
    obtain ⟨rfl, rfl, rfl⟩ := hr
    have hO := Lib.hid (RdOut.same h)
    clear h
    go_enter Tryz.func77, Tryz.ntmps77
    go_wp2_with (go_at_call 127; refine hfine.mono ?_; rintro e1 w' ⟨rfl, rfl⟩)
    go_ret
    exact ⟨rfl, hO.out⟩
def rdMostK (l : List UInt8) (p : Nat) (e : Int) (most : Nat) : Nat × Nat × Int :=
  if e = 0 then (match num (l.drop p) with | some (n, k) => if most < n then (0, 0, 3) else (n, k, 0) | none => (0, 0, 5)) else (0, 0, e)
set_option maxRecDepth 100000 in
set_option maxHeartbeats 1000000 in
theorem wnumber_any {w : World} {ok : Nat → Prop} {rb p : Nat} {l : List UInt8} {e : Int} (h : RdAt 199 w ok rb l p e) (most : Nat) (hm : most < 9223372036854775807) {n k : Nat} {e' : Int} (hr : rdMostK l p e most = (n, k, e')) :
    Calls Tryz.prog 130 #[.pointer (some ⟨rb, 0, none⟩), .int .i64 most] w fun e1 w' => e1 = .returned (.tuple #[.int .i64 n, .int .i64 k]) ∧ RdOut 199 w w' ok rb l p e' := by
  by_cases he : e = 0
  · subst he
    have hfine := wfine_w h (b := true) (by simp)
    have hO := RdOut.same h
    cases hn : num (l.drop p) with
    | none =>
      have hpk := wpeek_any h (r := (0, 0)) (by rw [hn]; rfl)
      have hr : ((0 : Nat), (0 : Nat), (5 : Int)) = (n, k, e') := by rw [← hr]; unfold rdMostK; rw [if_pos rfl, hn]
      simp only [Prod.mk.injEq] at hr
      obtain ⟨rfl, rfl, rfl⟩ := hr
      replace hO := Lib.hid hO
      clear h hn
      go_enter Tryz.func130, Tryz.ntmps130
      go_wp2_with fail
      refine hfine.mono ?_
      clear hfine
      rintro e1 w' ⟨rfl, rfl⟩
      go_wp2_with fail
      refine hpk.mono ?_
      clear hpk
      rintro e1 w1 ⟨rfl, hb⟩
      have hO1 := hO.out.below hb
      have hfail := wfail_any hO1.1 5 rfl
      replace hO1 := Lib.hid hO1
      clear hb
      go_wp2_with fail
      refine hfail.mono ?_
      clear hfail
      rintro e1 w2 ⟨rfl, hR, hK⟩
      have hO2 := Lib.hid (hO1.out.more ⟨hR, hK⟩)
      clear hR hK
      go_wp2_with fail
      go_ret2
      exact ⟨rfl, hO2.out⟩
    | some q =>
      obtain ⟨m, j⟩ := q
      have hpk := wpeek_any h (r := (m, j)) (by rw [hn]; rfl)
      have hk0 := num_pos hn
      have hm64 := (num_is hn).2.2.2
      have hj : ¬ (j : Int) = 0 := by omega
      by_cases hbig : most < m
      · have hr : ((0 : Nat), (0 : Nat), (3 : Int)) = (n, k, e') := by rw [← hr]; unfold rdMostK; rw [if_pos rfl, hn]; exact (if_pos hbig).symm
        simp only [Prod.mk.injEq] at hr
        obtain ⟨rfl, rfl, rfl⟩ := hr
        replace hO := Lib.hid hO
        clear h hn
        by_cases hmx : (9223372036854775807 : Int) < m
        · go_enter Tryz.func130, Tryz.ntmps130
          go_wp2_with fail
          refine hfine.mono ?_
          clear hfine
          rintro e1 w' ⟨rfl, rfl⟩
          go_wp2_with fail
          refine hpk.mono ?_
          clear hpk
          rintro e1 w1 ⟨rfl, hb⟩
          have hO1 := hO.out.below hb
          have hfail := wfail_any hO1.1 3 rfl
          replace hO1 := Lib.hid hO1
          clear hb
          go_wp2_with fail
          refine hfail.mono ?_
          clear hfail
          rintro e1 w2 ⟨rfl, hR, hK⟩
          have hO2 := Lib.hid (hO1.out.more ⟨hR, hK⟩)
          clear hR hK
          go_wp2_with fail
          go_ret2
          exact ⟨rfl, hO2.out⟩
        · have i1 : (most : Int) < m := by omega
          have i2 : IntKind.i64.wrap (m : Int) = m := IntWalk.i64_in _ (by omega)
          go_enter Tryz.func130, Tryz.ntmps130
          go_wp2_with fail
          refine hfine.mono ?_
          clear hfine
          rintro e1 w' ⟨rfl, rfl⟩
          go_wp2_with fail
          refine hpk.mono ?_
          clear hpk
          rintro e1 w1 ⟨rfl, hb⟩
          have hO1 := hO.out.below hb
          have hfail := wfail_any hO1.1 3 rfl
          replace hO1 := Lib.hid hO1
          clear hb
          go_wp2_with fail
          refine hfail.mono ?_
          clear hfail
          rintro e1 w2 ⟨rfl, hR, hK⟩
          have hO2 := Lib.hid (hO1.out.more ⟨hR, hK⟩)
          clear hR hK
          go_wp2_with fail
          go_ret2
          exact ⟨rfl, hO2.out⟩
      · have hr : (m, j, (0 : Int)) = (n, k, e') := by rw [← hr]; unfold rdMostK; rw [if_pos rfl, hn]; exact (if_neg hbig).symm
        simp only [Prod.mk.injEq] at hr
        obtain ⟨rfl, rfl, rfl⟩ := hr
        replace hO := Lib.hid hO
        have i0 : ¬ (9223372036854775807 : Int) < m := by omega
        have i1 : ¬ (most : Int) < m := by omega
        have i2 : IntKind.i64.wrap (m : Int) = m := IntWalk.i64_in _ (by omega)
        clear h hn
        go_enter Tryz.func130, Tryz.ntmps130
        go_wp2_with fail
        refine hfine.mono ?_
        clear hfine
        rintro e1 w' ⟨rfl, rfl⟩
        go_wp2_with fail
        refine hpk.mono ?_
        clear hpk
        rintro e1 w1 ⟨rfl, hb⟩
        have hO1 := Lib.hid (hO.out.below hb)
        clear hb
        go_wp2_with fail
        go_ret2
        exact ⟨rfl, hO1.out⟩
  · have hfine := wfine_w h (b := false) (by simp [he])
    have hr : ((0 : Nat), (0 : Nat), e) = (n, k, e') := by rw [← hr]; unfold rdMostK; rw [if_neg he]
    simp only [Prod.mk.injEq] at hr
    obtain ⟨rfl, rfl, rfl⟩ := hr
    have hO := Lib.hid (RdOut.same h)
    clear h
    go_enter Tryz.func130, Tryz.ntmps130
    go_wp2_with (go_at_call 127; refine hfine.mono ?_; rintro e1 w' ⟨rfl, rfl⟩)
    go_ret2
    exact ⟨rfl, hO.out⟩
set_option maxRecDepth 100000 in
set_option maxHeartbeats 1000000 in
theorem wmost_any {w : World} {ok : Nat → Prop} {rb p : Nat} {l : List UInt8} {e : Int} (h : RdAt 199 w ok rb l p e) (most : Nat) (hm : most < 9223372036854775807) {n p' : Nat} {e' : Int} (hr : rdMost l p e most = (n, p', e')) :
    Calls Tryz.prog 78 #[.pointer (some ⟨rb, 0, none⟩), .int .i64 most] w fun e1 w' => e1 = .returned (.int .i64 n) ∧ RdOut 199 w w' ok rb l p' e' := by
  obtain ⟨k, hk, hp', hle⟩ : ∃ k, rdMostK l p e most = (n, k, e') ∧ p' = p + k ∧ p + k ≤ l.length := by
    have hp := h.le
    unfold rdMost at hr
    unfold rdMostK
    split at hr
    · rename_i he
      rw [if_pos he]
      cases hn : num (l.drop p) with
      | none =>
        rw [hn] at hr
        simp only [Prod.mk.injEq] at hr
        obtain ⟨rfl, rfl, rfl⟩ := hr
        exact ⟨0, rfl, rfl, hp⟩
      | some q =>
        obtain ⟨m, j⟩ := q
        have hkl := (num_is hn).2.2.1
        rw [List.length_drop] at hkl
        rw [hn] at hr
        simp only at hr ⊢
        split at hr
        · rename_i hb
          rw [if_pos hb]
          simp only [Prod.mk.injEq] at hr
          obtain ⟨rfl, rfl, rfl⟩ := hr
          exact ⟨0, rfl, rfl, hp⟩
        · rename_i hb
          rw [if_neg hb]
          simp only [Prod.mk.injEq] at hr
          obtain ⟨rfl, rfl, rfl⟩ := hr
          exact ⟨j, rfl, rfl, by omega⟩
    · rename_i he
      rw [if_neg he]
      simp only [Prod.mk.injEq] at hr
      obtain ⟨rfl, rfl, rfl⟩ := hr
      exact ⟨0, rfl, rfl, hp⟩
  subst hp'
  have hcall := wnumber_any h most hm hk
  clear hr hk h
  by_cases h0 : (0 : Int) < k
  · go_enter Tryz.func78, Tryz.ntmps78
    go_wp2_with fail
    refine hcall.mono ?_
    clear hcall
    rintro e1 w1 ⟨rfl, hO⟩
    obtain ⟨A, c, c0, c1, c2, f1, f2, hlc, hmax, _⟩ := hO.1.cells
    have hO3 := Lib.hid (hO.setAt (p + k) hle)
    have hpm : (p : Int) + k ≤ 9223372036854775807 := by unfold maxLen at hmax; omega
    clear hO
    go_wp2_with fail
    go_ret
    exact ⟨rfl, hO3.out⟩
  · obtain rfl : k = 0 := by omega
    go_enter Tryz.func78, Tryz.ntmps78
    go_wp2_with fail
    refine hcall.mono ?_
    clear hcall
    rintro e1 w1 ⟨rfl, hO⟩
    replace hO := Lib.hid hO
    go_wp2_with fail
    go_ret
    exact ⟨rfl, hO.out⟩
/-! ### Read, Err, Left, Done -/
set_option maxRecDepth 100000 in
theorem wread_any {w : World} {ok : Nat → Prop} {A : Option Addr} {n c : Nat} {l : List UInt8} (h : Bytes w ok (.slice A n c) l) (hl : n ≤ 140737488355328) :
    Calls Tryz.prog 76 #[.slice A n c] w fun e1 w' => ∃ rb, e1 = .returned (.pointer (some ⟨rb, 0, none⟩)) ∧ RdAt 199 w' (fun k => w.heap.size ≤ k ∧ k ≠ rb) rb l 0 0 ∧ w.heap.size ≤ rb ∧ Below w.heap.size w w' := by
  obtain rfl := h.len
  have hcl := clone_sl h hl
  clear h
  go_enter Tryz.func76, Tryz.ntmps76
  go_wp2_with fail
  refine hcl.mono ?_
  clear hcl
  rintro e1 w1 ⟨A1, c1, rfl, r1, hb⟩
  have H : RdAt 199 (w1.alloc (.cells #[.slice A1 l.length c1, .int .i64 0, .int .i64 0] 199)) (fun k => w.heap.size ≤ k ∧ k ≠ w1.heap.size) w1.heap.size l 0 0 := by
    refine ⟨⟨_, heap_alloc_new w1 _, ?_⟩, fun h => h.2 rfl, Nat.zero_le _⟩
    refine ((Reads.of_own (α := UInt8) (enc := byteV) r1).step (Same.alloc w1 _ _)).mono (fun k hk _ => ⟨own_base r1 k hk, ?_⟩)
    have := own_lt r1 k hk
    omega
  have H1 := Lib.hid H
  have hb1 := Lib.hid (hb.alloc hb.size (.cells #[.slice A1 l.length c1, .int .i64 0, .int .i64 0] 199))
  have hs := hb.size
  clear r1 H
  go_wp2_with fail
  go_ret
  exact ⟨_, rfl, H1.out, hs, hb1.out⟩
set_option maxRecDepth 100000 in
theorem werr_any {w : World} {ok : Nat → Prop} {rb p : Nat} {l : List UInt8} {e : Int} (h : RdAt 199 w ok rb l p e) :
    Calls Tryz.prog 87 #[.pointer (some ⟨rb, 0, none⟩)] w fun e1 w' => e1 = .returned (.int .i64 e) ∧ w = w' := by
  obtain ⟨A, c, c0, c1, c2, f1, f2, _, _, _⟩ := h.cells
  clear h
  go_enter Tryz.func87, Tryz.ntmps87
  go_wp2_with fail
  go_ret
  exact ⟨rfl, rfl⟩
set_option maxRecDepth 100000 in
theorem wleft_any {w : World} {ok : Nat → Prop} {rb p : Nat} {l : List UInt8} {e : Int} (h : RdAt 199 w ok rb l p e) {n : Nat} (hn : l.length = p + n) :
    Calls Tryz.prog 88 #[.pointer (some ⟨rb, 0, none⟩)] w fun e1 w' => e1 = .returned (.int .i64 n) ∧ Below w.heap.size w w' := by
  obtain ⟨A, c, c0, c1, c2, f1, f2, _, hmax, _⟩ := h.cells
  have hm : (l.length : Int) ≤ 9223372036854775807 := by unfold maxLen at hmax; omega
  have e1 : (l.length : Int) - p = n := by omega
  clear h
  replace hn := Lib.hid hn
  go_enter Tryz.func88, Tryz.ntmps88
  go_wp2_with fail
  go_quiet (fail)
  go_wp2_with fail
  go_ret
  exact ⟨rfl, ⟨rfl, rfl, rfl, Nat.le_refl _, fun _ _ => rfl⟩⟩
set_option maxRecDepth 100000 in
theorem wdone_any {w : World} {ok : Nat → Prop} {rb p : Nat} {l : List UInt8} {e : Int} (h : RdAt 199 w ok rb l p e) {r : Int} (hr : r = if e = 0 then (if p = l.length then 0 else 5) else e) :
    Calls Tryz.prog 79 #[.pointer (some ⟨rb, 0, none⟩)] w fun e1 w' => e1 = .returned (.int .i64 r) ∧ Below w.heap.size w w' := by
  have herr := werr_any h
  have hp := h.le
  have hleft := wleft_any h (n := l.length - p) (by omega)
  clear h
  by_cases he : e = 0
  · subst he
    rw [if_pos rfl] at hr
    by_cases hpl : p = l.length
    · rw [if_pos hpl] at hr
      subst hr
      have j : ¬ (0 : Int) < ((l.length - p : Nat) : Int) := by omega
      generalize l.length - p = q at *
      clear hpl hp
      go_enter Tryz.func79, Tryz.ntmps79
      go_wp2_with fail
      refine herr.mono ?_
      clear herr
      rintro e1 w' ⟨rfl, rfl⟩
      go_wp2_with fail
      refine hleft.mono ?_
      clear hleft
      rintro e1 w1 ⟨rfl, hb⟩
      go_wp2_with fail
      go_ret
      exact ⟨rfl, hb⟩
    · rw [if_neg hpl] at hr
      subst hr
      have j : (0 : Int) < ((l.length - p : Nat) : Int) := by omega
      generalize l.length - p = q at *
      clear hpl hp
      go_enter Tryz.func79, Tryz.ntmps79
      go_wp2_with fail
      refine herr.mono ?_
      clear herr
      rintro e1 w' ⟨rfl, rfl⟩
      go_wp2_with fail
      refine hleft.mono ?_
      clear hleft
      rintro e1 w1 ⟨rfl, hb⟩
      go_wp2_with fail
      go_ret
      exact ⟨rfl, hb⟩
  · rw [if_neg he] at hr
    subst hr
    clear hleft hp
    go_enter Tryz.func79, Tryz.ntmps79
    go_wp2_with fail
    refine herr.mono ?_
    clear herr
    rintro e1 w' ⟨rfl, rfl⟩
    go_wp2_with fail
    go_ret
    exact ⟨rfl, Below.refl _ _⟩
end
end Go.Proofs.YthnodmbenbiahaaGreatDoor
