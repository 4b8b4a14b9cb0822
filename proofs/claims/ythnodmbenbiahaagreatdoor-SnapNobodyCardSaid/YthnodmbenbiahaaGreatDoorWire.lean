import Derived.Test.YthnodmbenbiahaaGreatDoorDiskA
import Derived.Test.YthnodmbenbiahaaGreatDoorNum
import Derived.Laws.BitsAllLaws
namespace Go.Proofs.YthnodmbenbiahaaGreatDoor
/- Rows of bytes that a call makes: appended to. -/
section
open Go.RowKit Go.Maps

/-- v reads as l and may be appended to without a turn of what was there: it is the call's own, or it is full. -/
def Grow (w : World) (base : Nat) (v : Value) (l : List UInt8) : Prop :=
  w.ownsRow base 5 1 v l.length (l.map byteV) ∨ ∃ A ok, v = .slice A l.length l.length ∧ Cells w ok A (l.map byteV)
theorem Grow.step {w w' : World} {base : Nat} {v : Value} {l : List UInt8} (h : Grow w base v l) (hb : Below w.heap.size w w') : Grow w' base v l := by
  rcases h with h | ⟨A, ok, e, h⟩
  · exact .inl (own_step h (Same.of_below hb (fun _ => True)) (fun _ _ => trivial))
  · exact .inr ⟨A, ok, e, h.step (Same.of_below hb ok)⟩
theorem Grow.form {w : World} {base : Nat} {v : Value} {l : List UInt8} (h : Grow w base v l) : ∃ A c, v = .slice A l.length c := by
  rcases h with h | ⟨A, ok, e, h⟩
  · obtain ⟨A, c, e, _⟩ := own_form h
    exact ⟨A, c, e⟩
  · exact ⟨A, _, e⟩
/-- append(v, r...), r not empty. -/
theorem run_grow {w : World} {base : Nat} {v : Value} {l r : List UInt8} {A : Option Addr} {c : Nat} {ok : Nat → Prop} (ty : TypeId) (hv : Grow w base v l) (hr : Bytes w ok (.slice A r.length c) r) (h0 : 0 < r.length) (hlen : l.length + r.length ≤ 140737488355328) (hbase : base ≤ w.heap.size) :
    ∃ A1 c1 w1, (Builtin.append_ #[22, 22] ty #[v, .slice A r.length c]).run Tryz.prog w = .ok (.slice A1 (l.length + r.length) c1) w1 ∧ w1.ownsRow base 5 1 (.slice A1 (l.length + r.length) c1) (l.length + r.length) ((l ++ r).map byteV) ∧ Below base w w1 := by
  have hc : Cells w ok A (r.map byteV) := by
    obtain ⟨A', c', e, _, _, h3⟩ := hr
    injection e with e1
    subst e1
    exact h3
  rcases hv with hv | ⟨B, okb, rfl, hB⟩
  · obtain ⟨v1, w1, hrun, r1, r2, _⟩ := run_append_cells (P := Tryz.prog) (ty := ty) (c := c) w Tryz.underlying22 info_u8 rfl (by decide) hv (by simp) hc (byte_one _) hlen (by omega) hbase
    obtain ⟨A1, c1, rfl, _⟩ := own_form r1
    exact ⟨A1, c1, w1, hrun, by rw [List.map_append]; exact r1, (Below.refl base w).grown r2 hbase (fun k hk => own_base hv k hk)⟩
  · rcases B with _ | bd
    · have hl0 : l = [] := by
        cases l with
        | nil => rfl
        | cons a t => obtain ⟨b, o, e, _⟩ := hB (by simp); cases e
      subst hl0
      obtain ⟨v1, w1, hrun, r1, r2, _⟩ := run_append_cells (P := Tryz.prog) (ty := ty) (c := c) w Tryz.underlying22 info_u8 rfl (by decide) (World.ownsRow_nil w base 5 1) (by simp) hc (byte_one _) hlen (by simp at hlen ⊢; omega) hbase
      obtain ⟨A1, c1, rfl, _⟩ := own_form r1
      exact ⟨A1, c1, w1, hrun, by simpa using r1, (Below.refl base w).grown r2 hbase (fun k hk => by simp [Value.ownBlock] at hk)⟩
    · obtain ⟨i0, hi, hzz⟩ := Option.map_eq_some_iff.1 info_u8
      simp only [Prod.mk.injEq] at hzz
      obtain ⟨hz0, hz1, hz2⟩ := hzz
      have hne : r.map byteV ≠ [] := fun e => by rw [List.map_eq_nil_iff] at e; rw [e] at h0; exact absurd h0 (by decide)
      obtain ⟨b, o, rfl, _, hcell⟩ := hc hne
      obtain ⟨v1, w1, hrun, r1, r2⟩ := run_append_arg_grows (P := Tryz.prog) w 22 ty 5 i0 (.int .u8 0) 1 1 Tryz.underlying22 hi hz0 hz1 hz2 rfl (by decide) bd l.length l.length (l.map byteV) (by simp) (fun j u hj => by
        obtain ⟨b', o', e, _, hq⟩ := hB (by intro e; rw [e] at hj; simp at hj)
        have e1 : bd = ⟨b', o', none⟩ := by injection e
        rw [e1, Addr.add_lit]
        exact hq j u hj) ⟨b, o, none⟩ r.length c (r.map byteV) (by simp) (fun j u hj => by rw [Addr.add_lit]; exact hcell j u hj) (by omega) (by simp only [maxLen]; omega) (by omega)
      obtain ⟨A1, c1, rfl, _⟩ := own_form r1
      refine ⟨A1, c1, w1, hrun, ?_, (Below.refl base w).grown r2 hbase (fun k hk => by cases hk)⟩
      rw [List.map_append]
      exact own_lower r1 hbase
section
variable {ops : Array Oper} {o : Oper} {a : Act} {Q : Exit → Act → World → Prop}
/-- append at an operation: r not empty. -/
theorem wpList_grow {w : World} {rest : List Oper} (hgd : o.guard = none) (s x : Operand) (ho : o.op = .call { callee := .builtin .append, args := #[s, x], argTypes := #[22, 22] })
    {base : Nat} {v : Value} {l r : List UInt8} (hs : a.eval s = v) (hv : Grow w base v l) {A : Option Addr} {m c : Nat} {ok : Nat → Prop} (hx : a.eval x = .slice A m c) (hr : Bytes w ok (.slice A m c) r) (h0 : 0 < r.length) {N : Nat} (hN : N = l.length + r.length) (hlen : l.length + r.length ≤ 140737488355328) (hbase : base ≤ w.heap.size)
    (h : ∀ A1 c1 w1, w1.ownsRow base 5 1 (.slice A1 N c1) N ((l ++ r).map byteV) → Below base w w1 → wpList Tryz.prog ops Q rest (a.put o.dst (.slice A1 N c1)) w1) : wpList Tryz.prog ops Q (o :: rest) a w :=
  wpList_plain hgd fun _ hK => by
    obtain rfl := hr.len
    subst hN
    obtain ⟨A1, c1, w1, hrun, r1, r2⟩ := run_grow o.type hv hr h0 hlen hbase
    exact wp_of_value (exec_builtin2 ho hs hx (fun _ => by simp [builtin, hrun])) (hK _ _ (h A1 c1 w1 r1 r2))
/-- append at an operation: onto a row of the call's own. -/
theorem wpList_onto {w : World} {rest : List Oper} (hgd : o.guard = none) (s x : Operand) (ho : o.op = .call { callee := .builtin .append, args := #[s, x], argTypes := #[22, 22] })
    {base : Nat} {v : Value} {n : Nat} {l r : List UInt8} (hs : a.eval s = v) (hv : w.ownsRow base 5 1 v n (l.map byteV)) {A : Option Addr} {m c : Nat} {ok : Nat → Prop} (hx : a.eval x = .slice A m c) (hr : Bytes w ok (.slice A m c) r) {N : Nat} (hN : N = n + m) (hlen : N ≤ 140737488355328) (hbase : base ≤ w.heap.size)
    (h : ∀ A1 c1 w1, w1.ownsRow base 5 1 (.slice A1 N c1) N ((l ++ r).map byteV) → Below base w w1 → wpList Tryz.prog ops Q rest (a.put o.dst (.slice A1 N c1)) w1) : wpList Tryz.prog ops Q (o :: rest) a w := by
  obtain rfl := hr.len
  subst hN
  have hc : Cells w ok A (r.map byteV) := by
    obtain ⟨A', c', e, _, _, h3⟩ := hr
    injection e with e1
    subst e1
    exact h3
  refine wpList_append hgd s x 22 ho Tryz.underlying22 info_u8 rfl (by decide) hs hv hx (by simp) hc (byte_one _) hlen (by omega) hbase (fun v1 w1 r1 r2 _ => ?_)
  obtain ⟨A1, c1, rfl, _⟩ := own_form r1
  exact h A1 c1 w1 (by rw [List.map_append]; exact r1) ((Below.refl base w).grown r2 hbase (fun k hk => own_base hv k hk))
end
/-- One byte, laid for an append. -/
theorem one_num (w : World) {n : Nat} (hn : n < 256) : Bytes (w.alloc (.cells #[.int .u8 (n : Int)] 5)) (fun k => k = w.heap.size) (.slice (some ⟨w.heap.size, 0, none⟩) 1 1) [UInt8.ofNat n] := by
  have e : byteV (UInt8.ofNat n) = .int .u8 (n : Int) := by
    unfold byteV
    rw [UInt8.toNat_ofNat', Nat.mod_eq_of_lt hn]
  refine ⟨some ⟨w.heap.size, 0, none⟩, 1, rfl, Nat.le_refl _, Nat.le_trans (show 1 ≤ 2 by decide) (by unfold maxLen; decide), ?_⟩
  rw [List.map_cons, List.map_nil, e]
  exact Cells.of_blk (heap_alloc_new w (.cells #[.int .u8 (n : Int)] 5))
end
/- The program's layer 2 (wire): Uvarint writes. -/
section
open Go.RowKit Go.Maps

set_option maxRecDepth 100000 in
theorem wown_any (w : World) (A : Option Addr) {n c : Nat} (hlc : n ≤ c) :
    Calls Tryz.prog 120 #[.slice A n c] w fun e w' => e = .returned (.slice A n n) ∧ w = w' := by
  have i1 : (n : Int) ≤ c := by omega
  go_enter Tryz.func120, Tryz.ntmps120
  go_wp2_with fail
  go_ret
  rcases A with _ | ⟨b, o, sp⟩
  · exact ⟨by simp, rfl⟩
  · exact ⟨by simp, rfl⟩

theorem or128 (k : Nat) : ∃ q : Nat, bits .or .u8 ((k : Int) % 256) 128 = (q : Int) ∧ q = k % 128 + 128 := by
  refine ⟨k % 128 + 128, ?_, rfl⟩
  have h : ∀ a : Fin 256, a.val ||| 128 = a.val % 128 + 128 := by decide +kernel
  have h1 := h ⟨k % 256, Nat.mod_lt _ (by decide)⟩
  simp only at h1
  have e : ((k : Int) % 256) = ((k % 256 : Nat) : Int) := by omega
  rw [e, show (128 : Int) = ((128 : Nat) : Int) from rfl, u8_or_nat _ _ (Nat.mod_lt _ (by decide)) (by decide), h1]
  congr 1
  omega
set_option maxRecDepth 100000 in
set_option maxHeartbeats 1000000 in
theorem wuv_any {w : World} {ok : Nat → Prop} {A : Option Addr} {n c : Nat} {l L : List UInt8} (h : Bytes w ok (.slice A n c) l) (m : Nat) (hm : m < 18446744073709551616) (hl : n ≤ 1000000000) (hL : l ++ uv m = L) :
    Calls Tryz.prog 65 #[.slice A n c, .int .u64 m] w fun e w' => ∃ A' c', e = .returned (.slice A' L.length c') ∧ w'.ownsRow w.heap.size 5 1 (.slice A' L.length c') L.length (L.map byteV) ∧ Below w.heap.size w w' := by
  have hlc : n ≤ c := by obtain ⟨A', c', e, h1, _⟩ := h; injection e with e1 e2 e3; omega
  obtain rfl := h.len
  have hg : Grow w w.heap.size (.slice A l.length l.length) l := .inr ⟨A, ok, rfl, by
    obtain ⟨A', c', e, _, _, h3⟩ := h
    injection e with e1
    subst e1
    exact h3⟩
  have h10 := uv_ten (show m < 2 ^ 64 from hm)
  have hLl : L.length = l.length + (uv m).length := by rw [← hL, List.length_append]
  clear h
  replace hg := Lib.hid hg
  replace hL := Lib.hid hL
  have hLs : L.length ≤ 1000000010 := by omega
  clear hLl h10
  go_enter Tryz.func65, Tryz.ntmps65
  go_wp2_with (go_at_call 120; refine (wown_any _ A hlc).mono ?_; rintro e w' ⟨rfl, rfl⟩)
  go_loopw [0, 1] (fun v i wr => ∃ (pre : List UInt8) (k : Nat) (B : Option Addr) (d : Nat), v = .slice B pre.length d ∧ i = .int .u64 k ∧ Hid (pre ++ uv k = L) ∧ Hid (Grow wr w.heap.size (.slice B pre.length d) pre) ∧ Below w.heap.size w wr) (fun _ i _ => (intOf i).toNat)
  case atStart => exact ⟨l, m, A, _, rfl, rfl, hL, hg, Below.refl _ _⟩
  case round =>
    obtain ⟨pre, k, B, d, rfl, rfl, hpre, hG, hB⟩ := hrel
    have hplen : pre.length + (uv k).length = L.length := by rw [← hpre.out, List.length_append]
    by_cases hk : k < 128
    · have i1 : ¬ (128 : Int) ≤ k := by omega
      have hone := Lib.hid (one_num wr (n := k) (by omega))
      have hG1 := Lib.hid (hG.out.step ((Below.refl wr.heap.size wr).alloc (Nat.le_refl _) (.cells #[.int .u8 (k : Int)] 5)))
      have hu : uv k = [UInt8.ofNat k] := uv_small hk
      have hpl : pre.length + 1 = L.length := by rw [hu] at hplen; simpa using hplen
      have hpre1 : Hid (pre ++ [UInt8.ofNat k] = L) := Lib.hid (by rw [← hu]; exact hpre.out)
      clear hu hplen hpre
      go_wp2_with (at_builtin; refine wpList_grow rfl _ _ rfl rfl hG1.out rfl hone.out (by simp) (N := L.length) hpl.symm (by simp only [List.length_cons, List.length_nil]; omega) (by have := hB.size; simp; omega) ?_; intro A1 c1 w1 r1 r2; rw [hpre1.out] at r1)
      go_ret
      exact ⟨_, _, rfl, r1, (hB.alloc hB.size _).trans r2⟩
    · have i1 : (128 : Int) ≤ k := by omega
      obtain ⟨q, e1, hq⟩ := or128 k
      have hone := Lib.hid (one_num wr (n := q) (by omega))
      have hG1 := Lib.hid (hG.out.step ((Below.refl wr.heap.size wr).alloc (Nat.le_refl _) (.cells #[.int .u8 (q : Int)] 5)))
      have hu : uv k = UInt8.ofNat q :: uv (k / 128) := by rw [hq]; exact uv_great hk
      have hpl : pre.length + 1 ≤ L.length := by rw [hu] at hplen; simp at hplen; omega
      have hpre1 : Hid ((pre ++ [UInt8.ofNat q]) ++ uv (k / 128) = L) := Lib.hid (by rw [List.append_assoc, List.singleton_append, ← hu]; exact hpre.out)
      clear hu hplen hpre hq
      have hN : (pre ++ [UInt8.ofNat q]).length = pre.length + 1 := by simp
      generalize hP : pre ++ [UInt8.ofNat q] = P at hpre1 hN
      replace hP := Lib.hid hP
      replace hN := Lib.hid hN
      go_wp2_with (at_builtin; refine wpList_grow rfl _ _ rfl rfl hG1.out rfl hone.out (by simp) (N := P.length) hN.out (by simp only [List.length_cons, List.length_nil]; omega) (by have := hB.size; simp; omega) ?_; intro A1 c1 w1 r1 r2; rw [hP.out] at r1; replace r1 := Lib.hid r1)
      go_roundw
      case measure => simp [intOf]; omega
      case rel => exact ⟨P, k / 128, _, _, rfl, by first | rfl | go_num, hpre1, Lib.hid (.inl r1.out), (hB.alloc hB.size _).trans r2⟩
/-- A byte's seven bits, gathered. -/
theorem gather {k acc y : Nat} (hy : y < 256) (h1 : acc < 2 ^ (7 * k)) (h2 : 2 ^ (7 * k) * (y % 128) < 18446744073709551616) (h3 : acc + 2 ^ (7 * k) * (y % 128) < 18446744073709551616) :
    bits .or .u64 (acc : Int) (IntKind.u64.wrap (IntKind.u64.wrap (bits .and .u8 (y : Int) 127) * 2 ^ (7 * k))) = ((acc + 2 ^ (7 * k) * (y % 128) : Nat) : Int) := by
  rw [show (127 : Int) = ((127 : Nat) : Int) from rfl, u8_and_nat _ _ hy (by decide), nat_mask7]
  have e1 : IntKind.u64.wrap ((y % 128 : Nat) : Int) = ((y % 128 : Nat) : Int) := by rw [IntKind.wrap_u64]; omega
  have e2 : ((y % 128 : Nat) : Int) * 2 ^ (7 * k) = ((2 ^ (7 * k) * (y % 128) : Nat) : Int) := by
    rw [Int.natCast_mul, Int.natCast_pow, Int.mul_comm]
    rfl
  rw [e1, e2]
  have e3 : IntKind.u64.wrap ((2 ^ (7 * k) * (y % 128) : Nat) : Int) = ((2 ^ (7 * k) * (y % 128) : Nat) : Int) := by rw [IntKind.wrap_u64]; omega
  rw [e3, u64_or_nat _ _ (by omega) h2]
  congr 1
  rw [Nat.or_comm, Nat.add_comm]
  exact (Nat.two_pow_add_eq_or_of_lt h1 _).symm
end
end Go.Proofs.YthnodmbenbiahaaGreatDoor
