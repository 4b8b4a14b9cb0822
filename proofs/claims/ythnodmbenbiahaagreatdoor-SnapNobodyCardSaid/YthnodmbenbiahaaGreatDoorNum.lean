import Derived.Test.YthnodmbenbiahaaGreatDoorPure
namespace Go.Proofs.YthnodmbenbiahaaGreatDoor
/- Numbers without sign as bytes, seven bits each, the lowest first: written, and read back. Plain lists; no program. -/
section

/-- A number's bytes. -/
def uv (n : Nat) : List UInt8 := if n < 128 then [UInt8.ofNat n] else UInt8.ofNat (n % 128 + 128) :: uv (n / 128)
termination_by n
decreasing_by omega
theorem uv_small {n : Nat} (h : n < 128) : uv n = [UInt8.ofNat n] := by rw [uv, if_pos h]
theorem uv_great {n : Nat} (h : ¬ n < 128) : uv n = UInt8.ofNat (n % 128 + 128) :: uv (n / 128) := by rw [uv, if_neg h]
theorem uv_ne (n : Nat) : uv n ≠ [] := by rw [uv]; split <;> simp
theorem toNat_ofNat {n : Nat} (h : n < 256) : (UInt8.ofNat n).toNat = n := by rw [UInt8.toNat_ofNat']; omega
/-- The number at the beginning of bytes, behind i that were read; and how many it has. -/
def numFrom : Nat → List UInt8 → Option (Nat × Nat)
  | _, [] => none
  | i, c :: r => if (i = 9 ∧ 1 < c.toNat) ∨ (c.toNat = 0 ∧ 0 < i) then none else if c.toNat < 128 then some (c.toNat, 1) else (numFrom (i + 1) r).map fun p => (c.toNat % 128 + 128 * p.1, p.2 + 1)
def num (l : List UInt8) : Option (Nat × Nat) := numFrom 0 l

theorem pow_next (i : Nat) : 2 ^ (7 * (i + 1)) = 128 * 2 ^ (7 * i) := by
  rw [Nat.mul_add, Nat.pow_add, Nat.mul_comm]
theorem pow_rest {i : Nat} (hi : i ≤ 8) : 2 ^ (7 * (i + 1)) * 2 ^ (64 - 7 * (i + 1)) = 2 ^ 64 := by
  rw [← Nat.pow_add]
  congr 1
  omega
theorem pow_up {i v : Nat} (hi : i ≤ 9) (h : v * 2 ^ (7 * i) < 2 ^ 64) (hv : 128 ≤ v) : i ≤ 8 ∧ v / 128 * 2 ^ (7 * (i + 1)) < 2 ^ 64 := by
  refine ⟨?_, ?_⟩
  · rcases Nat.lt_or_ge i 9 with h1 | h1
    · omega
    · obtain rfl : i = 9 := by omega
      simp only [Nat.reduceMul, Nat.reducePow] at h
      omega
  · refine Nat.lt_of_le_of_lt ?_ h
    rw [pow_next, ← Nat.mul_assoc]
    exact Nat.mul_le_mul_right _ (by omega)
theorem pow_down {i c v : Nat} (hi : i ≤ 8) (h : v * 2 ^ (7 * (i + 1)) < 2 ^ 64) (hc : c < 128) : (c + 128 * v) * 2 ^ (7 * i) < 2 ^ 64 := by
  have hq := pow_rest hi
  rw [← hq, Nat.mul_comm v] at h
  have h1 : v < 2 ^ (64 - 7 * (i + 1)) := Nat.lt_of_mul_lt_mul_left h
  have h2 : (c + 128 * v) * 2 ^ (7 * i) < (128 * (v + 1)) * 2 ^ (7 * i) := Nat.mul_lt_mul_of_pos_right (by omega) (Nat.pow_pos (by decide))
  refine Nat.lt_of_lt_of_le h2 ?_
  rw [← hq, pow_next, Nat.mul_comm 128 (v + 1), Nat.mul_assoc, Nat.mul_comm (v + 1)]
  exact Nat.mul_le_mul_left _ h1
theorem pow_one {i c : Nat} (hi : i ≤ 9) (hc : c < 128) : c * 2 ^ (7 * i) < 2 ^ 64 ↔ ¬ (i = 9 ∧ 1 < c) := by
  by_cases h : i = 9
  · subst h
    simp only [Nat.reduceMul, Nat.reducePow, true_and]
    omega
  · have e : i = 0 ∨ i = 1 ∨ i = 2 ∨ i = 3 ∨ i = 4 ∨ i = 5 ∨ i = 6 ∨ i = 7 ∨ i = 8 := by omega
    have h2 : c * 2 ^ (7 * i) < 2 ^ 64 := by
      have h1 : c * 2 ^ (7 * i) ≤ 127 * 2 ^ (7 * i) := Nat.mul_le_mul_right _ (by omega)
      have h2 : 127 * 2 ^ (7 * i) < 2 ^ 64 := by rcases e with rfl | rfl | rfl | rfl | rfl | rfl | rfl | rfl | rfl <;> decide
      omega
    simp [h, h2]

theorem numFrom_uv (v : Nat) : ∀ (i : Nat) (r : List UInt8), i ≤ 9 → v * 2 ^ (7 * i) < 2 ^ 64 → (0 < i → 0 < v) → numFrom i (uv v ++ r) = some (v, (uv v).length) := by
  induction v using Nat.strongRecOn with
  | _ v ih =>
    intro i r hi hv h0
    by_cases h : v < 128
    · rw [uv_small h]
      have h1 := (pow_one hi h).1 hv
      have e : (UInt8.ofNat v).toNat = v := toNat_ofNat (by omega)
      simp only [List.cons_append, List.nil_append, numFrom, e, List.length_cons, List.length_nil]
      rw [if_neg (by omega), if_pos h]
    · obtain ⟨h1, h2⟩ := pow_up hi hv (by omega)
      rw [uv_great h]
      have e : (UInt8.ofNat (v % 128 + 128)).toNat = v % 128 + 128 := toNat_ofNat (by omega)
      simp only [List.cons_append, numFrom, e, List.length_cons]
      rw [if_neg (by omega), if_neg (by omega), ih (v / 128) (by omega) (i + 1) r (by omega) h2 (by omega)]
      simp only [Option.map_some, Option.some.injEq, Prod.mk.injEq, and_true]
      omega
theorem numFrom_is : ∀ (l : List UInt8) (i v k : Nat), i ≤ 9 → numFrom i l = some (v, k) → l.take k = uv v ∧ k = (uv v).length ∧ k ≤ l.length ∧ v * 2 ^ (7 * i) < 2 ^ 64 ∧ (0 < i → 0 < v)
  | [], _, _, _, _, h => by simp [numFrom] at h
  | c :: r, i, v, k, hi, h => by
    simp only [numFrom] at h
    split at h
    · cases h
    rename_i h1
    split at h
    · rename_i h2
      simp only [Option.some.injEq, Prod.mk.injEq] at h
      obtain ⟨rfl, rfl⟩ := h
      rw [uv_small h2]
      refine ⟨by simp, rfl, by simp, (pow_one hi h2).2 (by omega), by omega⟩
    · rename_i h2
      cases hr : numFrom (i + 1) r with
      | none => rw [hr] at h; cases h
      | some p =>
        obtain ⟨v', k'⟩ := p
        rw [hr] at h
        simp only [Option.map_some, Option.some.injEq, Prod.mk.injEq] at h
        obtain ⟨rfl, rfl⟩ := h
        have h9 : i ≤ 8 := by omega
        obtain ⟨e1, e2, e3, e4, e5⟩ := numFrom_is r (i + 1) v' k' (by omega) hr
        have hv' := e5 (by omega)
        have hc := c.toNat_lt
        have hg : ¬ (c.toNat % 128 + 128 * v' < 128) := by omega
        rw [uv_great hg]
        have q1 : (c.toNat % 128 + 128 * v') % 128 + 128 = c.toNat := by omega
        have q2 : (c.toNat % 128 + 128 * v') / 128 = v' := by omega
        rw [q1, q2]
        refine ⟨?_, ?_, ?_, pow_down h9 e4 (by omega), by omega⟩
        · rw [List.take_succ_cons, e1]; simp
        · rw [List.length_cons, ← e2]
        · rw [List.length_cons]; omega
theorem num_uv {v : Nat} (h : v < 2 ^ 64) (r : List UInt8) : num (uv v ++ r) = some (v, (uv v).length) := numFrom_uv v 0 r (by omega) (by simpa using h) (by omega)
theorem num_is {l : List UInt8} {v k : Nat} (h : num l = some (v, k)) : l.take k = uv v ∧ k = (uv v).length ∧ k ≤ l.length ∧ v < 2 ^ 64 := by
  obtain ⟨h1, h2, h3, h4, _⟩ := numFrom_is l 0 v k (by omega) h
  exact ⟨h1, h2, h3, by simpa using h4⟩
theorem num_split {l : List UInt8} {v k : Nat} (h : num l = some (v, k)) : l = uv v ++ l.drop k := by
  obtain ⟨h1, _⟩ := num_is h
  rw [← h1, List.take_append_drop]
theorem num_pos {l : List UInt8} {v k : Nat} (h : num l = some (v, k)) : 0 < k := by
  obtain ⟨_, h2, _⟩ := num_is h
  have := List.length_pos_iff.2 (uv_ne v)
  omega
theorem uv_le (v : Nat) : ∀ m, v < 128 ^ (m + 1) → (uv v).length ≤ m + 1 := by
  induction v using Nat.strongRecOn with
  | _ v ih =>
    intro m hm
    by_cases h : v < 128
    · rw [uv_small h]; simp
    · rw [uv_great h, List.length_cons]
      cases m with
      | zero => simp at hm; omega
      | succ m =>
        have : v / 128 < 128 ^ (m + 1) := by
          rw [Nat.pow_succ 128 (m + 1)] at hm
          exact Nat.div_lt_of_lt_mul (by omega)
        have := ih (v / 128) (by omega) m this
        omega
theorem uv_ten {v : Nat} (h : v < 2 ^ 64) : (uv v).length ≤ 10 := uv_le v 9 (Nat.lt_of_lt_of_le h (by decide))
theorem uv_inj {a b : Nat} (ha : a < 2 ^ 64) (hb : b < 2 ^ 64) (h : uv a = uv b) : a = b := by
  have h1 := num_uv ha []
  rw [h, num_uv hb []] at h1
  simp only [Option.some.injEq, Prod.mk.injEq] at h1
  exact h1.1.symm
/-- A part is a number just if all is, and it ends there. -/
theorem num_take {l : List UInt8} {n v : Nat} (hn : n ≤ l.length) (hv : v < 2 ^ 64) : l.take n = uv v ↔ num l = some (v, n) := by
  constructor
  · intro h
    have h1 := num_uv hv (l.drop n)
    rw [← h, List.take_append_drop] at h1
    rw [h1]
    simp [List.length_take, hn]
  · intro h
    exact (num_is h).1
/-- What is read of a part. -/
theorem num_part {l : List UInt8} {n : Nat} : num (l.take n) = match num l with | some (v, k) => if k ≤ n then some (v, k) else none | none => none := by
  cases h : num l with
  | some p =>
    obtain ⟨v, k⟩ := p
    obtain ⟨h1, h2, h3, h4⟩ := num_is h
    simp only
    by_cases hk : k ≤ n
    · rw [if_pos hk]
      have := (num_take (l := l.take n) (n := k) (by rw [List.length_take]; omega) h4).1 (by rw [List.take_take, Nat.min_eq_left hk]; exact h1)
      exact this
    · rw [if_neg hk]
      cases h' : num (l.take n) with
      | none => rfl
      | some q =>
        obtain ⟨v', k'⟩ := q
        obtain ⟨r1, r2, r3, r4⟩ := num_is h'
        rw [List.length_take] at r3
        rw [List.take_take, Nat.min_eq_left (by omega)] at r1
        have := (num_take (by omega) r4).1 r1
        rw [h] at this
        simp only [Option.some.injEq, Prod.mk.injEq] at this
        omega
  | none =>
    simp only
    cases h' : num (l.take n) with
    | none => rfl
    | some q =>
      obtain ⟨v', k'⟩ := q
      obtain ⟨r1, r2, r3, r4⟩ := num_is h'
      rw [List.length_take] at r3
      rw [List.take_take, Nat.min_eq_left (by omega)] at r1
      have := (num_take (by omega) r4).1 r1
      rw [h] at this
      cases this
end
/- Reading a number byte by byte: what holds behind k bytes. Plain lists; no program. -/
section

/-- Behind k bytes of L, none of which ended the number, acc was gathered. -/
structure NumAt (L : List UInt8) (k acc : Nat) : Prop where
  is : num L = (numFrom k (L.drop k)).map fun q => (acc + 2 ^ (7 * k) * q.1, k + q.2)
  lt : acc < 2 ^ (7 * k)
  le : k ≤ 9
  len : k ≤ L.length
  big : ∀ i, i < k → ∃ c, L[i]? = some c ∧ 128 ≤ c.toNat
theorem NumAt.zero (L : List UInt8) : NumAt L 0 0 := ⟨by simp [num], by simp, by omega, by omega, fun i h => by omega⟩
theorem NumAt.ends {L : List UInt8} {k acc : Nat} (h : NumAt L k acc) (hk : L.length ≤ k) : num L = none := by
  rw [h.is, List.drop_eq_nil_of_le hk]
  rfl
section
variable {L : List UInt8} {k acc : Nat}
theorem NumAt.cons (hk : k < L.length) : L.drop k = L[k] :: L.drop (k + 1) := List.drop_eq_getElem_cons hk
theorem NumAt.bad (h : NumAt L k acc) (hk : k < L.length) (hb : (k = 9 ∧ 1 < L[k].toNat) ∨ (L[k].toNat = 0 ∧ 0 < k)) : num L = none := by
  rw [h.is, NumAt.cons hk, numFrom, if_pos hb]
  rfl
theorem NumAt.done (h : NumAt L k acc) (hk : k < L.length) (hb : ¬ ((k = 9 ∧ 1 < L[k].toNat) ∨ (L[k].toNat = 0 ∧ 0 < k))) (hc : L[k].toNat < 128) : num L = some (acc + 2 ^ (7 * k) * L[k].toNat, k + 1) := by
  rw [h.is, NumAt.cons hk, numFrom, if_neg hb, if_pos hc]
  rfl
theorem NumAt.next (h : NumAt L k acc) (hk : k < L.length) (hb : ¬ ((k = 9 ∧ 1 < L[k].toNat) ∨ (L[k].toNat = 0 ∧ 0 < k))) (hc : ¬ L[k].toNat < 128) : NumAt L (k + 1) (acc + 2 ^ (7 * k) * (L[k].toNat % 128)) where
  is := by
    rw [h.is, NumAt.cons hk, numFrom, if_neg hb, if_neg hc, Option.map_map]
    congr 1
    funext q
    simp only [Function.comp, Prod.mk.injEq]
    refine ⟨?_, by omega⟩
    rw [pow_next, Nat.mul_add, Nat.mul_assoc 128, Nat.mul_left_comm 128, Nat.mul_comm (2 ^ (7 * k)) (128 * q.1)]
    have : 128 * (2 ^ (7 * k) * q.1) = 128 * q.1 * 2 ^ (7 * k) := by rw [Nat.mul_assoc, Nat.mul_comm q.1]
    first
      | omega
      | (rw [Nat.mul_comm (2 ^ (7 * k)) (L[k].toNat % 128)]; omega)
  lt := by
    rw [pow_next]
    have h1 : 2 ^ (7 * k) * (L[k].toNat % 128) ≤ 2 ^ (7 * k) * 127 := Nat.mul_le_mul_left _ (by omega)
    have h2 := h.lt
    omega
  le := by have := h.le; omega
  len := hk
  big i hi := by
    rcases Nat.lt_or_ge i k with h1 | h1
    · exact h.big i h1
    · obtain rfl : i = k := by omega
      exact ⟨L[i], List.getElem?_eq_getElem hk, by omega⟩
/-- What is gathered stays below 2^64. -/
theorem NumAt.fits (h : NumAt L k acc) (hk : k < L.length) (hb : ¬ ((k = 9 ∧ 1 < L[k].toNat) ∨ (L[k].toNat = 0 ∧ 0 < k))) : 2 ^ (7 * k) * (L[k].toNat % 128) < 18446744073709551616 ∧ acc + 2 ^ (7 * k) * (L[k].toNat % 128) < 18446744073709551616 := by
  have h1 := h.lt
  rcases Nat.lt_or_ge k 9 with h9 | h9
  · have e := pow_rest (i := k) (by omega)
    have h2 : 2 ^ (7 * k) * (L[k].toNat % 128) ≤ 2 ^ (7 * k) * 127 := Nat.mul_le_mul_left _ (by omega)
    have h3 : 2 ^ (7 * (k + 1)) ≤ 2 ^ 63 := Nat.pow_le_pow_right (by decide) (by omega)
    rw [pow_next] at h3
    have h4 : (2 : Nat) ^ 63 = 9223372036854775808 := by decide
    omega
  · obtain rfl : k = 9 := by have := h.le; omega
    have h2 : (2 : Nat) ^ (7 * 9) = 9223372036854775808 := by decide
    rw [h2] at h1 ⊢
    have h3 : L[9].toNat ≤ 1 := by
      rcases Nat.lt_or_ge 1 L[9].toNat with h4 | h4
      · exact absurd (.inl ⟨rfl, h4⟩) hb
      · exact h4
    have h5 : L[9].toNat % 128 ≤ 1 := by omega
    have h6 : 9223372036854775808 * (L[9].toNat % 128) ≤ 9223372036854775808 * 1 := Nat.mul_le_mul_left _ h5
    omega
theorem NumAt.or (h : NumAt L k acc) (x : Nat) : acc ||| (2 ^ (7 * k) * x) = acc + 2 ^ (7 * k) * x := by
  rw [Nat.or_comm, Nat.add_comm]
  exact (Nat.two_pow_add_eq_or_of_lt h.lt x).symm
end
end
/- The sum of bytes, bit by bit and four bits at once; bytes behind their sum; frames. Plain lists; no program. -/
section

def poly : Nat := 3988292384
/-- One bit's step. -/
def half (x : Nat) : Nat := if x % 2 = 1 then (x / 2) ^^^ poly else x / 2
def half4 (x : Nat) : Nat := half (half (half (half x)))
theorem xor_mod2 (a b : Nat) : (a ^^^ b) % 2 = (a % 2 + b % 2) % 2 := by
  have h := Nat.testBit_xor a b 0
  rw [Nat.testBit_zero, Nat.testBit_zero, Nat.testBit_zero] at h
  rcases Nat.mod_two_eq_zero_or_one a with ha | ha <;> rcases Nat.mod_two_eq_zero_or_one b with hb | hb <;> rcases Nat.mod_two_eq_zero_or_one (a ^^^ b) with hc | hc <;> rw [ha, hb, hc] at h <;> rw [ha, hb, hc] <;> revert h <;> decide
theorem xor_div2 (a b : Nat) : (a ^^^ b) / 2 = (a / 2) ^^^ (b / 2) := Nat.xor_div_two
theorem xor4 (a b p : Nat) : (a ^^^ p) ^^^ (b ^^^ p) = a ^^^ b := by
  rw [Nat.xor_assoc, Nat.xor_comm b p, ← Nat.xor_assoc p p b, Nat.xor_self, Nat.zero_xor]
theorem half_xor (a b : Nat) : half (a ^^^ b) = half a ^^^ half b := by
  have h := xor_mod2 a b
  unfold half
  rw [xor_div2]
  rcases Nat.mod_two_eq_zero_or_one a with ha | ha <;> rcases Nat.mod_two_eq_zero_or_one b with hb | hb <;> rw [ha, hb] at h <;> rw [h, ha, hb]
  · simp
  · simp [Nat.xor_assoc]
  · simp only [Nat.reduceAdd, Nat.reduceMod, if_true, Nat.zero_ne_one, if_false]
    rw [Nat.xor_assoc, Nat.xor_comm (b / 2) poly, ← Nat.xor_assoc]
  · simp [xor4]
theorem half_even (q : Nat) : half (2 * q) = q := by
  unfold half
  rw [if_neg (by omega)]
  omega
theorem half4_xor (a b : Nat) : half4 (a ^^^ b) = half4 a ^^^ half4 b := by unfold half4; simp only [half_xor]
theorem half4_sixteen (q : Nat) : half4 (16 * q) = q := by
  unfold half4
  rw [show 16 * q = 2 * (2 * (2 * (2 * q))) by omega]
  simp only [half_even]
theorem split16 (x : Nat) : x = (16 * (x / 16)) ^^^ (x % 16) := by
  apply Nat.eq_of_testBit_eq
  intro i
  rw [Nat.testBit_xor, show 16 * (x / 16) = 2 ^ 4 * (x / 2 ^ 4) from rfl, show x % 16 = x % 2 ^ 4 from rfl, Nat.testBit_mod_two_pow, Nat.testBit_two_pow_mul, Nat.testBit_div_two_pow]
  by_cases h : i < 4
  · simp [h, show ¬ 4 ≤ i by omega]
  · simp [h, show 4 ≤ i by omega]
/-- The table. -/
def crcTab : List Nat := [0, 498536548, 997073096, 651767980, 1994146192, 1802195444, 1303535960, 1342533948, 3988292384, 4027552580, 3604390888, 3412177804, 2607071920, 2262029012, 2685067896, 3183342108]
theorem crcTab_is : ∀ i : Fin 16, crcTab.getD i.val 0 = half4 i.val := by decide +kernel
theorem half4_tab (x : Nat) : half4 x = crcTab.getD (x % 16) 0 ^^^ (x / 16) := by
  have := crcTab_is ⟨x % 16, Nat.mod_lt _ (by decide)⟩
  simp only at this
  rw [this]
  conv => lhs; rw [split16 x]
  rw [half4_xor, half4_sixteen, Nat.xor_comm]
theorem half_lt {x : Nat} (h : x < 4294967296) : half x < 4294967296 := by
  unfold half
  split
  · exact Nat.xor_lt_two_pow (n := 32) (by omega) (by decide)
  · omega
theorem half4_lt {x : Nat} (h : x < 4294967296) : half4 x < 4294967296 := half_lt (half_lt (half_lt (half_lt h)))
theorem xor_lt {a b : Nat} (ha : a < 4294967296) (hb : b < 4294967296) : a ^^^ b < 4294967296 := Nat.xor_lt_two_pow (n := 32) ha hb
/-- One byte's step. -/
def crcStep (x : Nat) (c : UInt8) : Nat := half4 (half4 (x ^^^ c.toNat))
theorem crcStep_lt {x : Nat} (h : x < 4294967296) (c : UInt8) : crcStep x c < 4294967296 := half4_lt (half4_lt (xor_lt h (by have := c.toNat_lt; omega)))
def crcFrom (x : Nat) (l : List UInt8) : Nat := l.foldl crcStep x
theorem crcFrom_lt : ∀ (l : List UInt8) {x : Nat}, x < 4294967296 → crcFrom x l < 4294967296
  | [], _, h => h
  | c :: r, _, h => crcFrom_lt r (crcStep_lt h c)
theorem crcFrom_take (x : Nat) (l : List UInt8) (k : Nat) (hk : k < l.length) : crcFrom x (l.take (k + 1)) = crcStep (crcFrom x (l.take k)) l[k] := by
  unfold crcFrom
  rw [List.take_add_one, List.getElem?_eq_getElem hk, Option.toList_some, List.foldl_append]
  rfl
def crcOf (l : List UInt8) : Nat := crcFrom 4294967295 l ^^^ 4294967295
theorem crcOf_lt (l : List UInt8) : crcOf l < 4294967296 := xor_lt (crcFrom_lt l (by decide)) (by decide)
/-- The document's step at one bit: of the sum and the byte apart. -/
def bitStep (x c k : Nat) : Nat := if (x ^^^ (c / 2 ^ k)) % 2 = 1 then (x / 2) ^^^ poly else x / 2
theorem bitStep_half (x c k : Nat) : half (x ^^^ (c / 2 ^ k)) = bitStep x c k ^^^ (c / 2 ^ (k + 1)) := by
  unfold half bitStep
  rw [xor_div2, Nat.div_div_eq_div_mul, ← Nat.pow_succ]
  split
  · rw [Nat.xor_assoc, Nat.xor_assoc, Nat.xor_comm poly]
  · rfl
def bitsTo (x c : Nat) : Nat → Nat
  | 0 => x
  | k + 1 => bitStep (bitsTo x c k) c k
def halfs : Nat → Nat → Nat
  | 0, x => x
  | k + 1, x => half (halfs k x)
theorem bitsTo_halfs (x c : Nat) : ∀ k, halfs k (x ^^^ c) = bitsTo x c k ^^^ (c / 2 ^ k)
  | 0 => by simp [halfs, bitsTo]
  | k + 1 => by simp only [halfs, bitsTo]; rw [bitsTo_halfs x c k, bitStep_half]
theorem bitsTo_eight (x : Nat) (c : UInt8) : bitsTo x c.toNat 8 = crcStep x c := by
  have h := bitsTo_halfs x c.toNat 8
  rw [show c.toNat / 2 ^ 8 = 0 by have := c.toNat_lt; omega, Nat.xor_zero] at h
  rw [← h]
  rfl
theorem bitsTo_lt {x c : Nat} (h : x < 4294967296) : ∀ k, bitsTo x c k < 4294967296
  | 0 => h
  | k + 1 => by
    have := bitsTo_lt (c := c) h k
    simp only [bitsTo, bitStep]
    split
    · exact xor_lt (by omega) (by decide)
    · omega
theorem xor_ones {x : Nat} (h : x < 4294967296) : x ^^^ 4294967295 = 4294967295 - x := by
  have e : (BitVec.ofNat 32 x ^^^ BitVec.allOnes 32) = ~~~ BitVec.ofNat 32 x := BitVec.xor_allOnes
  have e2 := congrArg BitVec.toNat e
  rw [BitVec.toNat_xor, BitVec.toNat_not, BitVec.toNat_allOnes, BitVec.toNat_ofNat, Nat.mod_eq_of_lt h] at e2
  simpa using e2

/-- A sum's four bytes. -/
def crcB (s : Nat) : List UInt8 := [UInt8.ofNat (s / 16777216), UInt8.ofNat (s / 65536), UInt8.ofNat (s / 256), UInt8.ofNat s]
theorem crcB_length (s : Nat) : (crcB s).length = 4 := rfl
/-- Bytes behind their sum. -/
def sealed (l : List UInt8) : List UInt8 := crcB (crcOf l) ++ l
theorem sealed_length (l : List UInt8) : (sealed l).length = l.length + 4 := by simp [sealed, crcB_length]; omega
theorem sealed_drop (l : List UInt8) : (sealed l).drop 4 = l := by simp [sealed, crcB]
/-- A frame's bytes. -/
def frameB (kind : UInt8) (d : List UInt8) : List UInt8 := uv (d.length + 5) ++ sealed (kind :: d)
/-- The frame at the beginning of bytes: its kind, bytes, and how many it has; or why there is none. -/
def fNext (b : List UInt8) : Except Int (UInt8 × List UInt8 × Nat) :=
  match num b with
  | some (v, n) =>
    if v < 5 ∨ 1048576 < v then .error 5 else if b.length - n < v then .error 12
    else if sealed (((b.drop n).take v).drop 4) = (b.drop n).take v then .ok ((((b.drop n).take v)[4]?).getD 0, ((b.drop n).take v).drop 5, n + v) else .error 5
  | none => if b.length ≤ 2 ∧ b.all (fun c => decide (128 ≤ c.toNat)) = true then .error 12 else .error 5
theorem frameB_length (kind : UInt8) (d : List UInt8) : (frameB kind d).length = (uv (d.length + 5)).length + (d.length + 5) := by
  simp [frameB, sealed_length]
theorem fNext_frame (kind : UInt8) (d r : List UInt8) (h : d.length + 5 ≤ 1048576) : fNext (frameB kind d ++ r) = .ok (kind, d, (frameB kind d).length) := by
  have h1 : num (frameB kind d ++ r) = some (d.length + 5, (uv (d.length + 5)).length) := by
    unfold frameB
    rw [List.append_assoc]
    exact num_uv (by omega) _
  have h2 : ((frameB kind d ++ r).drop (uv (d.length + 5)).length).take (d.length + 5) = sealed (kind :: d) := by
    unfold frameB
    rw [List.append_assoc, List.drop_left' rfl, List.take_left']
    rw [sealed_length]; simp
  unfold fNext
  rw [h1]
  simp only
  rw [if_neg (by omega), if_neg (by rw [List.length_append, frameB_length]; omega), h2, sealed_drop, if_pos rfl, frameB_length]
  simp [sealed, crcB]
theorem fNext_ok {b d : List UInt8} {kind : UInt8} {n : Nat} (h : fNext b = .ok (kind, d, n)) : b.take n = frameB kind d ∧ n = (frameB kind d).length ∧ n ≤ b.length ∧ d.length + 5 ≤ 1048576 := by
  unfold fNext at h
  cases hn : num b with
  | none => rw [hn] at h; simp only at h; split at h <;> cases h
  | some p =>
    obtain ⟨v, k⟩ := p
    rw [hn] at h
    simp only at h
    split at h
    · cases h
    rename_i h1
    split at h
    · cases h
    rename_i h2
    split at h
    · rename_i h3
      obtain ⟨n1, n2, n3, n4⟩ := num_is hn
      have hbl : ((b.drop k).take v).length = v := by rw [List.length_take, List.length_drop]; omega
      generalize hB : (b.drop k).take v = B at *
      simp only [Except.ok.injEq, Prod.mk.injEq] at h
      obtain ⟨h4, h5, h6⟩ := h
      have e : B.drop 4 = kind :: d := by
        rw [List.drop_eq_getElem_cons (by omega), h5]
        rw [List.getElem?_eq_getElem (by omega)] at h4
        simp only [Option.getD_some] at h4
        rw [h4]
      have hdl : d.length + 5 = v := by rw [← h5, List.length_drop]; omega
      have hf : frameB kind d = uv v ++ B := by rw [frameB, hdl, ← e, h3]
      refine ⟨?_, ?_, by omega, by omega⟩
      · rw [hf, ← h6, List.take_add, n1, hB]
      · rw [hf, List.length_append, hbl, ← h6, n2]
    · cases h
theorem fNext_split {b d : List UInt8} {kind : UInt8} {n : Nat} (h : fNext b = .ok (kind, d, n)) : b = frameB kind d ++ b.drop n := by
  obtain ⟨h1, _⟩ := fNext_ok h
  rw [← h1, List.take_append_drop]
theorem fNext_whole {b d : List UInt8} {kind : UInt8} (h : fNext b = .ok (kind, d, b.length)) : b = frameB kind d := by
  have := fNext_split h
  rw [List.drop_length, List.append_nil] at this
  exact this
end
/- Which state and which snapshot bytes are. Plain lists; no program. -/
section

/-- What is read of a reader: the number, the place behind, and what was wrong. -/
def rdNum (l : List UInt8) (p : Nat) (e : Int) : Nat × Nat × Int :=
  if e = 0 then (match num (l.drop p) with | some (n, k) => (n, p + k, 0) | none => (0, p, 5)) else (0, p, e)
def rdMost (l : List UInt8) (p : Nat) (e : Int) (most : Nat) : Nat × Nat × Int :=
  if e = 0 then (match num (l.drop p) with | some (n, k) => if most < n then (0, p, 3) else (n, p + k, 0) | none => (0, p, 5)) else (0, p, e)
theorem rdNum_bad {l : List UInt8} {p : Nat} {e : Int} (h : e ≠ 0) : rdNum l p e = (0, p, e) := by unfold rdNum; rw [if_neg h]
theorem rdMost_bad {l : List UInt8} {p : Nat} {e : Int} {most : Nat} (h : e ≠ 0) : rdMost l p e most = (0, p, e) := by unfold rdMost; rw [if_neg h]
theorem rdNum_some {l : List UInt8} {p n k : Nat} (h : num (l.drop p) = some (n, k)) : rdNum l p 0 = (n, p + k, 0) := by unfold rdNum; rw [if_pos rfl, h]
theorem rdNum_none {l : List UInt8} {p : Nat} (h : num (l.drop p) = none) : rdNum l p 0 = (0, p, 5) := by unfold rdNum; rw [if_pos rfl, h]
theorem rdMost_some {l : List UInt8} {p n k most : Nat} (h : num (l.drop p) = some (n, k)) : rdMost l p 0 most = if most < n then (0, p, 3) else (n, p + k, 0) := by unfold rdMost; rw [if_pos rfl, h]
theorem rdMost_none {l : List UInt8} {p most : Nat} (h : num (l.drop p) = none) : rdMost l p 0 most = (0, p, 5) := by unfold rdMost; rw [if_pos rfl, h]
theorem rdNum_le {l : List UInt8} {p : Nat} {e : Int} (hp : p ≤ l.length) : p ≤ (rdNum l p e).2.1 ∧ (rdNum l p e).2.1 ≤ l.length ∧ (rdNum l p e).1 < 2 ^ 64 := by
  unfold rdNum
  split
  · cases h : num (l.drop p) with
    | none => exact ⟨Nat.le_refl _, hp, by simp⟩
    | some q =>
      obtain ⟨n, k⟩ := q
      obtain ⟨_, _, h3, h4⟩ := num_is h
      rw [List.length_drop] at h3
      exact ⟨by simp only; omega, by simp only; omega, h4⟩
  · exact ⟨Nat.le_refl _, hp, by simp⟩

/-! ### hard states -/
/-- api.Hard -/
structure HardD where
  term : Nat
  vote : Int
  commit : Nat
  deriving DecidableEq
def HardD.zero : HardD := ⟨0, 0, 0⟩
structure HardFit (h : HardD) : Prop where
  term : h.term < 18446744073709551616
  v1 : -9223372036854775808 ≤ h.vote
  v2 : h.vote ≤ 9223372036854775807
  commit : h.commit < 18446744073709551616
def hMay (h : HardD) : Bool := decide (0 ≤ h.vote) && decide (h.vote ≤ 7)
theorem hMay_iff (h : HardD) : hMay h = true ↔ 0 ≤ h.vote ∧ h.vote ≤ 7 := by simp [hMay]
def hBody (h : HardD) : List UInt8 := uv h.term ++ uv h.vote.toNat ++ uv h.commit
/-- A state's bytes. -/
def hEnc (h : HardD) : List UInt8 := frameB 2 (hBody h)
/-- The state of a frame's bytes. -/
def hRead (d : List UInt8) : Option HardD :=
  let a := rdNum d 0 0
  let b := rdMost d a.2.1 a.2.2 7
  let c := rdNum d b.2.1 b.2.2
  if c.2.2 = 0 ∧ c.2.1 = d.length then some ⟨a.1, b.1, c.1⟩ else none
/-- The state of bytes. -/
def hDec (b : List UInt8) : Option HardD :=
  match fNext b with
  | .ok (k, d, n) => if k = 2 ∧ n = b.length then hRead d else none
  | .error _ => none
theorem hRead_body {h : HardD} (ht : h.term < 2 ^ 64) (hv : hMay h = true) (hc : h.commit < 2 ^ 64) : hRead (hBody h) = some h := by
  obtain ⟨v1, v2⟩ := (hMay_iff h).1 hv
  have e1 : num ((hBody h).drop 0) = some (h.term, (uv h.term).length) := by
    rw [List.drop_zero, hBody, List.append_assoc]
    exact num_uv ht _
  have e2 : num ((hBody h).drop (0 + (uv h.term).length)) = some (h.vote.toNat, (uv h.vote.toNat).length) := by
    rw [hBody, List.append_assoc, Nat.zero_add, List.drop_left' rfl]
    exact num_uv (by omega) _
  have e3 : num ((hBody h).drop (0 + (uv h.term).length + (uv h.vote.toNat).length)) = some (h.commit, (uv h.commit).length) := by
    rw [hBody, Nat.zero_add, List.drop_left' (by simp)]
    have := num_uv hc []
    rwa [List.append_nil] at this
  unfold hRead
  have h7 : ¬ 7 < h.vote.toNat := by omega
  simp only [rdNum_some e1, rdMost_some e2, if_neg h7, rdNum_some e3]
  rw [if_pos ⟨trivial, by simp [hBody]; omega⟩]
  obtain ⟨t, v, c⟩ := h
  simp only at v1
  simp only [Option.some.injEq, HardD.mk.injEq, true_and, and_true]
  omega
theorem hRead_is {d : List UInt8} {h : HardD} (hh : hRead d = some h) : d = hBody h ∧ h.term < 2 ^ 64 ∧ hMay h = true ∧ h.commit < 2 ^ 64 := by
  unfold hRead at hh
  simp only at hh
  cases h1 : num (d.drop 0) with
  | none =>
    rw [rdNum_none h1, rdMost_bad (by decide), rdNum_bad (by decide)] at hh
    simp at hh
  | some p1 =>
    obtain ⟨t, k1⟩ := p1
    rw [rdNum_some h1] at hh
    simp only [Nat.zero_add] at hh
    cases h2 : num (d.drop k1) with
    | none =>
      rw [rdMost_none h2, rdNum_bad (by simp)] at hh
      simp at hh
    | some p2 =>
      obtain ⟨v, k2⟩ := p2
      rw [rdMost_some h2] at hh
      by_cases hv : 7 < v
      · rw [if_pos hv, rdNum_bad (by simp)] at hh
        simp at hh
      · rw [if_neg hv] at hh
        simp only at hh
        cases h3 : num (d.drop (k1 + k2)) with
        | none =>
          rw [rdNum_none h3] at hh
          simp at hh
        | some p3 =>
          obtain ⟨c, k3⟩ := p3
          rw [rdNum_some h3] at hh
          split at hh
          · rename_i he
            simp only [Option.some.injEq] at hh
            subst hh
            have s1 := num_split h1
            have s2 := num_split h2
            have s3 := num_split h3
            rw [List.drop_zero] at s1
            rw [List.drop_drop] at s2 s3
            have he2 : k1 + k2 + k3 = d.length := he.2
            rw [he2, List.drop_length, List.append_nil] at s3
            refine ⟨?_, (num_is h1).2.2.2, ?_, (num_is h3).2.2.2⟩
            · unfold hBody
              simp only [Int.toNat_natCast]
              rw [List.append_assoc, ← s3, ← s2, ← s1]
            · rw [hMay_iff]; simp only; omega
          · cases hh
theorem hBody_length {h : HardD} (ht : h.term < 2 ^ 64) (hv : hMay h = true) (hc : h.commit < 2 ^ 64) : (hBody h).length ≤ 30 := by
  obtain ⟨v1, v2⟩ := (hMay_iff h).1 hv
  have := uv_ten ht
  have := uv_ten hc
  have := uv_ten (v := h.vote.toNat) (by omega)
  simp only [hBody, List.length_append]
  omega
theorem hDec_enc {h : HardD} (ht : h.term < 2 ^ 64) (hv : hMay h = true) (hc : h.commit < 2 ^ 64) : hDec (hEnc h) = some h := by
  have hl := hBody_length ht hv hc
  have hf := fNext_frame 2 (hBody h) [] (by omega)
  rw [List.append_nil] at hf
  unfold hDec hEnc
  rw [hf]
  simp only
  rw [if_pos ⟨trivial, trivial⟩]
  exact hRead_body ht hv hc
theorem hDec_is {b : List UInt8} {h : HardD} (hh : hDec b = some h) : b = hEnc h ∧ h.term < 2 ^ 64 ∧ hMay h = true ∧ h.commit < 2 ^ 64 := by
  unfold hDec at hh
  cases hf : fNext b with
  | error e => rw [hf] at hh; cases hh
  | ok x =>
    obtain ⟨k, d, n⟩ := x
    rw [hf] at hh
    simp only at hh
    split at hh
    · rename_i he
      obtain ⟨rfl, rfl⟩ := he
      obtain ⟨h1, h2⟩ := hRead_is hh
      exact ⟨by rw [hEnc, ← h1]; exact fNext_whole hf, h2⟩
    · cases hh
/-- The document's reading: what is read loosely is right, if it is written so. -/
def hLoose (d : List UInt8) : HardD :=
  let a := rdNum d 0 0
  let b := rdMost d a.2.1 a.2.2 7
  let c := rdNum d b.2.1 b.2.2
  ⟨a.1, b.1, c.1⟩
theorem hRead_loose {d : List UInt8} {h : HardD} (hh : hRead d = some h) : hLoose d = h := by
  unfold hRead at hh
  simp only at hh
  split at hh
  · simp only [Option.some.injEq] at hh
    exact hh
  · cases hh
theorem hLoose_fit (d : List UInt8) : (hLoose d).term < 2 ^ 64 ∧ 0 ≤ (hLoose d).vote ∧ (hLoose d).vote ≤ 7 ∧ (hLoose d).commit < 2 ^ 64 := by
  have a1 := rdNum_le (l := d) (p := 0) (e := 0) (Nat.zero_le _)
  have hm : (rdMost d (rdNum d 0 0).2.1 (rdNum d 0 0).2.2 7).1 ≤ 7 ∧ (rdMost d (rdNum d 0 0).2.1 (rdNum d 0 0).2.2 7).2.1 ≤ d.length := by
    generalize (rdNum d 0 0) = q at a1
    unfold rdMost
    split
    · cases h : num (d.drop q.2.1) with
      | none => exact ⟨by simp, a1.2.1⟩
      | some r =>
        obtain ⟨n, k⟩ := r
        obtain ⟨_, _, h3, _⟩ := num_is h
        rw [List.length_drop] at h3
        simp only
        split
        · exact ⟨by simp, a1.2.1⟩
        · exact ⟨by simp only; omega, by simp only; omega⟩
    · exact ⟨by simp, a1.2.1⟩
  have a3 := rdNum_le (l := d) (e := (rdMost d (rdNum d 0 0).2.1 (rdNum d 0 0).2.2 7).2.2) hm.2
  refine ⟨a1.2.2, ?_, ?_, a3.2.2⟩
  · unfold hLoose; simp only; omega
  · unfold hLoose; simp only; omega
/-- The document's Decode. -/
def hRef (b : List UInt8) : Option HardD :=
  match fNext b with
  | .ok (_, d, _) => if hMay (hLoose d) = true ∧ hEnc (hLoose d) = b then some (hLoose d) else none
  | .error _ => none
theorem hRef_dec (b : List UInt8) : hRef b = hDec b := by
  unfold hRef
  cases hf : fNext b with
  | error e => simp only; unfold hDec; rw [hf]
  | ok x =>
    obtain ⟨k, d, n⟩ := x
    simp only
    obtain ⟨l1, l2, l3, l4⟩ := hLoose_fit d
    split
    · rename_i he
      rw [← he.2]
      exact (hDec_enc l1 he.1 l4).symm
    · rename_i he
      cases h' : hDec b with
      | none => rfl
      | some h =>
        exfalso
        apply he
        obtain ⟨e1, e2, e3, e4⟩ := hDec_is h'
        unfold hDec at h'
        rw [hf] at h'
        simp only at h'
        split at h'
        · have := hRead_loose h'
          rw [this]
          exact ⟨e3, e1.symm⟩
        · cases h'

/-! ### snapshots -/
structure SnapD where
  index : Nat
  term : Nat
  b : List UInt8
  deriving DecidableEq
def sEnc (s : SnapD) : List UInt8 := frameB 3 (uv s.index ++ uv s.term ++ s.b)
def sDec (b : List UInt8) : Option SnapD :=
  match fNext b with
  | .ok (k, d, n) =>
    if k = 3 ∧ n = b.length then
      match num d with
      | some (i, k1) => if i = 0 then none else match num (d.drop k1) with
        | some (t, k2) => if 32768 < d.length - k1 - k2 then none else some ⟨i, t, d.drop (k1 + k2)⟩
        | none => none
      | none => none
    else none
  | .error _ => none
theorem sDec_enc {s : SnapD} (hi : s.index < 2 ^ 64) (h0 : s.index ≠ 0) (ht : s.term < 2 ^ 64) (hb : s.b.length ≤ 32768) : sDec (sEnc s) = some s := by
  have u1 := uv_ten hi
  have u2 := uv_ten ht
  have hf := fNext_frame 3 (uv s.index ++ uv s.term ++ s.b) [] (by simp only [List.length_append]; omega)
  rw [List.append_nil] at hf
  have e1 : num (uv s.index ++ uv s.term ++ s.b) = some (s.index, (uv s.index).length) := by
    rw [List.append_assoc]
    exact num_uv hi _
  have e2 : num ((uv s.index ++ uv s.term ++ s.b).drop (uv s.index).length) = some (s.term, (uv s.term).length) := by
    rw [List.append_assoc, List.drop_left' rfl]
    exact num_uv ht _
  have e3 : (uv s.index ++ uv s.term ++ s.b).drop ((uv s.index).length + (uv s.term).length) = s.b := by
    rw [List.drop_left' (by simp)]
  unfold sDec sEnc
  rw [hf]
  simp only
  rw [if_pos ⟨trivial, trivial⟩, e1]
  simp only
  rw [if_neg h0, e2]
  simp only
  rw [if_neg (by simp only [List.length_append]; omega), e3]
end
end Go.Proofs.YthnodmbenbiahaaGreatDoor
