/- Words on memory that all proofs of this seat use: what a slice reads as, and which blocks that hangs on. Plain facts over any program. -/
import Derived.WalkKit
import Derived.WalkSpells
import Derived.WalkLawsBesides
import Derived.Deep.QuietTactic
import Derived.BigQuiet
import Derived.Deep.RegionHeld3
import Derived.Deep.LoopGhost
import Derived.Deep.DeepCutAuto
import Derived.Maps.OwnSet
import Derived.Maps.AppendAt
import Derived.Laws.BytesArg
import Derived.KernelRfl
import Derived.Lib.Hide
namespace Go.Proofs.YthnodmbenbiahaaGreatDoor
open Go.RowKit

/-! ### blocks that stay -/
/-- The blocks of ok that were there are as they were. -/
def Same (w w' : World) (ok : Nat → Prop) : Prop := ∀ k, ok k → k < w.heap.size → w'.heap[k]? = w.heap[k]?
/-- All blocks but those of S are as they were. -/
structure Kept (w w' : World) (S : Nat → Prop) : Prop where
  os : w'.os = w.os
  tape : w'.tape = w.tape
  output : w'.output = w.output
  size : w.heap.size ≤ w'.heap.size
  same : Same w w' (fun k => ¬ S k)
theorem Same.refl (w : World) (ok : Nat → Prop) : Same w w ok := fun _ _ _ => rfl
theorem Same.mono {w w' : World} {ok ok' : Nat → Prop} (h : Same w w' ok) (hk : ∀ k, ok' k → ok k) : Same w w' ok' := fun k h1 h2 => h k (hk k h1) h2
theorem Same.trans {w w1 w2 : World} {ok : Nat → Prop} (h : Same w w1 ok) (h' : Same w1 w2 ok) : Same w w2 ok := fun k h1 h2 => by
  have e := h k h1 h2
  have hlt : k < w1.heap.size := by rw [Array.getElem?_eq_getElem h2] at e; exact (Array.getElem?_eq_some_iff.1 e).1
  exact (h' k h1 hlt).trans e
theorem Same.of_below {w w' : World} (h : Below w.heap.size w w') (ok : Nat → Prop) : Same w w' ok := fun k _ h2 => h.block k h2
theorem Same.of_grown {w w' : World} {row : Option Nat} (h : w.grownBy w' row) {ok : Nat → Prop} (hn : ∀ k, ok k → some k ≠ row) : Same w w' ok := fun k h1 h2 => h.block k h2 (hn k h1)
theorem Same.alloc (w : World) (o : Obj) (ok : Nat → Prop) : Same w (w.alloc o) ok := fun k _ h2 => Below.heap_alloc w o k h2
theorem Same.drew (w : World) (ok : Nat → Prop) : Same w w.drew ok := fun _ _ _ => rfl
theorem Same.drewN (w : World) (n : Nat) (ok : Nat → Prop) : Same w (w.drewN n) ok := fun _ _ _ => rfl
theorem Same.setCell (w : World) (a : Addr) (u : Value) {ok : Nat → Prop} (hn : ∀ k, ok k → k ≠ a.block) : Same w (w.setCell a u) ok := fun k h1 _ => Below.heap_setCell w a u k (hn k h1)
theorem Kept.refl (w : World) (S : Nat → Prop) : Kept w w S := ⟨rfl, rfl, rfl, Nat.le_refl _, Same.refl _ _⟩
theorem Kept.mono {w w' : World} {S S' : Nat → Prop} (h : Kept w w' S) (hs : ∀ k, S k → S' k) : Kept w w' S' := ⟨h.os, h.tape, h.output, h.size, h.same.mono (fun k hn hk => hn (hs k hk))⟩
theorem Kept.trans {w w1 w2 : World} {S S2 : Nat → Prop} (h : Kept w w1 S) (h' : Kept w1 w2 S2) (hs : ∀ k, S2 k → S k ∨ w.heap.size ≤ k) : Kept w w2 S :=
  ⟨h'.os.trans h.os, h'.tape.trans h.tape, h'.output.trans h.output, Nat.le_trans h.size h'.size, fun k h1 h2 => (h'.same k (fun hk => (hs k hk).elim h1 (fun hge => by omega)) (Nat.lt_of_lt_of_le h2 h.size)).trans (h.same k h1 h2)⟩
theorem Kept.of_below {w w' : World} (h : Below w.heap.size w w') (S : Nat → Prop) : Kept w w' S := ⟨h.os, h.tape, h.output, h.size, Same.of_below h _⟩
theorem Kept.below {w w1 w2 : World} {S : Nat → Prop} (h : Kept w w1 S) (hb : Below w1.heap.size w1 w2) : Kept w w2 S := h.trans (Kept.of_below hb (fun _ => False)) (fun _ hk => hk.elim)
theorem Kept.alloc {w w1 : World} {S : Nat → Prop} (h : Kept w w1 S) (o : Obj) : Kept w (w1.alloc o) S := h.below ((Below.refl _ _).alloc (Nat.le_refl _) o)
theorem Kept.drew {w w1 : World} {S : Nat → Prop} (h : Kept w w1 S) : Kept w w1.drew S := ⟨h.os, h.tape, h.output, h.size, h.same⟩
theorem Kept.drewN {w w1 : World} {S : Nat → Prop} (h : Kept w w1 S) (n : Nat) : Kept w (w1.drewN n) S := ⟨h.os, h.tape, h.output, h.size, h.same⟩
theorem Kept.setCell {w w1 : World} {S : Nat → Prop} (h : Kept w w1 S) {a : Addr} (ha : S a.block ∨ w.heap.size ≤ a.block) (u : Value) : Kept w (w1.setCell a u) S :=
  h.trans (S2 := fun k => k = a.block) ⟨rfl, rfl, rfl, by simp [World.setCell], Same.setCell w1 a u (fun _ hn => hn)⟩ (fun k hk => by rw [hk]; exact ha)
theorem Kept.grown {w w1 w2 : World} {S : Nat → Prop} (h : Kept w w1 S) {row : Option Nat} (hg : w1.grownBy w2 row) (hr : ∀ k, row = some k → S k ∨ w.heap.size ≤ k) : Kept w w2 S :=
  h.trans (S2 := fun k => row = some k) ⟨hg.os, hg.tape, hg.output, hg.size, Same.of_grown hg (fun _ hn e => hn e.symm)⟩ hr
/-- Where only what is new was written, nothing that was there has turned. -/
theorem Kept.part {w w' : World} {S ok : Nat → Prop} (h : Kept w w' S) (hn : ∀ k, ok k → ¬ S k) : Same w w' ok := h.same.mono (fun k hk => hn k hk)
theorem Kept.to_below {w w' : World} {S : Nat → Prop} (h : Kept w w' S) (hS : ∀ k, S k → w.heap.size ≤ k) : Below w.heap.size w w' :=
  ⟨h.os, h.tape, h.output, h.size, fun k hk => h.same k (fun hs => by have := hS k hs; omega) hk⟩

theorem cell_lt {w : World} {a : Addr} {v : Value} (h : w.cell? a = some v) : a.block < w.heap.size := World.block_lt_of_cell? w a h
theorem Same.cell {w w' : World} {ok : Nat → Prop} (h : Same w w' ok) {a : Addr} {v : Value} (hk : ok a.block) (hc : w.cell? a = some v) : w'.cell? a = some v :=
  (World.cell?_of_block (h a.block hk (cell_lt hc))).trans hc
theorem Same.blk {w w' : World} {ok : Nat → Prop} (h : Same w w' ok) {k : Nat} {o : Obj} (hk : ok k) (hb : w.heap[k]? = some o) : w'.heap[k]? = some o :=
  (h k hk (Array.getElem?_eq_some_iff.1 hb).1).trans hb
theorem cell_blk {w : World} {g : Nat} {cs : Array Value} {e : TypeId} {fr : Nat × Nat} (hb : w.heap[g]? = some (.cells cs e fr)) (j : Nat) : w.cell? ⟨g, j, none⟩ = cs[j]? := by simp [World.cell?, hb]
theorem frozen_blk {w : World} {g : Nat} {cs : Array Value} {e : TypeId} (hb : w.heap[g]? = some (.cells cs e (0, 0))) (j : Nat) : w.frozen? ⟨g, j, none⟩ = false := by simp [World.frozen?, hb]
theorem set_blk {w : World} {g : Nat} {cs : Array Value} {e : TypeId} {fr : Nat × Nat} (hb : w.heap[g]? = some (.cells cs e fr)) (j : Nat) (u : Value) : (w.setCell ⟨g, j, none⟩ u).heap[g]? = some (.cells (cs.setIfInBounds j u) e fr) := by
  simp [World.setCell, Array.getElem?_modify, hb]

/-! ### cells in a row -/
/-- From A on lie the cells cs, in a block of ok. (Of no cells nothing is said.) -/
def Cells (w : World) (ok : Nat → Prop) (A : Option Addr) (cs : List Value) : Prop :=
  cs ≠ [] → ∃ b o, A = some ⟨b, o, none⟩ ∧ ok b ∧ ∀ j u, cs[j]? = some u → w.cell? ⟨b, o + j, none⟩ = some u
theorem Cells.step {w w' : World} {ok : Nat → Prop} {A : Option Addr} {cs : List Value} (h : Cells w ok A cs) (hs : Same w w' ok) : Cells w' ok A cs := fun hne => by
  obtain ⟨b, o, e, hk, hc⟩ := h hne
  exact ⟨b, o, e, hk, fun j u hj => hs.cell (a := ⟨b, o + j, none⟩) hk (hc j u hj)⟩
theorem Cells.mono {w : World} {ok ok' : Nat → Prop} {A : Option Addr} {cs : List Value} (h : Cells w ok A cs) (hk : ∀ k, ok k → k < w.heap.size → ok' k) : Cells w ok' A cs := fun hne => by
  obtain ⟨b, o, e, h1, hc⟩ := h hne
  refine ⟨b, o, e, hk b h1 ?_, hc⟩
  obtain ⟨c, r, rfl⟩ := List.exists_cons_of_ne_nil hne
  exact cell_lt (hc 0 c rfl)
theorem Cells.empty (w : World) (ok : Nat → Prop) (A : Option Addr) : Cells w ok A [] := fun h => absurd rfl h
/-- A part of it. -/
theorem Cells.part {w : World} {ok : Nat → Prop} {b o : Nat} {cs ds : List Value} {k : Nat} (h : Cells w ok (some ⟨b, o, none⟩) cs) (hd : ∀ j u, ds[j]? = some u → cs[k + j]? = some u) : Cells w ok (some ⟨b, o + k, none⟩) ds := fun hne => by
  obtain ⟨c, r, rfl⟩ := List.exists_cons_of_ne_nil hne
  have h0 := hd 0 c rfl
  obtain ⟨b', o', e, hk, hc⟩ := h (fun e => by rw [e] at h0; simp at h0)
  simp only [Option.some.injEq, Addr.mk.injEq, and_true] at e
  obtain ⟨rfl, rfl⟩ := e
  exact ⟨b, o + k, rfl, hk, fun j u hj => by rw [Nat.add_assoc]; exact hc (k + j) u (hd j u hj)⟩
theorem own_lt {w : World} {base : Nat} {e : TypeId} {size n : Nat} {v : Value} {xs : List Value} (h : w.ownsRow base e size v n xs) : ∀ k, v.ownBlock = some k → k < w.heap.size := fun k hk => (h.lt k hk).2
theorem own_base {w : World} {base : Nat} {e : TypeId} {size n : Nat} {v : Value} {xs : List Value} (h : w.ownsRow base e size v n xs) : ∀ k, v.ownBlock = some k → base ≤ k := fun k hk => (h.lt k hk).1
theorem own_form {w : World} {base : Nat} {e : TypeId} {size n : Nat} {v : Value} {xs : List Value} (h : w.ownsRow base e size v n xs) : ∃ A c, v = .slice A n c ∧ n ≤ c ∧ n ≤ maxLen ∧ Cells w (fun k => v.ownBlock = some k) A xs := by
  rcases h.2 with ⟨rfl, rfl⟩ | ⟨g, cap, cur, rfl, hb, hg, h1, h2, h3, h4⟩
  · exact ⟨none, 0, rfl, Nat.le_refl _, Nat.zero_le _, by obtain rfl : xs = [] := List.eq_nil_of_length_eq_zero (by simpa using h.1); exact Cells.empty _ _ _⟩
  · refine ⟨_, cap, rfl, h1, Nat.le_trans h1 h2, fun _ => ⟨g, 0, rfl, rfl, fun j u hj => ?_⟩⟩
    have := h.cells (g := g) rfl j u hj
    simpa [Addr.add_lit] using this
theorem own_step {w w' : World} {base : Nat} {e : TypeId} {size n : Nat} {v : Value} {xs : List Value} (h : w.ownsRow base e size v n xs) {ok : Nat → Prop} (hs : Same w w' ok) (hk : ∀ k, v.ownBlock = some k → ok k) : w'.ownsRow base e size v n xs := by
  refine ⟨h.1, h.2.imp id ?_⟩
  rintro ⟨g, cap, cur, rfl, hb, hg, r⟩
  exact ⟨g, cap, cur, rfl, hb, hs.blk (hk g rfl) hg, r⟩
theorem own_typed {w : World} {base : Nat} {e : TypeId} {size n : Nat} {v : Value} {xs : List Value} (h : w.ownsRow base e size v n xs) (k : Nat) (hk : v.ownBlock = some k) : ∃ cur, w.heap[k]? = some (.cells cur e (0, 0)) := by
  rcases h.2 with ⟨rfl, _⟩ | ⟨g, cap, cur, rfl, hb, hg, _⟩
  · simp [Value.ownBlock] at hk
  · simp [Value.ownBlock] at hk
    subst hk
    exact ⟨cur, hg⟩
theorem own_lower {w : World} {base base' : Nat} {e : TypeId} {size n : Nat} {v : Value} {xs : List Value} (h : w.ownsRow base e size v n xs) (hb : base' ≤ base) : w.ownsRow base' e size v n xs := by
  refine ⟨h.1, h.2.imp id ?_⟩
  rintro ⟨g, cap, cur, rfl, hb', r⟩
  exact ⟨g, cap, cur, rfl, Nat.le_trans hb hb', r⟩

/-! ### slices of one-cell elements that are read -/
/-- v is a slice that reads as xs, each element by enc. -/
def Reads {α : Type} (enc : α → Value) (w : World) (ok : Nat → Prop) (v : Value) (xs : List α) : Prop :=
  ∃ A c, v = .slice A xs.length c ∧ xs.length ≤ c ∧ xs.length ≤ maxLen ∧ Cells w ok A (xs.map enc)
section
variable {α : Type} {enc : α → Value} {w w' : World} {ok ok' : Nat → Prop} {v : Value} {xs : List α}
theorem Reads.step (h : Reads enc w ok v xs) (hs : Same w w' ok) : Reads enc w' ok v xs := by
  obtain ⟨A, c, e, h1, h2, h3⟩ := h
  exact ⟨A, c, e, h1, h2, h3.step hs⟩
theorem Reads.mono (h : Reads enc w ok v xs) (hk : ∀ k, ok k → k < w.heap.size → ok' k) : Reads enc w ok' v xs := by
  obtain ⟨A, c, e, h1, h2, h3⟩ := h
  exact ⟨A, c, e, h1, h2, h3.mono hk⟩
theorem Reads.nil (enc : α → Value) (w : World) (ok : Nat → Prop) : Reads enc w ok (.slice none 0 0) [] := ⟨none, 0, rfl, Nat.le_refl _, Nat.zero_le _, Cells.empty _ _ _⟩
theorem Reads.of_own {base : Nat} {e : TypeId} (h : w.ownsRow base e 1 v xs.length (xs.map enc)) : Reads enc w (fun k => v.ownBlock = some k) v xs := by
  obtain ⟨A, c, e, h1, h2, h3⟩ := own_form h
  exact ⟨A, c, e, h1, h2, h3⟩
/-- An element. -/
theorem Reads.get {A : Option Addr} {n c : Nat} (h : Reads enc w ok (.slice A n c) xs) (i : Nat) (hi : i < xs.length) : ∃ b o, A = some ⟨b, o, none⟩ ∧ ok b ∧ w.cell? ⟨b, o + i, none⟩ = some (enc xs[i]) := by
  obtain ⟨A', c', e, h1, h2, h3⟩ := h
  injection e with e1 e2 e3
  subst e1
  obtain ⟨b, o, e, hk, hc⟩ := h3 (by intro e; simp at e; subst e; simp at hi)
  exact ⟨b, o, e, hk, hc i _ (by simp [hi])⟩
theorem Reads.len {A : Option Addr} {n c : Nat} (h : Reads enc w ok (.slice A n c) xs) : n = xs.length := by
  obtain ⟨A', c', e, _⟩ := h
  injection e
theorem Reads.form (h : Reads enc w ok v xs) : ∃ A c, v = .slice A xs.length c ∧ xs.length ≤ c := by
  obtain ⟨A, c, e, h1, _⟩ := h
  exact ⟨A, c, e, h1⟩
theorem Reads.max (h : Reads enc w ok v xs) : xs.length ≤ maxLen := by
  obtain ⟨A, c, e, h1, h2, _⟩ := h
  exact h2
/-- What a later law asks of elements that are to be appended. -/
theorem Reads.news {b o n c : Nat} (h : Reads enc w ok (.slice (some ⟨b, o, none⟩) n c) xs) : ∀ j u, (xs.map enc)[j]? = some u → w.cell? ((⟨b, o, none⟩ : Addr).add j) = some u := by
  obtain ⟨A', c', e, h1, h2, h3⟩ := h
  injection e with e1 e2 e3
  subst e1
  intro j u hj
  obtain ⟨b', o', e, hk, hc⟩ := h3 (by intro e; rw [e] at hj; simp at hj)
  simp only [Option.some.injEq, Addr.mk.injEq, and_true] at e
  obtain ⟨rfl, rfl⟩ := e
  rw [Addr.add_lit]
  exact hc j u hj
end
def byteV (b : UInt8) : Value := .int .u8 b.toNat
def intV (n : Int) : Value := .int .i64 n
def strV (s : ByteArray) : Value := .string s
abbrev Bytes := Reads byteV
abbrev Ints := Reads intV
abbrev Strs := Reads strV
def strOf (l : List UInt8) : ByteArray := ⟨l.toArray⟩
theorem strOf_toList (l : List UInt8) : (strOf l).toList = l := by
  rw [ByteArray.toList_eq]
  rfl
theorem strOf_data (s : ByteArray) : strOf s.data.toList = s := rfl
theorem byte_one (l : List UInt8) : ∀ u ∈ l.map byteV, u.oneCell' = true := by
  intro u hu
  obtain ⟨b, _, rfl⟩ := List.mem_map.1 hu
  rfl
theorem int_one (l : List Int) : ∀ u ∈ l.map intV, u.oneCell' = true := by
  intro u hu
  obtain ⟨b, _, rfl⟩ := List.mem_map.1 hu
  rfl
/-- string(b) -/
theorem run_string {P : Program} {w : World} {ok : Nat → Prop} {v : Value} {l : List UInt8} (h : Bytes w ok v l) {src e dst : TypeId} (hs : P.underlying src = some (.slice e)) (he : P.underlying e = some (.int .u8)) (hd : P.underlying dst = some .string) :
    (convert src dst v).run P w = .ok (.string (strOf l)) w := by
  obtain ⟨A, c, rfl, h1, h2, h3⟩ := h
  have hl : ∀ {l : List UInt8}, strOfNums (l.map fun b => (b.toNat : Int)) = strOf l := by
    intro l
    simp only [strOfNums, List.map_map, strOf]
    congr 2
    conv => rhs; rw [← List.map_id l]
    exact List.map_congr_left (fun b _ => by simp)
  by_cases hn : l = []
  · subst hn
    rcases A with _ | ⟨b, o, sp⟩
    · exact run_convert_bytes_nil w src e hs he _ _ dst hd
    · rw [run_convert_bytes_string w src dst e _ _ c hs he hd]
      simp [Conv.bytesToString, loadCells, loadCellsFrom, strOf]
      rfl
  · obtain ⟨b, o, rfl, _, hc⟩ := h3 (by simpa using hn)
    rw [← hl]
    refine run_convert_bytes_arg w src e hs he b o l.length c _ (by simp) (fun i hi => ?_) dst hd
    rw [hc i (byteV l[i]) (by simp [hi])]
    simp [byteV, List.getD_eq_getElem?_getD, hi]

/-! ### append -/
section
variable {P : Program}
/-- append(v, u...): u's m elements, news their cells. -/
theorem run_append_cells (w : World) {base : Nat} {t ty e : TypeId} {z : Value} {size bytes : Nat} (ht : P.underlying t = some (.slice e)) (hinfo : (P.info? e).map (fun i => (i.zero, i.size, i.bytes)) = some (some z, size, bytes)) (hz : z.cells.size = size) (hs0 : 0 < size)
    {v : Value} {n : Nat} {xs : List Value} (hown : w.ownsRow base e size v n xs) {A : Option Addr} {m c : Nat} {news : List Value} {ok : Nat → Prop} (hl : news.length = m * size) (hc : Cells w ok A news) (h1 : ∀ u ∈ news, u.oneCell' = true)
    (h63 : n + m ≤ 140737488355328) (hbytes : (n + m) * bytes ≤ 140737488355328) (hbase : base ≤ w.heap.size) :
    ∃ v1 w1, (Builtin.append_ #[t, t] ty #[v, .slice A m c]).run P w = .ok v1 w1 ∧ w1.ownsRow base e size v1 (n + m) (xs ++ news) ∧ w.grownBy w1 v.ownBlock ∧ (v1.ownBlock = v.ownBlock ∨ v1.ownBlock = some w.heap.size) := by
  obtain ⟨i0, hi, hzz⟩ := Option.map_eq_some_iff.1 hinfo
  simp only [Prod.mk.injEq] at hzz
  obtain ⟨hz0, hz1, hz2⟩ := hzz
  have hA : (∃ ad, A = some ad) ∨ (A = none ∧ m = 0 ∧ news = []) := by
    rcases A with _ | ad
    · refine .inr ⟨rfl, ?_⟩
      have hn : news = [] := by
        cases news with
        | nil => rfl
        | cons a r => obtain ⟨b, o, e, _⟩ := hc (by simp); cases e
      subst hn
      simp only [List.length_nil] at hl
      rcases Nat.eq_zero_or_pos m with h0 | h0
      · exact ⟨h0, rfl⟩
      · have := Nat.mul_pos h0 hs0; omega
    · exact .inl ⟨ad, rfl⟩
  rcases hA with ⟨ad, rfl⟩ | ⟨rfl, rfl, rfl⟩
  · obtain ⟨v1, w1, hr, h2, h3, _, h5⟩ := run_append_own_at (P := P) w base t ty e i0 z size bytes ht hi hz0 hz1 hz2 hz hs0 v n xs hown ad m c news hl (fun j u hj => by
      obtain ⟨b, o, e, _, hcell⟩ := hc (by intro e; rw [e] at hj; simp at hj)
      injection e with e
      subst e
      rw [Addr.add_lit]
      exact hcell j u hj) h1 (by simp only [maxLen]; omega) hbytes hbase
    exact ⟨v1, w1, hr, h2, h3, h5⟩
  · refine ⟨v, w, ?_, by simpa using hown, ⟨rfl, rfl, rfl, Nat.le_refl _, fun _ _ _ => rfl⟩, .inl rfl⟩
    rcases hown.2 with ⟨rfl, rfl⟩ | ⟨g, cap, cur, rfl, _, _, hnc, _⟩
    · simp [Builtin.append_, run_underlying ht, sizeOf, typeInfo, hi, Builtin.lenOf, Builtin.firstCells]
    · simp [Builtin.append_, run_underlying ht, sizeOf, typeInfo, hi, Builtin.lenOf, Builtin.firstCells, hnc, storeCells]
variable {ops : Array Oper} {o : Oper} {a : Act} {K : Act → World → Prop} {Q : Exit → Act → World → Prop}
theorem wp_of_value {w w1 : World} {v : Value} (h : (execOp a.eval o).run P w = .ok (.value v) w1) (hK : K (a.put o.dst v) w1) : o.wp P a w K Q := by
  unfold Oper.wp
  rw [h]
  exact hK
theorem wp_of_skip {w w1 : World} (h : (execOp a.eval o).run P w = .ok .skip w1) (hK : K (a.put o.dst undef) w1) : o.wp P a w K Q := by
  unfold Oper.wp
  rw [h]
  exact hK
theorem exec_builtin2 {w w1 : World} {b : Builtin} {s x : Operand} {ts : Array TypeId} {u1 u2 v : Value} (ho : o.op = .call { callee := .builtin b, args := #[s, x], argTypes := ts }) (hs : a.eval s = u1) (hx : a.eval x = u2)
    (h : ∀ cs : Array Bool, (builtin b ts o.type cs #[u1, u2]).run P w = .ok (.value v) w1) : (execOp a.eval o).run P w = .ok (.value v) w1 := by
  unfold execOp
  simp only [ho, resolve, invoke, Sem.run_bind, Sem.run_pure, Result.andThen_ok, List.map_toArray, List.map_cons, List.map_nil, hs, hx, h]
/-- append at an operation. -/
theorem wp_append {w : World} (s x : Operand) (t : TypeId) (ho : o.op = .call { callee := .builtin .append, args := #[s, x], argTypes := #[t, t] })
    {base : Nat} {e : TypeId} {z : Value} {size bytes : Nat} (ht : P.underlying t = some (.slice e)) (hinfo : (P.info? e).map (fun i => (i.zero, i.size, i.bytes)) = some (some z, size, bytes)) (hz : z.cells.size = size) (hs0 : 0 < size)
    {v : Value} {n : Nat} {xs : List Value} (hs : a.eval s = v) (hown : w.ownsRow base e size v n xs) {A : Option Addr} {m c : Nat} {news : List Value} {ok : Nat → Prop} (hx : a.eval x = .slice A m c) (hl : news.length = m * size) (hc : Cells w ok A news) (h1 : ∀ u ∈ news, u.oneCell' = true)
    (h63 : n + m ≤ 140737488355328) (hbytes : (n + m) * bytes ≤ 140737488355328) (hbase : base ≤ w.heap.size)
    (h : ∀ v1 w1, w1.ownsRow base e size v1 (n + m) (xs ++ news) → w.grownBy w1 v.ownBlock → (v1.ownBlock = v.ownBlock ∨ v1.ownBlock = some w.heap.size) → K (a.put o.dst v1) w1) : o.wp P a w K Q := by
  obtain ⟨v1, w1, hr, h2, h3, h4⟩ := run_append_cells (P := P) (ty := o.type) (c := c) w ht hinfo hz hs0 hown hl hc h1 h63 hbytes hbase
  exact wp_of_value (exec_builtin2 ho hs hx (fun _ => by simp [builtin, hr])) (h v1 w1 h2 h3 h4)
theorem step_append {E : Prop} {w : World} (hgd : o.guard = none) (s x : Operand) (t : TypeId) (ho : o.op = .call { callee := .builtin .append, args := #[s, x], argTypes := #[t, t] })
    {base : Nat} {e : TypeId} {z : Value} {size bytes : Nat} (ht : P.underlying t = some (.slice e)) (hinfo : (P.info? e).map (fun i => (i.zero, i.size, i.bytes)) = some (some z, size, bytes)) (hz : z.cells.size = size) (hs0 : 0 < size)
    {v : Value} {n : Nat} {xs : List Value} (hs : a.eval s = v) (hown : w.ownsRow base e size v n xs) {A : Option Addr} {m c : Nat} {news : List Value} {ok : Nat → Prop} (hx : a.eval x = .slice A m c) (hl : news.length = m * size) (hc : Cells w ok A news) (h1 : ∀ u ∈ news, u.oneCell' = true)
    (h63 : n + m ≤ 140737488355328) (hbytes : (n + m) * bytes ≤ 140737488355328) (hbase : base ≤ w.heap.size)
    (h : ∀ v1 w1, w1.ownsRow base e size v1 (n + m) (xs ++ news) → w.grownBy w1 v.ownBlock → (v1.ownBlock = v.ownBlock ∨ v1.ownBlock = some w.heap.size) → K (a.put o.dst v1) w1) : if Region.wanted o (yielded ops a.tmps) = true then o.wp P a w K Q else E := by
  rw [if_pos (by simp [Region.wanted, hgd])]
  exact wp_append s x t ho ht hinfo hz hs0 hs hown hx hl hc h1 h63 hbytes hbase h
theorem wpList_append {w : World} {rest : List Oper} (hgd : o.guard = none) (s x : Operand) (t : TypeId) (ho : o.op = .call { callee := .builtin .append, args := #[s, x], argTypes := #[t, t] })
    {base : Nat} {e : TypeId} {z : Value} {size bytes : Nat} (ht : P.underlying t = some (.slice e)) (hinfo : (P.info? e).map (fun i => (i.zero, i.size, i.bytes)) = some (some z, size, bytes)) (hz : z.cells.size = size) (hs0 : 0 < size)
    {v : Value} {n : Nat} {xs : List Value} (hs : a.eval s = v) (hown : w.ownsRow base e size v n xs) {A : Option Addr} {m c : Nat} {news : List Value} {ok : Nat → Prop} (hx : a.eval x = .slice A m c) (hl : news.length = m * size) (hc : Cells w ok A news) (h1 : ∀ u ∈ news, u.oneCell' = true)
    (h63 : n + m ≤ 140737488355328) (hbytes : (n + m) * bytes ≤ 140737488355328) (hbase : base ≤ w.heap.size)
    (h : ∀ v1 w1, w1.ownsRow base e size v1 (n + m) (xs ++ news) → w.grownBy w1 v.ownBlock → (v1.ownBlock = v.ownBlock ∨ v1.ownBlock = some w.heap.size) → wpList P ops Q rest (a.put o.dst v1) w1) : wpList P ops Q (o :: rest) a w :=
  wpList_plain hgd fun _ hK => wp_append s x t ho ht hinfo hz hs0 hs hown hx hl hc h1 h63 hbytes hbase (fun v1 w1 r1 r2 r3 => hK _ _ (h v1 w1 r1 r2 r3))
end
/-- The cells of a block that is known whole. -/
theorem Cells.of_blk {w : World} {g : Nat} {cs : List Value} {e : TypeId} {fr : Nat × Nat} (hb : w.heap[g]? = some (.cells cs.toArray e fr)) : Cells w (fun k => k = g) (some ⟨g, 0, .none⟩) cs := fun _ => ⟨g, 0, rfl, rfl, fun j u hj => by rw [Nat.zero_add, cell_blk hb]; simpa using hj⟩
end Go.Proofs.YthnodmbenbiahaaGreatDoor
