/- The disk's small functions: New, is, may, find; slices.Clone at bytes. -/
import Derived.Test.YthnodmbenbiahaaGreatDoorDisk
namespace Go.Proofs.YthnodmbenbiahaaGreatDoor
open Go.RowKit Go.Maps Go.Shelf

theorem info_u8 : (Tryz.prog.info? 5).map (fun i => (i.zero, i.size, i.bytes)) = some (some (.int .u8 0), 1, 1) := by kernel_rfl
theorem strK : Keyed Tryz.prog 9 := string_keyed Tryz.underlying9
theorem zeroP (w : World) : (zeroValue 118).run Tryz.prog w = .ok (.pointer none) w := by kernel_rfl
theorem ret_bool {a b : Bool} (h : a = b) : Ending.returned (.bool a) = .returned (.bool b) := by rw [h]
theorem ret_int {k : IntKind} {a b : Int} (h : a = b) : Ending.returned (.int k a) = .returned (.int k b) := by rw [h]

theorem is_nil (w : World) : Calls Tryz.prog 115 #[.pointer none] w fun e w' => e = .returned (.bool false) ∧ w = w' := by
  go_enter Tryz.func115, Tryz.ntmps115
  go_wp2
  go_ret
  exact ⟨rfl, rfl⟩
theorem is_cell (w : World) (p : Nat) (m : Option Nat) (hc : w.cell? ⟨p, 0, none⟩ = some (.map m)) : Calls Tryz.prog 115 #[.pointer (some ⟨p, 0, none⟩)] w fun e w' => e = .returned (.bool m.isSome) ∧ w = w' := by
  have h1 := fun w : World => Go.run_neq_map_nil (P := Tryz.prog) w 74 9 118 m Tryz.underlying74
  go_enter Tryz.func115, Tryz.ntmps115
  go_wp2
  go_ret
  exact ⟨rfl, rfl⟩

/-! ### may -/
def cset : List UInt8 := [97, 98, 99, 100, 101, 102, 103, 104, 105, 106, 107, 108, 109, 110, 111, 112, 113, 114, 115, 116, 117, 118, 119, 120, 121, 122, 48, 49, 50, 51, 52, 53, 54, 55, 56, 57, 46, 45]
theorem cset_fin : ∀ n : Fin 256, cset.contains (UInt8.ofNat n.val) = ((decide (97 ≤ (UInt8.ofNat n.val).toNat) && decide ((UInt8.ofNat n.val).toNat ≤ 122)) || (decide (48 ≤ (UInt8.ofNat n.val).toNat) && decide ((UInt8.ofNat n.val).toNat ≤ 57)) || decide ((UInt8.ofNat n.val).toNat = 46) || decide ((UInt8.ofNat n.val).toNat = 45)) := by decide +kernel
theorem cset_is (c : UInt8) : cset.contains c = ((decide (97 ≤ c.toNat) && decide (c.toNat ≤ 122)) || (decide (48 ≤ c.toNat) && decide (c.toNat ≤ 57)) || decide (c.toNat = 46) || decide (c.toNat = 45)) := by
  have := cset_fin ⟨c.toNat, c.toNat_lt⟩
  simpa using this
theorem dropWhile_nil {p : UInt8 → Bool} : ∀ l : List UInt8, l.dropWhile p = [] ↔ l.all p = true
  | [] => by simp
  | a :: r => by
    rw [List.dropWhile_cons]
    by_cases h : p a = true
    · rw [if_pos h, dropWhile_nil r]; simp [h]
    · rw [if_neg h]; simp [h]
theorem trim_nil (l cs : List UInt8) : Lib.trimS l cs = [] ↔ l.all cs.contains = true := by
  unfold Lib.trimS Lib.trimLeftS Lib.trimRightS
  rw [dropWhile_nil]
  constructor
  · intro h
    rw [List.all_eq_true] at h ⊢
    by_cases hn : (l.reverse.dropWhile (cs.contains ·)) = []
    · have := (dropWhile_nil (p := (cs.contains ·)) l.reverse).1 hn
      rw [List.all_eq_true] at this
      exact fun c hc => this c (by simpa using hc)
    · exfalso
      have hd := List.head_dropWhile_not (cs.contains ·) (l := l.reverse) hn
      have hm := h ((l.reverse.dropWhile (cs.contains ·)).head hn) (by rw [List.mem_reverse]; exact List.head_mem hn)
      have hd' : cs.contains ((l.reverse.dropWhile (cs.contains ·)).head hn) = false := hd
      rw [hd'] at hm
      cases hm
  · intro h
    rw [List.all_eq_true] at h ⊢
    intro c hc
    refine h c ?_
    rw [List.mem_reverse] at hc
    simpa using (List.dropWhile_sublist (cs.contains ·)).subset hc
theorem okName_trim {s : ByteArray} (h1 : 1 ≤ s.size) (h2 : s.size ≤ 32) : okName s = decide (Lib.trimS s.data.toList cset = []) := by
  unfold okName
  rw [Bool.eq_iff_iff]
  simp only [h1, h2, decide_true, Bool.true_and, decide_eq_true_eq, trim_nil]
  rw [List.all_eq_true, List.all_eq_true]
  constructor
  · intro h c hc; rw [cset_is]; exact h c hc
  · intro h c hc; rw [← cset_is]; exact h c hc
theorem okName_short {s : ByteArray} (h1 : s.size < 1) : okName s = false := by unfold okName; rw [decide_eq_false (by omega)]; rfl
theorem okName_long {s : ByteArray} (h1 : 32 < s.size) : okName s = false := by unfold okName; rw [decide_eq_false (show ¬ s.size ≤ 32 by omega)]; simp
set_option maxHeartbeats 400000 in
theorem may_any (s : ByteArray) (w : World) (hs : s.size ≤ 9223372036854775807) : Calls Tryz.prog 59 #[.string s] w fun e w' => e = .returned (.bool (okName s)) ∧ Below w.heap.size w w' := by
  have hcon := Any.strings_Trim_laid Tryz.lays160 (by kernel_rfl) s ⟨#[97, 98, 99, 100, 101, 102, 103, 104, 105, 106, 107, 108, 109, 110, 111, 112, 113, 114, 115, 116, 117, 118, 119, 120, 121, 122, 48, 49, 50, 51, 52, 53, 54, 55, 56, 57, 46, 45]⟩ w hs (by decide) (ascii_of_all (by decide))
  change Calls Tryz.prog 113 _ _ (fun e w' => e = .returned (.string (strOf (Lib.trimS s.data.toList cset))) ∧ Below w.heap.size w w') at hcon
  have h1 := fun h => okName_short (s := s) h
  have h2 := fun h => okName_long (s := s) h
  have h3 := Lib.hid (fun h h' => okName_trim (s := s) h h')
  have h4 := Lib.hid (strOf_toList (Lib.trimS s.data.toList cset))
  generalize hr : strOf (Lib.trimS s.data.toList cset) = r at hcon h4
  clear hr
  go_enter Tryz.func59, Tryz.ntmps59
  go_wp2_with (go_at_call 113; refine hcon.mono ?_; rintro e w' ⟨rfl, hB⟩)
  · go_ret
    refine ⟨ret_bool ?_, hB⟩
    rw [h3.out (by omega) (by omega), h4.out]
    generalize Lib.trimS s.data.toList cset = l
    cases l <;> simp
  · go_ret
    exact ⟨ret_bool (by rw [h2 (by omega)]), Below.refl _ _⟩
  · go_ret
    exact ⟨ret_bool (by rw [h1 (by omega)]), Below.refl _ _⟩

/-! ### slices.Clone -/
set_option maxHeartbeats 400000 in
theorem clone_any {w : World} {ok : Nat → Prop} {v : Value} {l : List UInt8} (h : Bytes w ok v l) (hl : l.length ≤ 140737488355328) :
    Calls Tryz.prog 60 #[v] w fun e w' => ∃ v', e = .returned v' ∧ w'.ownsRow w.heap.size 5 1 v' l.length (l.map byteV) ∧ Below w.heap.size w w' := by
  obtain ⟨A, c, rfl, h1, h2, h3⟩ := h
  have hln := Lib.hid (show (l.map byteV).length = l.length by simp)
  have hn0 : A = none → l = [] := fun e => by
    cases l with
    | nil => rfl
    | cons a r => obtain ⟨b, o, e', _⟩ := h3 (by simp); rw [e] at e'; cases e'
  generalize hnl : l.length = n at *
  have hnl := Lib.hid hnl
  have hn := fun w : World => Lib.run_eql_slice_nil (P := Tryz.prog) w 22 5 A n c 0 0 Tryz.underlying22
  rcases A with _ | ad
  · obtain rfl := hn0 rfl
    obtain rfl : 0 = n := hnl.out
    clear h1 h2 h3 hl hn0
    go_enter Tryz.func60, Tryz.ntmps60
    go_wp2_with fail
    go_ret
    exact ⟨_, rfl, World.ownsRow_nil _ _ _ _, Below.refl _ _⟩
  · clear hn0
    have hcs := Lib.hid (h3.step (Same.alloc w (.cells #[] 5) ok))
    clear h3
    have hm := Lib.hid (World.ownsRow_made (base := w.heap.size) (size := 1) (e := 5) w #[] 0 (Nat.le_refl _) (Nat.zero_le _) rfl)
    go_enter Tryz.func60, Tryz.ntmps60
    go_wp2_with (at_builtin; refine wpList_append rfl _ _ 22 rfl Tryz.underlying22 info_u8 rfl (by decide) (n := 0) (xs := []) rfl hm.out rfl (by have e1 := hln.out; have e2 := hnl.out; omega) hcs.out (byte_one _) (by omega) (by omega) (by simp) ?_; intro v1 w1 r1 r2 r3)
    go_ret
    refine ⟨v1, rfl, by simpa using r1, ?_⟩
    exact ((Below.refl _ _).alloc (Nat.le_refl _) _).grown r2 (by simp) (fun k hk => own_base hm.out k hk)

theorem clone_sl {w : World} {ok : Nat → Prop} {A : Option Addr} {n c : Nat} {l : List UInt8} (h : Bytes w ok (.slice A n c) l) (hl : n ≤ 140737488355328) :
    Calls Tryz.prog 60 #[.slice A n c] w fun e w' => ∃ A1 c1, e = .returned (.slice A1 n c1) ∧ w'.ownsRow w.heap.size 5 1 (.slice A1 n c1) n (l.map byteV) ∧ Below w.heap.size w w' := by
  obtain rfl := h.len
  refine (clone_any h hl).mono fun e w' ⟨v', he, r1, r2⟩ => ?_
  obtain ⟨A1, c1, rfl, _⟩ := own_form r1
  exact ⟨A1, c1, he, r1, r2⟩

/-! ### find -/
set_option maxHeartbeats 400000 in
theorem find_nobody (w : World) (v : Value) (s : ByteArray) (h : Calls Tryz.prog 115 #[v] w fun e w' => e = .returned (.bool false) ∧ w = w') :
    Calls Tryz.prog 121 #[v, .string s] w fun e w' => e = .returned (.tuple #[.pointer none, .int .i64 1]) ∧ w = w' := by
  go_enter Tryz.func121, Tryz.ntmps121
  go_wp2_with (go_at_call 115; refine h.mono ?_; rintro e w' ⟨rfl, rfl⟩)
  go_ret2
  exact ⟨rfl, rfl⟩
set_option maxHeartbeats 400000 in
theorem find_any {w : World} {p mb : Nat} {g : List Ent} (h : DiskG w p mb g) (s : ByteArray) (hs : s.size ≤ maxLen) :
    Calls Tryz.prog 121 #[.pointer (some ⟨p, 0, none⟩), .string s] w fun e w' => e = .returned (match lfind Ent.name g s with | some x => .tuple #[.pointer (some ⟨x.fb, 0, none⟩), .int .i64 0] | none => .tuple #[.pointer none, .int .i64 4]) ∧ w = w' := by
  obtain ⟨D, hown, hD⟩ := h.mp
  have hc : w.cell? ⟨p, 0, none⟩ = some (.map (some mb)) := (cell_blk h.pc 0).trans rfl
  obtain ⟨v, ps, hrun, hv⟩ := hown.look_ok strK Tryz.underlying74 (zeroP w) ptrR_none (WideMaps.keyOf_string_mk Tryz.underlying9 hs)
  change (Instr.lookup _ _ _ true).run Tryz.prog w = .ok (.tuple #[v, .bool (Maps.has D (lit s))]) w at hrun
  change ptrR v = some (D.atKey (lit s) _, ps) at hv
  rw [hD.has h.so] at hrun
  rw [hD.at_ h.so] at hv
  cases hx : lfind Ent.name g s with
  | some x =>
    rw [hx] at hrun hv
    obtain rfl := ptrR_inv hv
    clear hv hx hD hown h
    go_enter Tryz.func121, Tryz.ntmps121
    go_wp2_with (go_at_call 115; refine (is_cell w p (some mb) hc).mono ?_; rintro e w' ⟨rfl, rfl⟩)
    go_ret2
    exact ⟨rfl, rfl⟩
  | none =>
    rw [hx] at hrun hv
    obtain rfl := ptrR_inv0 hv
    clear hv hx hD hown h
    go_enter Tryz.func121, Tryz.ntmps121
    go_wp2_with (go_at_call 115; refine (is_cell w p (some mb) hc).mono ?_; rintro e w' ⟨rfl, rfl⟩)
    go_ret2
    exact ⟨rfl, rfl⟩
end Go.Proofs.YthnodmbenbiahaaGreatDoor
