/- The disk's call Load: the plain part; and what a store of a new file leaves. -/
import Derived.Test.YthnodmbenbiahaaDoorMay
import Derived.Test.YthnodmbenbiahaaDoorClass
namespace Go.Proofs.YthnodmbenbiahaaDoor
open Go.RowKit Go.Maps

theorem good_lt {l : List FileD} {k : Nat} (h : ∀ j, j < k → gk l j = true) : ∀ (j : Nat) (hj : j < l.length), j < k → ∀ (i : Nat) (hi : i < j), nlt (l[i]'(by omega)).name l[j].name
  | 0, _, _, i, hi => by omega
  | j + 1, hj, hjk, i, hi => by
    have h1 := h (j + 1) hjk
    rw [gk_at hj] at h1
    have h2 := (good_spec h1).2.2.2.2 (l[j]'(by omega)) (by unfold prevOf; rw [if_neg (by omega), Nat.add_sub_cancel, List.getElem?_eq_getElem (by omega)])
    rcases Nat.lt_or_ge i j with h3 | h3
    · exact nlt_trans (good_lt h j (by omega) (by omega) i h3) h2
    · obtain rfl : i = j := by omega
      exact h2
theorem good_rising {l : List FileD} {k : Nat} (h : ∀ j, j < k → gk l j = true) : Rising FileD.name (l.take k) := by
  unfold Rising
  rw [List.pairwise_iff_getElem]
  intro i j hi hj hij
  rw [List.length_take] at hi hj
  rw [List.getElem_take, List.getElem_take]
  exact good_lt h j (by omega) (by omega) i hij
theorem take_put {l : List FileD} {k : Nat} (hk : k < l.length) (h : ∀ j, j < k + 1 → gk l j = true) : fPut (l.take k) l[k] = l.take (k + 1) := by
  have hr : Rising FileD.name (l.take (k + 1)) := good_rising h
  have hr0 : Rising FileD.name (l.take k) := good_rising (fun j hj => h j (by omega))
  refine (hr0.put _).ext hr (fun y => ?_)
  rw [mem_lput, List.take_add_one, List.getElem?_eq_getElem hk]
  simp only [Option.toList_some, List.mem_append, List.mem_singleton]
  constructor
  · rintro (rfl | h1)
    · exact .inr rfl
    · exact .inl h1.1
  · rintro (h1 | rfl)
    · refine .inr ⟨h1, ?_⟩
      obtain ⟨i, hi, rfl⟩ := List.mem_iff_getElem.1 h1
      rw [List.length_take] at hi
      rw [List.getElem_take]
      exact nlt_ne (good_lt h k hk (by omega) i (by omega))
    · exact .inl rfl
theorem mayOk_rising {l : List FileD} (h : mayOk l = true) : Rising FileD.name l := by
  have := good_rising (l := l) (k := l.length) (mayOk_spec h).2
  rwa [List.take_length] at this
theorem put_count {l : List FileD} {k : Nat} (hk : k < l.length) (h64 : l.length ≤ 64) {g : List Ent} (hg : g.map Ent.file = l.take k) {x : Ent} (hx : x.file = l[k]) (h : ∀ j, j < k + 1 → gk l j = true) : (lput Ent.name g x).length ≤ 64 := by
  have h1 := congrArg List.length (put_file g x)
  rw [hg, hx, take_put hk h, List.length_map, List.length_take] at h1
  omega
/-- Behind the store of a new file whose bytes a call has just made. -/
theorem load_put {w0 W w2 w3 : World} {p mb : Nat} {g : List Ent} {D : DataW Unit} (hg : DiskG W p mb g) (hk : ∀ k, Own p mb g k → w0.heap.size ≤ k) (hW : Below w0.heap.size w0 W) (hD : MapIs D g)
    {A1 : Option Addr} {n c1 : Nat} {xn : ByteArray} {xd : List UInt8} {xs : Int} (hb2 : Below W.heap.size W w2) (r1 : w2.ownsRow W.heap.size 5 1 (.slice A1 n c1) n (xd.map byteV)) (hn : n = xd.length)
    (r4 : w3.ownsMap Tryd.prog 9 ptrR mb (Maps.size D + 1) (D.put (lit xn) (.lit (.int .i64 (w2.heap.size : Nat))))) (r5 : (w2.alloc (.cells #[.slice A1 n c1, .int .i64 xs] 73)).grownBy w3 (some mb))
    (ho : okName xn = true) (h1 : xd.length ≤ 65536) (h2 : 0 ≤ xs) (h3 : xs ≤ xd.length) (hct : ∀ x : Ent, x.file = ⟨xn, xd, xs⟩ → (lput Ent.name g x).length ≤ 64) : Mine w0 w3 p (fPut (g.map Ent.file) ⟨xn, xd, xs⟩) := by
  subst hn
  let x' : Ent := { name := xn, data := xd, safe := xs, fb := w2.heap.size, v := .slice A1 xd.length c1 }
  have hb3 : Below W.heap.size W (w2.alloc (.cells #[.slice A1 xd.length c1, .int .i64 xs] 73)) := hb2.alloc hb2.size _
  have hball := hW.trans (hb3.mono hW.size)
  have hgW : DiskG (w2.alloc (.cells #[.slice A1 xd.length c1, .int .i64 xs] 73)) p mb g := hg.step (Same.of_below hb3 (fun _ => True)) (fun _ _ => trivial)
  have hfile : FileAt (w2.alloc (.cells #[.slice A1 xd.length c1, .int .i64 xs] 73)) x' := ⟨heap_alloc_new w2 _, own_step (own_lower r1 (Nat.zero_le _)) (Same.alloc w2 _ (fun _ => True)) (fun _ _ => trivial)⟩
  have hM : Mine w0 (w2.alloc (.cells #[.slice A1 xd.length c1, .int .i64 xs] 73)) p (g.map Ent.file) := ⟨⟨mb, g, hgW, rfl, hk⟩, hball⟩
  refine hM.after (after_put (ok := fun k => w0.heap.size ≤ k) hgW hk x' (keptMap r5) ⟨_, ownsMap_tight r4, hD.put x'⟩ hfile ?_ ?_ ho ⟨h1, h2, h3⟩ (hct x' rfl)).2
  · intro y hy _
    refine ⟨fun e => ?_, fun k hk' hk2 => ?_⟩
    · have := hg.lt _ (.inr (.inr ⟨y, hy, .inl rfl⟩))
      have := hb2.size
      simp only [x'] at e
      omega
    · have := hg.lt k (.inr (.inr ⟨y, hy, .inr hk2⟩))
      have := own_base r1 k hk'
      omega
  · have := hW.size
    have := hb2.size
    rintro k (rfl | hk')
    · simp only [x']; omega
    · have := own_base r1 k hk'
      omega
end Go.Proofs.YthnodmbenbiahaaDoor
