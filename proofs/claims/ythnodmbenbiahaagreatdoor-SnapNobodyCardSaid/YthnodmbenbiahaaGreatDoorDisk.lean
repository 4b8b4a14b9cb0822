/- A disk in memory: which blocks it is, what it holds (a list of files by rising names), and what storing into it leaves. -/
import Derived.Test.YthnodmbenbiahaaGreatDoorBase
import Derived.Test.YthnodmbenbiahaaGreatDoorPure
import Derived.Test.YthnodmbenbiahaaGreatDoorShelf
namespace Go.Proofs.YthnodmbenbiahaaGreatDoor
open Go.RowKit Go.Maps

/-- api.File -/
structure FileD where
  name : ByteArray
  data : List UInt8
  safe : Int
  deriving DecidableEq
/-- A file of a disk, with where it lies. -/
structure Ent where
  name : ByteArray
  data : List UInt8
  safe : Int
  fb : Nat
  v : Value
def Ent.file (x : Ent) : FileD := ⟨x.name, x.data, x.safe⟩
theorem file_name (x : Ent) : FileD.name x.file = x.name := rfl

def ptrR : Value → Option (DataW Unit × List MemPlace)
  | .pointer (some ⟨b, 0, .none⟩) => some (.lit (.int .i64 b), [])
  | .pointer .none => some (.nil, [])
  | _ => none
theorem ptrR_some (b : Nat) : ptrR (.pointer (some ⟨b, 0, none⟩)) = some (.lit (.int .i64 b), []) := rfl
theorem ptrR_none : ptrR (.pointer none) = some (.nil, []) := rfl
theorem ptrR_inv {v : Value} {b : Nat} {ps : List MemPlace} (h : ptrR v = some (.lit (.int .i64 b), ps)) : v = .pointer (some ⟨b, 0, none⟩) := by
  unfold ptrR at h
  split at h
  · simp at h
    have e := Int.ofNat.inj h.1
    subst e
    rfl
  · simp at h
  · simp at h
theorem ptrR_inv0 {v : Value} {ps : List MemPlace} (h : ptrR v = some (.nil, ps)) : v = .pointer none := by
  unfold ptrR at h
  split at h
  · simp at h
  · rfl
  · simp at h

def lit (s : ByteArray) : Lit := .string s.data.toList
theorem lit_inj {a b : ByteArray} (h : lit a = lit b) : a = b := bytes_ext (by injection h)
theorem lit_key (s : ByteArray) : WideAt.IsKeyLit (lit s) := trivial
theorem lit_same (a b : ByteArray) : (lit a).sameKey (lit b) = decide (a = b) := by
  by_cases h : a = b
  · subst h; simpa using WideAt.sameKey_self (lit_key a)
  · rw [Maps.sameKey_ne (fun e => h (lit_inj e))]; simp [h]
def entry (x : Ent) : Lit × DataW Unit := (lit x.name, .lit (.int .i64 x.fb))
def MapIs (D : DataW Unit) (g : List Ent) : Prop := ∃ l, D = .map l ∧ l.Perm (g.map entry)

theorem insert_perm' (x : Lit × DataW Unit) : ∀ l, (DataW.insert x l).Perm (x :: l)
  | [] => List.Perm.refl _
  | y :: r => by
    unfold DataW.insert
    split
    · exact List.Perm.refl _
    · exact (List.Perm.cons _ (insert_perm' x r)).trans (List.Perm.swap _ _ _)
theorem filter_entry (g : List Ent) (s : ByteArray) : (g.map entry).filter (fun p => !p.1.sameKey (lit s)) = (ldel Ent.name g s).map entry := by
  unfold ldel
  rw [List.filter_map]
  congr 2
  funext x
  simp [entry, lit_same]
theorem MapIs.put {D : DataW Unit} {g : List Ent} (h : MapIs D g) (x : Ent) : MapIs (D.put (lit x.name) (.lit (.int .i64 x.fb))) (lput Ent.name g x) := by
  obtain ⟨l, rfl, hp⟩ := h
  refine ⟨_, rfl, (insert_perm' _ _).trans ?_⟩
  refine ((List.Perm.cons _ (hp.filter _)).trans ?_).trans ((lput_perm (nm := Ent.name) (l := g) x).map entry).symm
  rw [filter_entry]
  exact List.Perm.refl _
theorem MapIs.del {D : DataW Unit} {g : List Ent} (h : MapIs D g) (s : ByteArray) : MapIs (D.del (lit s)) (ldel Ent.name g s) := by
  obtain ⟨l, rfl, hp⟩ := h
  refine ⟨_, rfl, (hp.filter _).trans ?_⟩
  rw [filter_entry]
/-- What is turned keeps its name and its place: the map needs no store. -/
theorem MapIs.turn {D : DataW Unit} {g : List Ent} (h : MapIs D g) (hr : Rising Ent.name g) {x x' : Ent} (hx : x ∈ g) (hn : x'.name = x.name) (hf : x'.fb = x.fb) : MapIs D (lput Ent.name g x') := by
  obtain ⟨l, rfl, hp⟩ := h
  refine ⟨l, rfl, hp.trans ?_⟩
  refine ((perm_some hr hx).map entry).trans (List.Perm.trans ?_ ((lput_perm (nm := Ent.name) (l := g) x').map entry).symm)
  rw [List.map_cons, List.map_cons, hn]
  simp [entry, hn, hf]
theorem find_map_entry (g : List Ent) (s : ByteArray) : (g.map entry).find? (fun p => p.1.sameKey (lit s)) = (lfind Ent.name g s).map entry := by
  unfold lfind
  rw [List.find?_map]
  congr 2
  funext x
  simp [entry, lit_same]
theorem find_perm {l l' : List (Lit × DataW Unit)} (hp : l.Perm l') (uniq : ∀ p q, p ∈ l' → q ∈ l' → p.1 = q.1 → p = q) (s : ByteArray) : l.find? (fun p => p.1.sameKey (lit s)) = l'.find? (fun p => p.1.sameKey (lit s)) := by
  have key : ∀ p : Lit × DataW Unit, p.1.sameKey (lit s) = true → p.1 = lit s := fun p h => WideAt.sameKey_eq h
  cases h : l.find? (fun p => p.1.sameKey (lit s)) with
  | none =>
    symm
    rw [List.find?_eq_none] at h ⊢
    exact fun p hp' => h p (hp.mem_iff.2 hp')
  | some p =>
    have h1 := List.find?_some h
    have h2 := hp.mem_iff.1 (List.mem_of_find?_eq_some h)
    cases h' : l'.find? (fun p => p.1.sameKey (lit s)) with
    | none => exact absurd h1 (by simpa using List.find?_eq_none.1 h' p h2)
    | some q =>
      have h3 := List.find?_some h'
      rw [uniq p q h2 (List.mem_of_find?_eq_some h') ((key p h1).trans (key q h3).symm)]
theorem entries_ne {g : List Ent} (hr : Rising Ent.name g) : ∀ p q, p ∈ g.map entry → q ∈ g.map entry → p.1 = q.1 → p = q := by
  intro p q hp hq e
  obtain ⟨x, hx, rfl⟩ := List.mem_map.1 hp
  obtain ⟨y, hy, rfl⟩ := List.mem_map.1 hq
  rw [hr.inj hx hy (lit_inj e)]
theorem MapIs.at_ {D : DataW Unit} {g : List Ent} (h : MapIs D g) (hr : Rising Ent.name g) (s : ByteArray) (z : DataW Unit) : D.atKey (lit s) z = (match lfind Ent.name g s with | some x => .lit (.int .i64 x.fb) | none => z) := by
  obtain ⟨l, rfl, hp⟩ := h
  unfold DataW.atKey
  simp only
  rw [find_perm hp (entries_ne hr), find_map_entry]
  cases lfind Ent.name g s <;> rfl
theorem MapIs.has {D : DataW Unit} {g : List Ent} (h : MapIs D g) (hr : Rising Ent.name g) (s : ByteArray) : Maps.has D (lit s) = (lfind Ent.name g s).isSome := by
  obtain ⟨l, rfl, hp⟩ := h
  rw [Maps.has_eq]
  have e : l.any (fun p => p.1.sameKey (lit s)) = (l.find? (fun p => p.1.sameKey (lit s))).isSome := by rw [Bool.eq_iff_iff, List.find?_isSome]; simp
  rw [e, find_perm hp (entries_ne hr), find_map_entry, Option.isSome_map]
theorem MapIs.size {D : DataW Unit} {g : List Ent} (h : MapIs D g) : Maps.size D = g.length := by
  obtain ⟨l, rfl, hp⟩ := h
  rw [Maps.size_eq, hp.length_eq, List.length_map]
theorem MapIs.keys {D : DataW Unit} {g : List Ent} (h : MapIs D g) : (strKeys D).Perm (g.map fun x => x.name.data.toList) := by
  obtain ⟨l, rfl, hp⟩ := h
  refine (hp.map _).trans ?_
  rw [List.map_map]
  exact List.Perm.refl _
theorem ownsMap_tight {w : World} {P : Program} {k : TypeId} {b n : Nat} {D : DataW Unit} (h : w.ownsMap P k ptrR b n D) : w.ownsMap P k ptrR b (Maps.size D) D := by
  obtain ⟨es, clock, hb, F, _, rfl⟩ := h
  exact ⟨es, clock, hb, F, by rw [Maps.size_eq, length_sorted]; simp, rfl⟩
theorem ownsMap_step {w w' : World} {P : Program} {k : TypeId} {b n : Nat} {D : DataW Unit} (h : w.ownsMap P k ptrR b n D) (hs : w'.heap[b]? = w.heap[b]?) : w'.ownsMap P k ptrR b n D := by
  obtain ⟨es, clock, hb, r⟩ := h
  exact ⟨es, clock, hs.trans hb, r⟩

/-! ### the disk -/
/-- The file x lies in memory. -/
structure FileAt (w : World) (x : Ent) : Prop where
  blk : w.heap[x.fb]? = some (.cells #[x.v, .int .i64 x.safe] 121 (0, 0))
  row : w.ownsRow 0 5 1 x.v x.data.length (x.data.map byteV)
theorem FileAt.step {w w' : World} {x : Ent} (h : FileAt w x) {ok : Nat → Prop} (hs : Same w w' ok) (h1 : ok x.fb) (h2 : ∀ k, x.v.ownBlock = some k → ok k) : FileAt w' x := ⟨hs.blk h1 h.blk, own_step h.row hs h2⟩
theorem FileAt.lt {w : World} {x : Ent} (h : FileAt w x) : x.fb < w.heap.size := (Array.getElem?_eq_some_iff.1 h.blk).1
theorem FileAt.ne {w : World} {x y : Ent} (h : FileAt w x) (h' : FileAt w y) : ∀ k, x.v.ownBlock = some k → k ≠ y.fb := fun k hk e => by
  obtain ⟨cur, hc⟩ := own_typed h.row k hk
  rw [e, h'.blk] at hc
  simp at hc
/-- A name that may be. -/
def okName (s : ByteArray) : Bool := decide (1 ≤ s.size) && (decide (s.size ≤ 32) && s.data.toList.all fun c => (decide (97 ≤ c.toNat) && decide (c.toNat ≤ 122)) || (decide (48 ≤ c.toNat) && decide (c.toNat ≤ 57)) || decide (c.toNat = 46) || decide (c.toNat = 45))
theorem okName_size {s : ByteArray} (h : okName s = true) : 1 ≤ s.size ∧ s.size ≤ 32 := by
  unfold okName at h
  simp only [Bool.and_eq_true, decide_eq_true_eq] at h
  exact ⟨h.1, h.2.1⟩
/-- A disk at block p, its map at block mb, with the files g. -/
structure DiskG (w : World) (p mb : Nat) (g : List Ent) : Prop where
  pc : w.heap[p]? = some (.cells #[.map (some mb)] 76 (0, 0))
  mp : ∃ D, w.ownsMap Tryz.prog 9 ptrR mb (Maps.size D) D ∧ MapIs D g
  fl : ∀ x ∈ g, FileAt w x
  so : Rising Ent.name g
  nd : ∀ x ∈ g, ∀ y ∈ g, x.name ≠ y.name → x.fb ≠ y.fb ∧ ∀ k, x.v.ownBlock = some k → y.v.ownBlock ≠ some k
  nm : ∀ x ∈ g, okName x.name = true
  sz : ∀ x ∈ g, x.data.length ≤ 65536 ∧ 0 ≤ x.safe ∧ x.safe ≤ x.data.length
  ct : g.length ≤ 64
/-- The blocks of files. -/
def Has (g : List Ent) (k : Nat) : Prop := ∃ x ∈ g, k = x.fb ∨ x.v.ownBlock = some k
/-- The disk's blocks. -/
def Own (p mb : Nat) (g : List Ent) (k : Nat) : Prop := k = p ∨ k = mb ∨ Has g k

section
variable {w w' : World} {p mb : Nat} {g : List Ent}
theorem DiskG.mlt (h : DiskG w p mb g) : mb < w.heap.size := by
  obtain ⟨D, h1, _⟩ := h.mp
  exact h1.lt
theorem DiskG.plt (h : DiskG w p mb g) : p < w.heap.size := (Array.getElem?_eq_some_iff.1 h.pc).1
theorem DiskG.lt (h : DiskG w p mb g) : ∀ k, Own p mb g k → k < w.heap.size := by
  rintro k (rfl | rfl | ⟨x, hx, rfl | hk⟩)
  · exact h.plt
  · exact h.mlt
  · exact (h.fl x hx).lt
  · exact own_lt (h.fl x hx).row k hk
theorem DiskG.p_ne (h : DiskG w p mb g) : p ≠ mb ∧ ¬ Has g p := by
  obtain ⟨D, ⟨es, clock, hb, _⟩, _⟩ := h.mp
  refine ⟨fun e => ?_, ?_⟩
  · rw [← e, h.pc] at hb; simp at hb
  · rintro ⟨x, hx, e | hk⟩
    · have := (h.fl x hx).blk
      rw [← e, h.pc] at this
      simp at this
    · obtain ⟨cur, hc⟩ := own_typed (h.fl x hx).row p hk
      rw [h.pc] at hc
      simp at hc
theorem DiskG.m_ne (h : DiskG w p mb g) : ¬ Has g mb := by
  obtain ⟨D, ⟨es, clock, hb, _⟩, _⟩ := h.mp
  rintro ⟨x, hx, e | hk⟩
  · have := (h.fl x hx).blk
    rw [← e, hb] at this
    simp at this
  · obtain ⟨cur, hc⟩ := own_typed (h.fl x hx).row mb hk
    rw [hb] at hc
    simp at hc
theorem DiskG.step (h : DiskG w p mb g) {ok : Nat → Prop} (hs : Same w w' ok) (hk : ∀ k, Own p mb g k → ok k) : DiskG w' p mb g := by
  obtain ⟨D, h1, h2⟩ := h.mp
  exact ⟨hs.blk (hk p (.inl rfl)) h.pc, ⟨D, ownsMap_step h1 (hs mb (hk mb (.inr (.inl rfl))) h.mlt), h2⟩,
    fun x hx => (h.fl x hx).step hs (hk _ (.inr (.inr ⟨x, hx, .inl rfl⟩))) (fun k hk' => hk k (.inr (.inr ⟨x, hx, .inr hk'⟩))), h.so, h.nd, h.nm, h.sz, h.ct⟩
/-- A file is put: the map says so already (hm), the file lies in memory (hx), apart from the others (ha); the others are as they were (hs). -/
theorem DiskG.put (h : DiskG w p mb g) (x : Ent) {ok : Nat → Prop} (hs : Same w w' ok) (hk : ∀ k, k = p ∨ Has (ldel Ent.name g x.name) k → ok k)
    (hm : ∃ D, w'.ownsMap Tryz.prog 9 ptrR mb (Maps.size D) D ∧ MapIs D (lput Ent.name g x)) (hx : FileAt w' x)
    (ha : ∀ y ∈ g, y.name ≠ x.name → x.fb ≠ y.fb ∧ ∀ k, x.v.ownBlock = some k → y.v.ownBlock ≠ some k)
    (h1 : okName x.name = true) (h2 : x.data.length ≤ 65536 ∧ 0 ≤ x.safe ∧ x.safe ≤ x.data.length) (h3 : (lput Ent.name g x).length ≤ 64) : DiskG w' p mb (lput Ent.name g x) where
  pc := hs.blk (hk p (.inl rfl)) h.pc
  mp := hm
  fl y hy := by
    rcases mem_lput.1 hy with rfl | ⟨hy, hne⟩
    · exact hx
    · have hm' := mem_ldel.2 ⟨hy, hne⟩
      exact (h.fl y hy).step hs (hk _ (.inr ⟨y, hm', .inl rfl⟩)) (fun k hk' => hk k (.inr ⟨y, hm', .inr hk'⟩))
  so := h.so.put x
  nd y hy z hz hne := by
    rcases mem_lput.1 hy with e | ⟨hy1, hy'⟩
    · subst e
      rcases mem_lput.1 hz with e | ⟨hz1, hz'⟩
      · exact absurd e.symm (fun e => hne (by rw [e]))
      · exact ha z hz1 hz'
    · rcases mem_lput.1 hz with e | ⟨hz1, hz'⟩
      · subst e
        obtain ⟨e1, e2⟩ := ha y hy1 hy'
        exact ⟨fun e => e1 e.symm, fun k hk hk' => e2 k hk' hk⟩
      · exact h.nd y hy1 z hz1 hne
  nm y hy := by
    rcases mem_lput.1 hy with rfl | ⟨hy, _⟩
    · exact h1
    · exact h.nm y hy
  sz y hy := by
    rcases mem_lput.1 hy with rfl | ⟨hy, _⟩
    · exact h2
    · exact h.sz y hy
  ct := h3
/-- A file is taken away. -/
theorem DiskG.del (h : DiskG w p mb g) (s : ByteArray) {ok : Nat → Prop} (hs : Same w w' ok) (hk : ∀ k, k = p ∨ Has (ldel Ent.name g s) k → ok k)
    (hm : ∃ D, w'.ownsMap Tryz.prog 9 ptrR mb (Maps.size D) D ∧ MapIs D (ldel Ent.name g s)) : DiskG w' p mb (ldel Ent.name g s) where
  pc := hs.blk (hk p (.inl rfl)) h.pc
  mp := hm
  fl y hy := (h.fl y (mem_ldel.1 hy).1).step hs (hk _ (.inr ⟨y, hy, .inl rfl⟩)) (fun k hk' => hk k (.inr ⟨y, hy, .inr hk'⟩))
  so := h.so.del s
  nd y hy z hz hne := h.nd y (mem_ldel.1 hy).1 z (mem_ldel.1 hz).1 hne
  nm y hy := h.nm y (mem_ldel.1 hy).1
  sz y hy := h.sz y (mem_ldel.1 hy).1
  ct := Nat.le_trans (List.length_filter_le _ _) h.ct
/-- A file is turned where it lies. -/
theorem DiskG.turn (h : DiskG w p mb g) {x : Ent} (hx : x ∈ g) (x' : Ent) (hn : x'.name = x.name) (hf : x'.fb = x.fb)
    (hs : Same w w' (fun k => k ≠ x.fb ∧ x.v.ownBlock ≠ some k)) (hb : FileAt w' x') (hv : ∀ k, x'.v.ownBlock = some k → x.v.ownBlock = some k ∨ w.heap.size ≤ k)
    (h2 : x'.data.length ≤ 65536 ∧ 0 ≤ x'.safe ∧ x'.safe ≤ x'.data.length) : DiskG w' p mb (lput Ent.name g x') := by
  have hxf := h.fl x hx
  have hdel : ∀ k, Has (ldel Ent.name g x'.name) k → k ≠ x.fb ∧ x.v.ownBlock ≠ some k := by
    rintro k ⟨y, hy, hk⟩
    obtain ⟨hy, hne⟩ := mem_ldel.1 hy
    rw [hn] at hne
    obtain ⟨e1, e2⟩ := h.nd y hy x hx hne
    rcases hk with rfl | hk
    · exact ⟨e1, fun e => (hxf.ne (h.fl y hy)) _ e rfl⟩
    · exact ⟨((h.fl y hy).ne hxf) k hk, e2 k hk⟩
  have hp : p ≠ x.fb ∧ x.v.ownBlock ≠ some p := ⟨fun e => h.p_ne.2 ⟨x, hx, .inl e⟩, fun e => h.p_ne.2 ⟨x, hx, .inr e⟩⟩
  have hmb : mb ≠ x.fb ∧ x.v.ownBlock ≠ some mb := ⟨fun e => h.m_ne ⟨x, hx, .inl e⟩, fun e => h.m_ne ⟨x, hx, .inr e⟩⟩
  obtain ⟨D, m1, m2⟩ := h.mp
  refine h.put x' hs (fun k hk => ?_) ⟨D, ownsMap_step m1 (hs mb hmb h.mlt), m2.turn h.so hx hn hf⟩ hb (fun y hy hne => ?_) (by rw [hn]; exact h.nm x hx) h2 (by rw [lput_length_some h.so hx hn.symm]; exact h.ct)
  · rcases hk with rfl | hk
    · exact hp
    · exact hdel k hk
  · rw [hn] at hne
    obtain ⟨e1, e2⟩ := h.nd y hy x hx hne
    refine ⟨by rw [hf]; exact fun e => e1 e.symm, fun k hk hk' => ?_⟩
    rcases hv k hk with hv | hv
    · exact e2 k hk' hv
    · have := own_lt (h.fl y hy).row k hk'
      omega
end

/-- A disk (block p) with the files m, all in blocks of ok. -/
def DiskAt (w : World) (p : Nat) (ok : Nat → Prop) (m : List FileD) : Prop := ∃ mb g, DiskG w p mb g ∧ g.map Ent.file = m ∧ ∀ k, Own p mb g k → ok k
theorem DiskAt.step {w w' : World} {p : Nat} {ok : Nat → Prop} {m : List FileD} (h : DiskAt w p ok m) (hs : Same w w' ok) : DiskAt w' p ok m := by
  obtain ⟨mb, g, h1, h2, h3⟩ := h
  exact ⟨mb, g, h1.step hs h3, h2, h3⟩
theorem DiskAt.mono {w : World} {p : Nat} {ok ok' : Nat → Prop} {m : List FileD} (h : DiskAt w p ok m) (hk : ∀ k, ok k → k < w.heap.size → ok' k) : DiskAt w p ok' m := by
  obtain ⟨mb, g, h1, h2, h3⟩ := h
  exact ⟨mb, g, h1, h2, fun k hk' => hk k (h3 k hk') (h1.lt k hk')⟩
theorem DiskAt.rising {w : World} {p : Nat} {ok : Nat → Prop} {m : List FileD} (h : DiskAt w p ok m) : Rising FileD.name m := by
  obtain ⟨mb, g, h1, rfl, _⟩ := h
  exact (rising_map (nm := Ent.name) (nb := FileD.name) (f := Ent.file) (fun _ => rfl) g).2 h1.so
end Go.Proofs.YthnodmbenbiahaaGreatDoor
