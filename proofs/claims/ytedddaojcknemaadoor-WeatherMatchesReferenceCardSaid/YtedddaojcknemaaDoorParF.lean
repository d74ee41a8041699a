/- The loop over the kinds: which one has the word. -/
import Derived.Test.YtedddaojcknemaaDoorParD
namespace Go.Proofs.YtedddaojcknemaaDoor
open Go.RowKit

/-- One step of the loop over the kinds: in whatever order. -/
theorem word_next (w : World) (br bm : Nat) (seen : Array Nat) (hr : w.heap[br]? = some (.mapIter (some bm) 3 seen 3)) (hb : w.heap[bm]? = some kindMap) (hne : bm ≠ br) :
    ((leftOf kindEs seen).size = 0 ∧ ∀ ty, (Instr.next (.pointer (some ⟨br, 0, none⟩)) false ty).run Tryd.prog w = .ok (.tuple #[.bool false]) w) ∨
    ∃ e ∈ kindEs.toList, ∃ W, (∀ ty, (Instr.next (.pointer (some ⟨br, 0, none⟩)) false ty).run Tryd.prog w = .ok (.tuple #[.bool true, e.key, e.val]) W) ∧ (Instr.entry (.pointer (some ⟨br, 0, none⟩))).run Tryd.prog W = .ok (.tuple #[e.key, e.val]) W ∧
      W.heap[br]? = some (.mapIter (some bm) 3 (seen.push e.born) 3) ∧ (∀ k, k ≠ br → W.heap[k]? = w.heap[k]?) ∧ Below br w W ∧ W.heap.size = w.heap.size ∧ (leftOf kindEs (seen.push e.born)).size < (leftOf kindEs seen).size := by
  have hlt : br < w.heap.size := (Array.getElem?_eq_some_iff.1 hr).1
  rcases run_next_at (P := Tryd.prog) w 0 br bm 3 3 seen kindEs 3 hr hb (by decide) (Nat.le_refl _) with ⟨h0, hrun⟩ | ⟨e, he, w1, hw1, hrun⟩
  · exact .inl ⟨h0, fun _ => hrun⟩
  · refine .inr ⟨e, (mem_left he).1, _, fun _ => hrun, ?_, ?_, ?_, ?_, ?_, left_shrinks _ _ _ he⟩
    · refine run_entry_at _ br bm 3 seen kindEs 3 e ?_ ?_ (mem_left he).1 (by decide)
      · rcases hw1 with rfl | rfl
        · simp [ChangeMaps.setBlock, Array.getElem?_setIfInBounds_self_of_lt hlt]
        · simp only [ChangeMaps.setBlock]; exact Array.getElem?_setIfInBounds_self_of_lt hlt
      · rcases hw1 with rfl | rfl
        · simp only [ChangeMaps.setBlock]; rw [Array.getElem?_setIfInBounds_ne (Ne.symm hne)]; exact hb
        · simp only [ChangeMaps.setBlock]; rw [Array.getElem?_setIfInBounds_ne (Ne.symm hne)]; exact hb
    · rcases hw1 with rfl | rfl
      · simp only [ChangeMaps.setBlock]; exact Array.getElem?_setIfInBounds_self_of_lt hlt
      · simp only [ChangeMaps.setBlock]; exact Array.getElem?_setIfInBounds_self_of_lt hlt
    · intro k hk
      rcases hw1 with rfl | rfl
      · simp only [ChangeMaps.setBlock]; exact Array.getElem?_setIfInBounds_ne (Ne.symm hk)
      · simp only [ChangeMaps.setBlock]; exact Array.getElem?_setIfInBounds_ne (Ne.symm hk)
    · rcases hw1 with rfl | rfl
      · exact ⟨rfl, rfl, rfl, by simp [ChangeMaps.setBlock], fun k hk => by simp only [ChangeMaps.setBlock]; exact Array.getElem?_setIfInBounds_ne (by omega)⟩
      · exact ⟨rfl, rfl, rfl, by simp only [ChangeMaps.setBlock, Array.size_setIfInBounds]; exact Nat.le_refl _, fun k hk => by simp only [ChangeMaps.setBlock]; exact Array.getElem?_setIfInBounds_ne (by omega)⟩
    · rcases hw1 with rfl | rfl
      · simp [ChangeMaps.setBlock]
      · simp only [ChangeMaps.setBlock, Array.size_setIfInBounds]; rfl

/-- The kinds' words. -/
theorem kw_1 (t : List UInt8) : Pz.kw t = 1 ↔ [99, 108, 111, 117, 100] = t := by
  unfold Pz.kw; constructor
  · intro h; split at h
    · exact (by assumption : t = _).symm
    · split at h
      · exact absurd h (by decide)
      · split at h <;> exact absurd h (by decide)
  · rintro rfl; rfl
theorem kw_2 (t : List UInt8) : Pz.kw t = 2 ↔ [115, 101, 101, 105, 110, 103] = t := by
  unfold Pz.kw; constructor
  · intro h; split at h
    · exact absurd h (by decide)
    · split at h
      · exact (by assumption : t = _).symm
      · split at h <;> exact absurd h (by decide)
  · rintro rfl; rfl
theorem kw_3 (t : List UInt8) : Pz.kw t = 3 ↔ [99, 108, 111, 115, 101, 100] = t := by
  unfold Pz.kw; constructor
  · intro h; split at h
    · exact absurd h (by decide)
    · split at h
      · exact absurd h (by decide)
      · split at h
        · exact (by assumption : t = _).symm
        · exact absurd h (by decide)
  · rintro rfl; rfl
theorem kw_range (t : List UInt8) : Pz.kw t = 0 ∨ Pz.kw t = 1 ∨ Pz.kw t = 2 ∨ Pz.kw t = 3 := by
  unfold Pz.kw; repeat' split
  all_goals simp

/-- What stands in the spell's kind when some kinds have been seen. -/
def KindSo (K : Int) (seen : Array Nat) (κ : Int) : Prop := (κ = 0 ∨ κ = K) ∧ ∀ j : Nat, seen.contains j = true → K = (j : Int) + 1 → κ = K
theorem kindSo_end {K κ : Int} {seen : Array Nat} (h : KindSo K seen κ) (hK : K = 0 ∨ K = 1 ∨ K = 2 ∨ K = 3) (h0 : (leftOf kindEs seen).size = 0) : κ = K := by
  have hs := all_seen kindEs seen h0
  have a0 := hs ⟨.int .i64 1, kind1, 0⟩ (by simp [kindEs])
  have a1 := hs ⟨.int .i64 2, kind2, 1⟩ (by simp [kindEs])
  have a2 := hs ⟨.int .i64 3, kind3, 2⟩ (by simp [kindEs])
  rcases hK with rfl | rfl | rfl | rfl
  · rcases h.1 with h | h <;> exact h
  · exact h.2 0 a0 rfl
  · exact h.2 1 a1 rfl
  · exact h.2 2 a2 rfl
theorem kindSo_hit {K κ : Int} {seen : Array Nat} (j : Nat) (_h : KindSo K seen κ) (hK : K = (j : Int) + 1) : KindSo K (seen.push j) ((j : Int) + 1) := ⟨.inr hK.symm, fun _ _ _ => hK.symm⟩
theorem kindSo_miss {K κ : Int} {seen : Array Nat} (j : Nat) (h : KindSo K seen κ) (hK : K ≠ (j : Int) + 1) : KindSo K (seen.push j) κ :=
  ⟨h.1, fun i hi hk => by
    by_cases hij : i = j
    · subst hij; exact absurd hk hK
    · refine h.2 i ?_ hk
      simpa [hij] using hi⟩

/-- The spell's and the word's blocks, the map's and the iterator's. -/
structure WordIs (s : ByteArray) (w0 : World) (b1 b2 b3 b4 b5 b6 B : Nat) (r : List Lx.Tok) (out : List Sp) (t : Lx.Tok) (b8 b9 bm br : Nat) (κ : Int) (seen : Array Nat) (w : World) : Prop where
  pf : PF s w0 b1 b2 b3 b4 b5 b6 B r out w
  r8 : w.heap[b8]? = some (.cells #[.int .i64 κ, .int .i64 0, .int .i64 0, .int .i64 0, .int .i64 0] 32 (0, 0))
  r9 : w.heap[b9]? = some (.cells #[.int .i64 t.kind, .string ⟨t.text.toArray⟩, .int .i64 t.n, .int .i64 t.at_] 50 (0, 0))
  rm : w.heap[bm]? = some kindMap
  ri : w.heap[br]? = some (.mapIter (some bm) 3 seen 3)
  lt : B ≤ b8 ∧ b8 < b9 ∧ b9 < bm ∧ bm < br
  so : KindSo (Pz.kw t.text) seen κ
def WordRel (s : ByteArray) (w0 : World) (b1 b2 b3 b4 b5 b6 B : Nat) (r : List Lx.Tok) (out : List Sp) (t : Lx.Tok) (b8 b9 bm br : Nat) (k : Nat) (w : World) : Prop :=
  ∃ κ seen, WordIs s w0 b1 b2 b3 b4 b5 b6 B r out t b8 b9 bm br κ seen w ∧ (leftOf kindEs seen).size ≤ k

section
variable {s : ByteArray} {w0 : World} {b1 b2 b3 b4 b5 b6 B : Nat} {r : List Lx.Tok} {out : List Sp} {t : Lx.Tok} {b8 b9 bm br : Nat} {κ : Int} {seen : Array Nat} {w W : World}
/-- Behind a step, the spell's block as it was. -/
theorem WordIs.miss (h : WordIs s w0 b1 b2 b3 b4 b5 b6 B r out t b8 b9 bm br κ seen w) (j : Nat) (hi : W.heap[br]? = some (.mapIter (some bm) 3 (seen.push j) 3)) (hk : ∀ k, k ≠ br → W.heap[k]? = w.heap[k]?) (hB : Below br w W) (hz : W.heap.size = w.heap.size)
    (hK : Pz.kw t.text ≠ (j : Int) + 1) (o : Obj) : WordIs s w0 b1 b2 b3 b4 b5 b6 B r out t b8 b9 bm br κ (seen.push j) (W.alloc o) := by
  obtain ⟨l1, l2, l3, l4⟩ := h.lt
  have hlt := (Array.getElem?_eq_some_iff.1 h.ri).1
  refine ⟨h.pf.below ((hB.mono (by omega)).alloc (by omega) _), mustKeep ((hk b8 (by omega)).trans h.r8) o, mustKeep ((hk b9 (by omega)).trans h.r9) o, mustKeep ((hk bm (by omega)).trans h.rm) o, mustKeep hi o, h.lt, kindSo_miss j h.so hK⟩
theorem WordIs.hit (h : WordIs s w0 b1 b2 b3 b4 b5 b6 B r out t b8 b9 bm br κ seen w) (j : Nat) (hi : W.heap[br]? = some (.mapIter (some bm) 3 (seen.push j) 3)) (hk : ∀ k, k ≠ br → W.heap[k]? = w.heap[k]?) (hB : Below br w W) (hz : W.heap.size = w.heap.size)
    (hK : Pz.kw t.text = (j : Int) + 1) (o : Obj) : WordIs s w0 b1 b2 b3 b4 b5 b6 B r out t b8 b9 bm br ((j : Int) + 1) (seen.push j) ((W.setCell ⟨b8, 0, none⟩ (.int .i64 ((j : Int) + 1))).alloc o) := by
  obtain ⟨l1, l2, l3, l4⟩ := h.lt
  have hlt := (Array.getElem?_eq_some_iff.1 h.ri).1
  have q8 := heap_setCell_same W b8 0 _ _ (.int .i64 ((j : Int) + 1)) ((hk b8 (by omega)).trans h.r8)
  refine ⟨h.pf.below (((hB.mono (by omega)).setCell l1 _).alloc (by simp [World.setCell]; omega) _), mustKeep q8 o, mustKeep (set_keep ((hk b9 (by omega)).trans h.r9) (by omega) _) o, mustKeep (set_keep ((hk bm (by omega)).trans h.rm) (by omega) _) o, mustKeep (set_keep hi (by omega) _) o, h.lt, kindSo_hit j h.so hK⟩
theorem word_start (hF : PF s w0 b1 b2 b3 b4 b5 b6 B r out w) (h8 : w.heap[b8]? = some (.cells #[.int .i64 0, .int .i64 0, .int .i64 0, .int .i64 0, .int .i64 0] 32 (0, 0))) (hb : B ≤ b8) :
    WordIs s w0 b1 b2 b3 b4 b5 b6 B r out t b8 w.heap.size (w.heap.size + 1) (w.heap.size + 1 + 1) 0 #[]
      (((w.alloc (.cells #[.int .i64 t.kind, .string ⟨t.text.toArray⟩, .int .i64 t.n, .int .i64 t.at_] 50)).alloc kindMap).alloc (.mapIter (some (w.heap.size + 1)) 3 #[] 3)) := by
  have hl := (Array.getElem?_eq_some_iff.1 h8).1
  refine ⟨hF.below ((((Below.refl _ _).alloc hF.lt.2.2.2.2.2.2.2 _).alloc (by have := hF.lt; simp; omega) _).alloc (by have := hF.lt; simp; omega) _), mustKeep (mustKeep (mustKeep h8 _) _) _, heap_alloc3_old _ _ _ _, heap_alloc3_mid _ _ _ _, heap_alloc3_new _ _ _ _, ⟨hb, hl, by omega, by omega⟩, .inl rfl, ?_⟩
  intro j hj
  simp at hj
end
theorem nx_len {sz kind : Int} {l r : List Lx.Tok} {t : Lx.Tok} (h : Pz.nx sz kind l = .ok t r) : l.length = r.length + 1 := by
  cases l with
  | nil => simp [Pz.nx] at h
  | cons t0 r0 =>
    have h' : (if t0.kind = kind then Pz.Res.ok t0 r0 else .fail 5 t0.at_) = .ok t r := h
    by_cases hk : t0.kind = kind
    · rw [if_pos hk] at h'; injection h' with h1 h2; rw [h2]; rfl
    · rw [if_neg hk] at h'; cases h'
theorem mu_len {sz kind : Int} {text : List UInt8} {l r : List Lx.Tok} {e : Int} (h : Pz.mu sz kind text l = .ok e r) : l.length = r.length + 1 := by
  cases l with
  | nil => simp [Pz.mu] at h
  | cons t0 r0 =>
    have h' : (if t0.kind = kind ∧ t0.text = text then Pz.Res.ok t0.at_ r0 else .fail 5 t0.at_) = .ok e r := h
    by_cases hk : t0.kind = kind ∧ t0.text = text
    · rw [if_pos hk] at h'; injection h' with h1 h2; rw [h2]; rfl
    · rw [if_neg hk] at h'; cases h'
end Go.Proofs.YtedddaojcknemaaDoor
