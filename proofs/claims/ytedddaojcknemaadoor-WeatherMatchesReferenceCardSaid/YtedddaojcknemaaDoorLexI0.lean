import Derived.Test.YtedddaojcknemaaDoorLexH
import Derived.Laws.Tables
namespace Go.Proofs.YtedddaojcknemaaDoor
open Go.RowKit

theorem wpList_build2 {P : Program} {ops : Array Oper} {rest : List Oper} {o : Oper} {a : Act} {w : World} {Q : Exit → Act → World → Prop} (hgd : o.guard = none) (t i0 i1 : Nat) (x0 x1 : Operand) (ho : o.op = .build t #[(i0, x0), (i1, x1)])
    (v0 v1 : Value) (h0 : a.eval x0 = v0) (h1 : a.eval x1 = v1) (cells : Array Value) (hf : P.built t [(i0, v0), (i1, v1)] = some cells)
    (h : wpList P ops Q rest (a.put o.dst (.agg cells)) w) : wpList P ops Q (o :: rest) a w := by
  refine wpList_plain hgd fun K hK => ?_
  unfold Oper.wp execOp
  have := run_build (P := P) w t #[(i0, v0), (i1, v1)] cells hf
  simp only [ho, Sem.run_bind, List.map_toArray, List.map_cons, List.map_nil, h0, h1, this, Result.andThen_ok]
  exact hK _ _ h

/-- A scanner's cells. -/
def scanCells (s : ByteArray) : Array Value := #[.string s] ++ tabCells clsTab
theorem scan_size (s : ByteArray) : (scanCells s).size = 257 := by unfold scanCells; rw [Array.size_append, tab_size]; rfl
theorem scan_one (s : ByteArray) : ∀ u ∈ (scanCells s).toList, u.oneCell' = true := by
  intro u hu
  unfold scanCells at hu
  simp only [Array.toList_append, List.mem_append] at hu
  rcases hu with h | h
  · simp at h; subst h; rfl
  · exact tab_one _ u h
theorem scan_built (s : ByteArray) : Tryd.prog.built 87 [(0, .string s), (1, .agg (tabCells clsTab))] = some (scanCells s) := by kernel_rfl
theorem info_scan : (Tryd.prog.info? 87).map (·.size) = some 257 := by kernel_rfl
theorem scan_is {w : World} {b : Nat} {s : ByteArray} (h : w.heap[b]? = some (.cells (scanCells s) 87 (0, 0))) : IsScan w b s where
  text := (cell_of_row _ _ 0 _ _ _ h).trans (by unfold scanCells; rw [Array.getElem?_append_left (by simp)]; rfl)
  cls := fun c hc => (cell_of_row _ _ (1 + c) _ _ _ h).trans (by
    unfold scanCells
    rw [Array.getElem?_append_right (by simp), show 1 + c - (#[Value.string s] : Array Value).size = c by simp, tab_get _ _ hc]; rfl)


/-! Tokens in memory, and the steps of the loop over tokens. -/
def tokCells (t : Lx.Tok) : List Value := [.int .i64 t.kind, .string ⟨t.text.toArray⟩, .int .i64 t.n, .int .i64 t.at_]
def tokFlat : List Lx.Tok → List Value
  | [] => []
  | t :: r => tokCells t ++ tokFlat r
theorem tokFlat_snoc (l : List Lx.Tok) (t : Lx.Tok) : tokFlat (l ++ [t]) = tokFlat l ++ tokCells t := by
  induction l with
  | nil => simp [tokFlat]
  | cons a r ih => simp [tokFlat, ih]
theorem tokFlat_length (l : List Lx.Tok) : (tokFlat l).length = l.length * 4 := by
  induction l with
  | nil => rfl
  | cons a r ih => simp [tokFlat, tokCells, ih]; omega

theorem ownsRow_base {w : World} {base base' : Nat} {e : TypeId} {size : Nat} {v : Value} {n : Nat} {xs : List Value} (h : w.ownsRow base e size v n xs) (hb : base' ≤ base) : w.ownsRow base' e size v n xs := by
  refine ⟨h.1, ?_⟩
  rcases h.2 with h2 | ⟨g, cap, cur, hv, hg, r⟩
  · exact .inl h2
  · exact .inr ⟨g, cap, cur, hv, Nat.le_trans hb hg, r⟩
theorem ownsRow_slice {w : World} {base : Nat} {e : TypeId} {size : Nat} {v : Value} {n : Nat} {xs : List Value} (h : w.ownsRow base e size v n xs) : ∃ a c, v = .slice a n c := by
  rcases h.2 with ⟨h2, hn⟩ | ⟨g, cap, cur, hv, _⟩
  · subst hn; exact ⟨_, _, h2⟩
  · exact ⟨_, _, hv⟩
theorem ownsRow_below {w w' : World} {base : Nat} {e : TypeId} {size : Nat} {v : Value} {n : Nat} {xs : List Value} (h : w.ownsRow base e size v n xs) (hb : Below w.heap.size w w') : w'.ownsRow base e size v n xs :=
  h.kept ⟨hb.os, hb.tape, hb.output, hb.size, fun k hk _ => hb.block k hk⟩ (row := none) (by cases v.ownBlock <;> simp)
theorem IsScan.grown {w w' : World} {b : Nat} {s : ByteArray} {row : Option Nat} (h : IsScan w b s) (hg : w.grownBy w' row) (hne : some b ≠ row) : IsScan w' b s :=
  ⟨hg.cell h.text hne, fun c hc => hg.cell (h.cls c hc) hne⟩

theorem next_fail_err (l : List UInt8) (e : Int) (h : Lx.next 2 3 4 6 l = .fail e) : e = 2 ∨ e = 3 ∨ e = 4 ∨ e = 6 := by
  unfold Lx.next at h
  split at h
  · cases h; omega
  · simp only [] at h
    repeat' split at h
    all_goals first | (cases h; omega) | cases h
theorem next_tok_width (l : List UInt8) (k : Int) (t : List UInt8) (n : Int) (wd : Nat) (h : Lx.next 2 3 4 6 l = .tok k t n wd) : 0 < wd ∧ wd ≤ l.length := by
  unfold Lx.next at h
  split at h
  · cases h
  · rename_i c r
    simp only [] at h
    split at h
    · rename_i hc
      split at h
      · cases h
      · cases h
        have := Lx.run_le Lx.word (c :: r)
        refine ⟨?_, this⟩
        rw [Lx.run, if_pos (by rw [hc]; rfl)]; omega
    · split at h
      · rename_i hc
        split at h
        · cases h
        · cases h
          have := Lx.run_le (fun k => k == 4) (c :: r)
          refine ⟨?_, this⟩
          rw [Lx.run, if_pos (by rw [hc]; rfl)]; omega
      · split at h
        · split at h
          · cases h
          · rename_i m hm
            split at h
            · cases h
            · split at h
              · cases h
              · cases h
                obtain ⟨d, h1, _⟩ := close_at r m hm
                have := (List.getElem?_eq_some_iff.1 h1).1
                simp; omega
        · split at h
          · split at h
            · cases h
              rename_i hr
              cases r with
              | nil => cases hr
              | cons a q => simp
            · split at h
              · cases h
              · cases h; simp
          · split at h
            · cases h; simp
            · cases h

theorem gap_drop (s : ByteArray) (j : Nat) (hj : j ≤ s.size) : Lx.gap false (s.data.toList.drop j) = s.data.toList.drop (gapEnd s j) ∧ j ≤ gapEnd s j ∧ gapEnd s j ≤ s.size := by
  obtain ⟨n, h1, h2⟩ := Lx.gap_suffix false (s.data.toList.drop j)
  have hsz : s.data.size = s.size := rfl
  simp only [List.length_drop, Array.length_toList, hsz] at h2
  have e : gapEnd s j = j + n := by unfold gapEnd; rw [h1]; simp only [List.length_drop, Array.length_toList, hsz]; omega
  rw [e]
  exact ⟨by rw [h1, List.drop_drop], by omega, by omega⟩

/-- The state at the head of the loop: at i, the tokens so far. -/
def LexAt (s : ByteArray) (i : Nat) (out : List Lx.Tok) : Prop := ∃ k, s.size < k + i ∧ Lx.lexL k i (s.data.toList.drop i) out = Lx.lex s.data.toList
theorem lexAt_start (s : ByteArray) (hm : s.size ≤ 20000) : LexAt s (gapEnd s 0) [] := by
  have h := gap_drop s 0 (Nat.zero_le _)
  refine ⟨s.size + 1, by omega, ?_⟩
  have hsz : s.data.size = s.size := rfl
  rw [List.drop_zero] at h
  unfold Lx.lex
  rw [if_neg (by simp; omega), h.1]
  simp only [List.length_drop, Array.length_toList, hsz]
  congr 1
  omega
theorem lexAt_end (s : ByteArray) (i : Nat) (out : List Lx.Tok) (h : LexAt s i out) (hi : s.size ≤ i) : Lx.lex s.data.toList = ⟨out, 0, 0⟩ := by
  obtain ⟨k, hk, he⟩ := h
  rw [← he, drop_end s i hi]
  cases k <;> rfl
theorem lexAt_fail (s : ByteArray) (i : Nat) (out : List Lx.Tok) (h : LexAt s i out) (hi : i < s.size) (e : Int) (hn : Lx.next 2 3 4 6 (s.data.toList.drop i) = .fail e) : Lx.lex s.data.toList = ⟨[], e, i⟩ := by
  obtain ⟨k, hk, he⟩ := h
  obtain ⟨k, rfl⟩ : ∃ m, k = m + 1 := ⟨k - 1, by omega⟩
  rw [← he]
  rw [drop_cons' s i hi] at hn ⊢
  simp only [Lx.lexL, hn]
theorem lexAt_full (s : ByteArray) (i : Nat) (out : List Lx.Tok) (h : LexAt s i out) (hi : i < s.size) (kd : Int) (t : List UInt8) (n : Int) (wd : Nat) (hn : Lx.next 2 3 4 6 (s.data.toList.drop i) = .tok kd t n wd) (hl : out.length = 5000) :
    Lx.lex s.data.toList = ⟨[], 2, i⟩ := by
  obtain ⟨k, hk, he⟩ := h
  obtain ⟨k, rfl⟩ : ∃ m, k = m + 1 := ⟨k - 1, by omega⟩
  rw [← he]
  rw [drop_cons' s i hi] at hn ⊢
  simp only [Lx.lexL, hn]
  rw [if_pos hl]
theorem lexAt_step (s : ByteArray) (i : Nat) (out : List Lx.Tok) (h : LexAt s i out) (hi : i < s.size) (kd : Int) (t : List UInt8) (n : Int) (wd : Nat) (hn : Lx.next 2 3 4 6 (s.data.toList.drop i) = .tok kd t n wd) (hl : ¬ out.length = 5000) :
    LexAt s (gapEnd s (i + wd)) (out ++ [⟨kd, t, n, i⟩]) := by
  obtain ⟨k, hk, he⟩ := h
  obtain ⟨k, rfl⟩ : ∃ m, k = m + 1 := ⟨k - 1, by omega⟩
  have hw := next_tok_width _ _ _ _ _ hn
  have hsz : s.data.size = s.size := rfl
  simp only [List.length_drop, Array.length_toList, hsz] at hw
  have hg := gap_drop s (i + wd) (by omega)
  refine ⟨k, by omega, ?_⟩
  rw [← he]
  have ec := drop_cons' s i hi
  rw [ec] at hn ⊢
  simp only [Lx.lexL, hn]
  rw [if_neg hl, ← ec, List.drop_drop, hg.1]
  simp only [List.length_drop, Array.length_toList, hsz]
  congr 1
  omega
end Go.Proofs.YtedddaojcknemaaDoor
