/- A slice that can be read: its elements' cells, one behind the other. General words, no program. -/
import Derived.Test.YtedddaojcknemaaDoorLexI0
namespace Go.Proofs.YtedddaojcknemaaDoor
open Go.RowKit

/-- v is a slice of n elements, size cells each; the cells read as xs. -/
def ReadRow (w : World) (size : Nat) (v : Value) (n : Nat) (xs : List Value) : Prop :=
  xs.length = n * size ∧ ∃ a c, v = .slice a n c ∧ n ≤ c ∧ c ≤ maxLen ∧ (n = 0 ∨ ∃ g off, a = some ⟨g, off, none⟩ ∧ g < w.heap.size ∧ ∀ j u, xs[j]? = some u → w.cell? ⟨g, off + j, none⟩ = some u)

theorem ReadRow.of_owns {w : World} {base : Nat} {e : TypeId} {size : Nat} {v : Value} {n : Nat} {xs : List Value} (h : w.ownsRow base e size v n xs) : ReadRow w size v n xs := by
  refine ⟨h.1, ?_⟩
  rcases h.2 with ⟨rfl, rfl⟩ | ⟨g, cap, cur, rfl, hb, hg, hn, hc, hs, ht⟩
  · exact ⟨none, 0, rfl, Nat.le_refl _, by unfold maxLen; omega, .inl rfl⟩
  · refine ⟨_, cap, rfl, hn, hc, .inr ⟨g, 0, rfl, (Array.getElem?_eq_some_iff.1 hg).1, fun j u hu => ?_⟩⟩
    have := h.cells (g := g) rfl j u hu
    have hadd : (⟨g, 0, none⟩ : Addr).add j = ⟨g, 0 + j, none⟩ := by unfold Addr.add; split <;> simp_all
    rwa [hadd] at this
theorem ReadRow.of_block {w w' : World} {size : Nat} {v : Value} {n : Nat} {xs : List Value} (h : ReadRow w size v n xs) (hs : w.heap.size ≤ w'.heap.size) (hb : ∀ a m c, v = .slice (some a) m c → n ≠ 0 → w'.heap[a.block]? = w.heap[a.block]?) : ReadRow w' size v n xs := by
  obtain ⟨h1, a, c, rfl, h2, h3, h4⟩ := h
  refine ⟨h1, a, c, rfl, h2, h3, ?_⟩
  rcases h4 with h4 | ⟨g, off, rfl, hg, hc⟩
  · exact .inl h4
  · by_cases hn : n = 0
    · exact .inl hn
    · exact .inr ⟨g, off, rfl, by omega, fun j u hu => by
        have := hb ⟨g, off, none⟩ n c rfl hn
        rw [World.cell?_of_block (w := w) (a := ⟨g, off + j, none⟩) this]; exact hc j u hu⟩
theorem ReadRow.lt {w : World} {size : Nat} {v : Value} {n : Nat} {xs : List Value} (h : ReadRow w size v n xs) : ∀ a m c, v = .slice (some a) m c → n ≠ 0 → a.block < w.heap.size := by
  obtain ⟨h1, a, c, rfl, h2, h3, h4⟩ := h
  rintro a' m c' ⟨⟩ hn
  rcases h4 with h4 | ⟨g, off, he, hg, hc⟩
  · exact absurd h4 hn
  · cases he; exact hg
theorem ReadRow.below {w w' : World} {size : Nat} {v : Value} {n : Nat} {xs : List Value} (h : ReadRow w size v n xs) (hb : Below w.heap.size w w') : ReadRow w' size v n xs :=
  h.of_block hb.size fun a m c hv hn => hb.block a.block (h.lt a m c hv hn)
/-- The block that a slice lies in. -/
theorem ReadRow.grown {w w' : World} {size : Nat} {v : Value} {n : Nat} {xs : List Value} {row : Option Nat} (h : ReadRow w size v n xs) (hg : w.grownBy w' row) (hne : n = 0 ∨ v.ownBlock ≠ row) : ReadRow w' size v n xs :=
  h.of_block hg.size fun a m c hv hn => hg.block a.block (h.lt a m c hv hn) (by rcases hne with h0 | h0; exact absurd h0 hn; subst hv; exact h0)
theorem ReadRow.slice {w : World} {size : Nat} {v : Value} {n : Nat} {xs : List Value} (h : ReadRow w size v n xs) : ∃ a c, v = .slice a n c ∧ n ≤ c ∧ c ≤ maxLen ∧ (n ≠ 0 → ∃ g off, a = some ⟨g, off, none⟩ ∧ ∀ j u, xs[j]? = some u → w.cell? ⟨g, off + j, none⟩ = some u) := by
  obtain ⟨h1, a, c, rfl, h2, h3, h4⟩ := h
  refine ⟨a, c, rfl, h2, h3, fun hn => ?_⟩
  rcases h4 with h4 | ⟨g, off, rfl, hg, hc⟩
  · exact absurd h4 hn
  · exact ⟨g, off, rfl, hc⟩
/-- The rest behind the first element. -/
theorem ReadRow.tail {w : World} {size n c off g : Nat} {ys xs : List Value} (h : ReadRow w size (.slice (some ⟨g, off, none⟩) (n + 1) c) (n + 1) (ys ++ xs)) (hy : ys.length = size) (a : Option Addr) (ha : n ≠ 0 → a = some ⟨g, off + size, none⟩) (c' : Nat) (hc' : n ≤ c' ∧ c' ≤ maxLen) :
    ReadRow w size (.slice a n c') n xs := by
  obtain ⟨h1, a0, c0, he, h2, h3, h4⟩ := h
  cases he
  refine ⟨by simp [hy, Nat.add_mul] at h1; omega, a, c', rfl, hc'.1, hc'.2, ?_⟩
  by_cases hn : n = 0
  · exact .inl hn
  · rcases h4 with h4 | ⟨g', off', he, hg, hc⟩
    · omega
    · cases he
      refine .inr ⟨g, off + size, ha hn, hg, fun j u hu => ?_⟩
      have := hc (size + j) u (by rw [List.getElem?_append_right (by omega), hy, show size + j - size = j by omega]; exact hu)
      rwa [← Nat.add_assoc] at this
end Go.Proofs.YtedddaojcknemaaDoor
