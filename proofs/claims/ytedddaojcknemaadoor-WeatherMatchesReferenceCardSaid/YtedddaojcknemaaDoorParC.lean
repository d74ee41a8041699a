/- The contracts of Parse's closures in Parse's frame; the kinds' lists of numbers. -/
import Derived.Test.YtedddaojcknemaaDoorParB
namespace Go.Proofs.YtedddaojcknemaaDoor
open Go.RowKit

section
variable {s : ByteArray} {w0 : World} {b1 b2 b3 b4 b5 b6 B : Nat} {l : List Lx.Tok} {out : List Sp} {w : World}

theorem nxt_pf (h : PF s w0 b1 b2 b3 b4 b5 b6 B l out w) (kind : Int) :
    Calls Tryd.prog 27 #[.int .i64 kind, .pointer (some ⟨b5, 0, none⟩), .pointer (some ⟨b1, 0, none⟩)] w (NxPost s w0 b1 b2 b3 b4 b5 b6 B l out w kind) := by
  obtain ⟨v5, q5, r5, e5⟩ := h.h5
  refine (nxt_any w b5 b1 s kind v5 l q5 h.h1 r5 h.hs h.hl).mono ?_
  rintro e w' ⟨hg, hp⟩
  refine ⟨hg, ?_⟩
  cases l with
  | nil => exact ⟨hp, h.px.grown hg (h.lt.2.2.2.2.1)⟩
  | cons t r =>
    have hp' : if t.kind = kind then _ else _ := hp
    by_cases hk : t.kind = kind
    · rw [if_pos hk] at hp'
      obtain ⟨rfl, v', h1, h2, h3⟩ := hp'
      simp only [Pz.nx, if_pos hk]
      refine ⟨trivial, h.next hg (by simp) ⟨v', h1, h2, .inr ?_⟩⟩
      rcases e5 with e5 | e5
      · simp at e5
      · rw [h3]; exact e5
    · rw [if_neg hk] at hp'
      simp only [Pz.nx, if_neg hk]
      exact ⟨hp', h.px.grown hg (h.lt.2.2.2.2.1)⟩

theorem must_pf (h : PF s w0 b1 b2 b3 b4 b5 b6 B l out w) (kind : Int) (text : ByteArray) :
    Calls Tryd.prog 28 #[.int .i64 kind, .string text, .pointer (some ⟨b6, 0, none⟩)] w (MuPost s w0 b1 b2 b3 b4 b5 b6 B l out w kind text.data.toList) := by
  obtain ⟨v5, q5, r5, e5⟩ := h.h5
  refine (must_any w b6 b5 b1 s kind text v5 l h.h6 q5 h.h1 r5 h.hs h.hl).mono ?_
  rintro e w' ⟨hg, hp⟩
  refine ⟨hg, ?_⟩
  cases l with
  | nil => exact ⟨hp, h.px.grown hg (h.lt.2.2.2.2.1)⟩
  | cons t r =>
    have hp' : if t.kind = kind ∧ t.text = text.data.toList then _ else _ := hp
    by_cases hk : t.kind = kind ∧ t.text = text.data.toList
    · rw [if_pos hk] at hp'
      obtain ⟨rfl, v', h1, h2, h3⟩ := hp'
      simp only [Pz.mu, if_pos hk]
      refine ⟨trivial, h.next hg (by simp) ⟨v', h1, h2, .inr ?_⟩⟩
      rcases e5 with e5 | e5
      · simp at e5
      · rw [h3]; exact e5
    · rw [if_neg hk] at hp'
      simp only [Pz.mu, if_neg hk]
      exact ⟨hp', h.px.grown hg (h.lt.2.2.2.2.1)⟩
end

/-- The list of pointers: in a block of its own. -/
def NumPost (w : World) (ps : List Value) (e : Ending) (w' : World) : Prop :=
  ∃ g, e = .returned (.slice (some ⟨g, 0, none⟩) ps.length ps.length) ∧ w'.heap[g]? = some (.cells ps.toArray 68 (0, 0)) ∧ w.heap.size ≤ g ∧ Below w.heap.size w w'

theorem num1_any (b8 : Nat) (w : World) : Calls Tryd.prog 45 #[.pointer (some ⟨b8, 0, none⟩)] w (NumPost w [.pointer (some ⟨b8, 1, none⟩), .pointer (some ⟨b8, 2, none⟩)]) := by
  go_enter Tryd.func45, Tryd.ntmps45
  go_wp2_with (go_region)
  go_ret
  exact ⟨_, rfl, by exact heap_alloc_new _ _, Nat.le_refl _, ((Below.refl _ _).alloc (Nat.le_refl _) _).drew⟩
theorem num2_any (b8 : Nat) (w : World) : Calls Tryd.prog 47 #[.pointer (some ⟨b8, 0, none⟩)] w (NumPost w [.pointer (some ⟨b8, 2, none⟩)]) := by
  go_enter Tryd.func47, Tryd.ntmps47
  go_wp2
  go_ret
  exact ⟨_, rfl, by exact heap_alloc_new _ _, Nat.le_refl _, (Below.refl _ _).alloc (Nat.le_refl _) _⟩
theorem num3_any (b8 : Nat) (w : World) : Calls Tryd.prog 49 #[.pointer (some ⟨b8, 0, none⟩)] w fun e w' => e = .returned (.slice none 0 0) ∧ w' = w := by
  go_enter Tryd.func49, Tryd.ntmps49
  go_wp2
  go_ret
  exact ⟨rfl, rfl⟩
end Go.Proofs.YtedddaojcknemaaDoor
