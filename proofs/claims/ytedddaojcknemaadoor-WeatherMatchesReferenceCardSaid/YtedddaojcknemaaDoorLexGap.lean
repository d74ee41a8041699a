/- Plain facts on gaps: what the code's loop over blanks and comments comes to. No program in sight. -/
import Derived.Test.YtedddaojcknemaaDoorLexPure
import Derived.Lib.Bytealg
namespace Go.Proofs.YtedddaojcknemaaDoor
namespace Lx

theorem gap_true_eq (l : List UInt8) : gap true l = match l with | [] => [] | c :: r => if c = 10 then gap false r else gap true r := by cases l <;> rfl

theorem gap_blanks (l : List UInt8) : gap false (l.drop (run (fun k => k == 1) l)) = gap false l := by
  induction l with
  | nil => rfl
  | cons c r ih =>
    by_cases h : cl c = 1
    · simp [run, h, gap, ih]
    · simp [run, h]

/-- Behind the blanks stands no blank. -/
theorem run_stops (p : Nat → Bool) (l : List UInt8) : ∀ c r, l.drop (run p l) = c :: r → p (cl c) = false := by
  induction l with
  | nil => intro c r h; simp [run] at h
  | cons a t ih =>
    intro c r h
    by_cases hp : p (cl a) = true
    · rw [run, if_pos hp] at h; exact ih c r (by simpa using h)
    · rw [run, if_neg hp] at h; simp at h; obtain ⟨rfl, rfl⟩ := h; simpa using hp

theorem run_le (p : Nat → Bool) (l : List UInt8) : run p l ≤ l.length := by
  induction l with
  | nil => simp [run]
  | cons a t ih => rw [run]; split <;> simp; omega

theorem gap_comment_none (l : List UInt8) (h : Lib.indexByte l 10 = -1) : gap true l = [] := by
  induction l with
  | nil => rfl
  | cons c r ih =>
    rw [gap_true_eq]
    unfold Lib.indexByte at h
    by_cases hc : c = 10
    · subst hc; simp at h
    · simp only [hc, if_false]
      have hb : (c == 10) = false := by simpa using hc
      rw [hb] at h
      simp only [Bool.false_eq_true, if_false] at h
      by_cases h2 : (Lib.indexByte r 10 == -1) = true
      · exact ih (by simpa using h2)
      · have := Lib.indexByte_ge r 10
        rw [if_neg h2] at h
        omega

theorem gap_comment_some (l : List UInt8) (n : Nat) (h : Lib.indexByte l 10 = n) : gap true l = gap false (l.drop n) ∧ n < l.length := by
  induction l generalizing n with
  | nil => simp [Lib.indexByte] at h
  | cons c r ih =>
    rw [gap_true_eq]
    unfold Lib.indexByte at h
    by_cases hc : c = 10
    · subst hc
      simp at h
      have : n = 0 := by omega
      subst this
      exact ⟨by simp [gap, show cl 10 = 1 from by decide], by simp⟩
    · have hb : (c == 10) = false := by simpa using hc
      rw [hb] at h
      simp only [Bool.false_eq_true, if_false] at h
      simp only [hc, if_false]
      by_cases h2 : (Lib.indexByte r 10 == -1) = true
      · rw [if_pos h2] at h; omega
      · rw [if_neg h2] at h
        have hge := Lib.indexByte_ge r 10
        have hne : Lib.indexByte r 10 ≠ -1 := by simpa using h2
        obtain ⟨m, hm⟩ := Int.eq_ofNat_of_zero_le (show 0 ≤ Lib.indexByte r 10 by omega)
        have hn : n = m + 1 := by omega
        subst hn
        have := ih m hm
        exact ⟨by simpa using this.1, by simp; omega⟩

theorem gap_hash (c : UInt8) (r : List UInt8) (h : cl c = 2) : gap false (c :: r) = gap true (c :: r) := by
  have hc : c ≠ 10 := by rintro rfl; revert h; decide
  simp [gap, h, hc]
theorem gap_else (c : UInt8) (r : List UInt8) (h1 : cl c ≠ 1) (h2 : cl c ≠ 2) : gap false (c :: r) = c :: r := by simp [gap, h1, h2]
theorem gap_suffix (f : Bool) (l : List UInt8) : ∃ n, gap f l = l.drop n ∧ n ≤ l.length := by
  induction l generalizing f with
  | nil => exact ⟨0, by cases f <;> rfl, by simp⟩
  | cons c r ih =>
    have key : ∀ g, ∃ n, gap g r = (c :: r).drop n ∧ n ≤ (c :: r).length := fun g => by
      obtain ⟨n, h1, h2⟩ := ih g
      exact ⟨n + 1, by simpa using h1, by simp; omega⟩
    cases f
    · rw [show gap false (c :: r) = if cl c = 1 then gap false r else if cl c = 2 then gap true r else c :: r from rfl]
      split
      · exact key _
      · split
        · exact key _
        · exact ⟨0, rfl, by simp⟩
    · rw [show gap true (c :: r) = if c = 10 then gap false r else gap true r from rfl]
      split <;> exact key _
end Lx
end Go.Proofs.YtedddaojcknemaaDoor
