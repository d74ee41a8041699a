import Derived.Test.YtedddaojcknemaaDoorLexE
import Derived.Lib.Atoi
import Derived.Lib.AtoiErrMem
namespace Go.Proofs.YtedddaojcknemaaDoor
open Go.RowKit

/-! Numbers: what strconv.Atoi makes of a row of digits. -/
theorem cl_digit (c : UInt8) (h : Lx.cl c = 4) : 48 ≤ c.toNat ∧ c.toNat ≤ 57 := by
  have : ∀ c : Nat, c < 256 → Lx.cls c = 4 → 48 ≤ c ∧ c ≤ 57 := by decide +kernel
  exact this _ c.toNat_lt h
theorem decFrom_digits (l : List UInt8) (acc : Nat) (h : ∀ c ∈ l, Lx.cl c = 4) : ∃ n : Nat, Lib.decFrom acc l = some n ∧ Lx.digits l acc = (n : Int) := by
  induction l generalizing acc with
  | nil => exact ⟨acc, rfl, rfl⟩
  | cons c r ih =>
    have hc := cl_digit c (h c (by simp))
    obtain ⟨n, h1, h2⟩ := ih (acc * 10 + (c.toNat - 48)) (fun d hd => h d (by simp [hd]))
    refine ⟨n, ?_, ?_⟩
    · unfold Lib.decFrom Lib.digitVal
      rw [if_pos hc]; exact h1
    · unfold Lx.digits
      rw [← h2]
      congr 1
      omega
theorem atoi_digits (l : List UInt8) (h0 : l ≠ []) (h : ∀ c ∈ l, Lx.cl c = 4) : Lib.atoi l = some (Lx.digits l 0) := by
  obtain ⟨n, h1, h2⟩ := decFrom_digits l 0 h
  cases l with
  | nil => exact absurd rfl h0
  | cons c r =>
    have hc := cl_digit c (h c (by simp))
    have a1 : (c == 45) = false := by simpa using fun e => by rw [e] at hc; revert hc; decide
    have a2 : (c == 43) = false := by simpa using fun e => by rw [e] at hc; revert hc; decide
    unfold Lib.atoi
    simp only [a1, a2, Bool.false_eq_true, if_false]
    unfold Lib.decNat
    simp only [List.isEmpty_cons, Bool.false_eq_true, if_false, h1, Option.map_some]
    rw [← h2]; rfl
theorem run_all (p : Nat → Bool) (l : List UInt8) : ∀ c ∈ l.take (Lx.run p l), p (Lx.cl c) = true := by
  induction l with
  | nil => intro c h; simp at h
  | cons a t ih =>
    intro c h
    by_cases hp : p (Lx.cl a) = true
    · rw [Lx.run, if_pos hp] at h
      simp at h
      rcases h with rfl | h
      · exact hp
      · exact ih c h
    · rw [Lx.run, if_neg hp] at h; simp at h
theorem digits_le (l : List UInt8) (h : ∀ c ∈ l, Lx.cl c = 4) (acc : Int) (h0 : 0 ≤ acc) : 0 ≤ Lx.digits l acc ∧ Lx.digits l acc < (acc + 1) * 10 ^ l.length := by
  induction l generalizing acc with
  | nil => simp [Lx.digits]; omega
  | cons c r ih =>
    have hc := cl_digit c (h c (by simp))
    have := ih (fun d hd => h d (by simp [hd])) (10 * acc + ((c.toNat : Int) - 48)) (by omega)
    unfold Lx.digits
    refine ⟨this.1, Int.lt_of_lt_of_le this.2 ?_⟩
    simp only [List.length_cons, Int.pow_succ]
    have hp : (0 : Int) < 10 ^ r.length := Int.pow_pos (by omega)
    have : (10 * acc + ((c.toNat : Int) - 48) + 1) * 10 ^ r.length ≤ ((acc + 1) * 10) * 10 ^ r.length := Int.mul_le_mul_of_nonneg_right (by omega) (by omega)
    calc _ ≤ _ := this
      _ = _ := by rw [Int.mul_assoc, Int.mul_comm 10]
end Go.Proofs.YtedddaojcknemaaDoor
