/- A further spell at the end of a list: what it changes. No program in sight. -/
import Derived.Test.YtedddaojcknemaaDoorOrdA
import Derived.Test.YtedddaojcknemaaDoorTxtC
import Derived.Test.YtedddaojcknemaaDoorApp
namespace Go.Proofs.YtedddaojcknemaaDoor

theorem allB_snoc {l : List Sp} {s : Sp} (hl : l.length ≤ 20) : allB (l ++ [s]) = (allB l && allB [s]) := by
  unfold allB
  rw [List.all_append]
  have h1 : decide ((l ++ [s]).length ≤ 200) = true := by simp; omega
  have h2 : decide (l.length ≤ 200) = true := by simp; omega
  have h3 : decide (([s] : List Sp).length ≤ 200) = true := by simp
  rw [h1, h2, h3]; simp
theorem atL_snoc (l : List Sp) (s : Sp) (m : Int) : atL (l ++ [s]) m = atStep m (atL l m) s := by unfold atL; rw [List.foldl_append]; rfl
theorem txtE_one (s : Sp) : txtE [s] = if formedB s then 0 else 1 := by unfold txtE allB; simp
theorem last_bad {l : List Sp} {s : Sp} {m : Int} (hl : l.length ≤ 20) (h : atErr l m = 1 ∨ txtE [s] = 1) : atErr (l ++ [s]) m = 1 := by
  unfold atErr txtE at *
  rw [allB_snoc hl]
  cases h1 : allB l <;> cases h2 : allB [s] <;> cases h3 : momB m <;> simp_all
theorem last_ok {l : List Sp} {s : Sp} {m : Int} (hl : l.length ≤ 20) (h : atErr l m = 0) (h2 : txtE [s] = 0) : atErr (l ++ [s]) m = 0 ∧ atCd (l ++ [s]) m = atStep m (atCd l m) s ∧ formedB s = true := by
  have h1 := atErr_zero h
  have hs : formedB s = true := by
    rw [txtE_one] at h2
    cases hf : formedB s
    · rw [hf] at h2; simp at h2
    · rfl
  have ha : allB [s] = true := by unfold allB; simp [hs]
  have h3 : (allB (l ++ [s]) && momB m) = true := by
    rw [allB_snoc hl, ha]
    have := h1.1
    simpa using this
  refine ⟨by unfold atErr; rw [h3]; rfl, ?_, hs⟩
  rw [h1.2]
  unfold atCd
  rw [h3, atL_snoc]; rfl
theorem err_01 (l : List Sp) (m : Int) : atErr l m = 0 ∨ atErr l m = 1 := by
  unfold atErr; split
  · exact .inl rfl
  · exact .inr rfl
theorem txtE_01 (l : List Sp) : txtE l = 0 ∨ txtE l = 1 := by
  unfold txtE; split
  · exact .inl rfl
  · exact .inr rfl
end Go.Proofs.YtedddaojcknemaaDoor
