/- More openings: a spell by value, what a list's value looks like; the table that the rows list. -/
import Derived.Test.YtedddaojcknemaaDoorOpenSp
import Derived.Test.YtedddaojcknemaaDoorApp
import Derived.Test.YtedddaojcknemaaDoorTxtA
import Derived.Lib.LaidTab
import Derived.Stop.LaidErr
import Derived.LaidSub
import Derived.Stop.Joined
import Derived.LaidMore
namespace Go.Proofs.YtedddaojcknemaaDoor
open Go.ChangeShapes Go.WideShapes Go.RowKit Go.Deep

section
variable {H : Type} {enc : TypeId × Value → H}
theorem open_sliceV {P : Program} {W : World} {r : Reach} {b0 : Nat} {t e : TypeId} {v : Value} {d : DataW H} {ps : List MemPlace} (ht : P.underlying t = some (.slice e)) (hval : Value.okWide P W r b0 t v) (h : DataW.Trod enc P W 0 (fun _ => true) true t v d ps) : SliceV v := by
  obtain ⟨fuel, h⟩ := h
  obtain ⟨a0, n0, c0, rfl⟩ := okWide_slice ht hval
  have hcs : (Value.slice a0 n0 c0).cells.toList = [.slice a0 n0 c0] := by simp [Value.cells]
  rw [hcs] at h
  rcases open_slice ht h with ⟨h0, _⟩ | ⟨a, len, cap, m, n, D, Pl, hs, _⟩
  · simp only [List.cons.injEq, and_true] at h0
    exact .inl h0
  · simp only [List.cons.injEq, and_true] at hs
    exact .inr ⟨a, len, cap, hs⟩
set_option maxRecDepth 100000 in
theorem open_spellsV {W : World} {r : Reach} {b0 : Nat} {v : Value} {d : DataW H} {ps : List MemPlace} (hval : Value.okWide Tryd.prog W r b0 22 v) (h : DataW.Trod enc Tryd.prog W 0 (fun _ => true) true 22 v d ps) :
    ∃ l : List Sp, ReadRow W 5 v l.length (spFlat l) ∧ SliceV v := by
  obtain ⟨l, hl⟩ := open_spells hval h
  exact ⟨l, hl, open_sliceV Tryd.underlying22 hval h⟩
set_option maxRecDepth 100000 in
theorem open_spell {W : World} {r : Reach} {b0 : Nat} {v : Value} {d : DataW H} {ps : List MemPlace} (hval : Value.okWide Tryd.prog W r b0 32 v) (h : DataW.Trod enc Tryd.prog W 0 (fun _ => true) true 32 v d ps) :
    ∃ s : Sp, v = spV s := by
  obtain ⟨cs, rfl, hsz⟩ := okWide_struct Tryd.underlying32 hval
  obtain ⟨fuel, h⟩ := h
  have hl : (Value.agg cs).cells.toList.length = 5 := by
    have : (Value.agg cs).cells = cs := by simp [Value.cells]
    rw [this]
    have hc : Tryd.prog.cellsOf 32 = 5 := by kernel_rfl
    rw [hc] at hsz
    simpa using hsz
  obtain ⟨s, hs⟩ := spell_of hl h
  refine ⟨s, ?_⟩
  have h2 : (Value.agg cs).cells = cs := by simp [Value.cells]
  rw [h2] at hs
  unfold spV
  congr 1
  exact Array.ext' hs
end

def laidW : List (String × DataW Unit) := Rows.weatherLastRow.laid
set_option maxRecDepth 100000 in
theorem table_of {W : World} (h : laidMetH Tryd.prog laidW W) : TabW W := by
  have h1 : laidMet Tryd.prog laidW W := h
  have h2 := (laidMet.tail (laidMet.tail h1))
  have e : (Rows.laid_internal_strconv_uint64pow10 : DataW Unit) = Lib.tabData .u64 Lib.pow10Tab := by kernel_rfl
  have h3 : laidMet Tryd.prog (("internal/strconv.uint64pow10", Lib.tabData .u64 Lib.pow10Tab) :: [("strconv.ErrRange", Rows.laid_strconv_ErrRange), ("strconv.ErrSyntax", Rows.laid_strconv_ErrSyntax)]) W := by
    rw [← e]; exact h2
  exact Lib.tabIs_of_head (g := 0) (by kernel_rfl) (t := 133) (by kernel_rfl) Tryd.underlying133 Tryd.underlying117 (by kernel_rfl) (by kernel_rfl) h3
end Go.Proofs.YtedddaojcknemaaDoor
