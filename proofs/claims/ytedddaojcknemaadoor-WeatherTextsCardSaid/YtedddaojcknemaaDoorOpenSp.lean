/- Arguments of the weather laws: spells. -/
import Derived.Test.YtedddaojcknemaaDoorOpen
import Derived.Test.YtedddaojcknemaaDoorWeaB
import Derived.Test.YtedddaojcknemaaDoorAllA
namespace Go.Proofs.YtedddaojcknemaaDoor
open Go.ChangeShapes Go.WideShapes Go.RowKit Go.Deep

section
variable {H : Type} {enc : TypeId × Value → H}
theorem int_of {W : World} {n : Nat} {c : Value} {x : DataW H × List MemPlace} (h : DataW.trod enc Tryd.prog W 0 (fun _ => true) true n 3 [c] = some x) : ∃ z, c = .int .i64 z := by
  obtain ⟨z, hz, _⟩ := DataW.trod_int Tryd.underlying3 h
  simp at hz
  exact ⟨z, hz⟩
set_option maxRecDepth 100000 in
theorem spell_of {W : World} {n : Nat} {cs : List Value} {x : DataW H × List MemPlace} (hl : cs.length = 5) (h : DataW.trod enc Tryd.prog W 0 (fun _ => true) true n 32 cs = some x) : ∃ sp, cs = spCells sp := by
  obtain ⟨xs, n', _, _, _, hx, hf⟩ := DataW.trod_struct Tryd.underlying32 h
  have hc : Tryd.prog.cellsOf 3 = 1 := by kernel_rfl
  match cs, hl with
  | [c0, c1, c2, c3, c4], _ =>
    match xs, hx with
    | [y0, y1, y2, y3, y4], _ =>
      have f0 : DataW.trod enc Tryd.prog W 0 (fun _ => true) true n' 3 (([c0, c1, c2, c3, c4].drop 0).take (Tryd.prog.cellsOf 3)) = some y0 := hf 0 _ rfl
      have f1 : DataW.trod enc Tryd.prog W 0 (fun _ => true) true n' 3 (([c0, c1, c2, c3, c4].drop 1).take (Tryd.prog.cellsOf 3)) = some y1 := hf 1 _ rfl
      have f2 : DataW.trod enc Tryd.prog W 0 (fun _ => true) true n' 3 (([c0, c1, c2, c3, c4].drop 2).take (Tryd.prog.cellsOf 3)) = some y2 := hf 2 _ rfl
      have f3 : DataW.trod enc Tryd.prog W 0 (fun _ => true) true n' 3 (([c0, c1, c2, c3, c4].drop 3).take (Tryd.prog.cellsOf 3)) = some y3 := hf 3 _ rfl
      have f4 : DataW.trod enc Tryd.prog W 0 (fun _ => true) true n' 3 (([c0, c1, c2, c3, c4].drop 4).take (Tryd.prog.cellsOf 3)) = some y4 := hf 4 _ rfl
      rw [hc] at f0 f1 f2 f3 f4
      obtain ⟨z0, rfl⟩ := int_of f0
      obtain ⟨z1, rfl⟩ := int_of f1
      obtain ⟨z2, rfl⟩ := int_of f2
      obtain ⟨z3, rfl⟩ := int_of f3
      obtain ⟨z4, rfl⟩ := int_of f4
      exact ⟨⟨z0, z1, z2, z3, z4⟩, rfl⟩
theorem spells_of : ∀ {L : List (List Value)}, (∀ cs ∈ L, ∃ sp, cs = spCells sp) → ∃ l : List Sp, l.length = L.length ∧ spFlat l = L.flatten
  | [], _ => ⟨[], rfl, rfl⟩
  | c :: L, h => by
    obtain ⟨sp, rfl⟩ := h c (by simp)
    obtain ⟨l, h1, h2⟩ := spells_of (L := L) fun cs hcs => h cs (by simp [hcs])
    refine ⟨sp :: l, by simp [h1], ?_⟩
    show spCells sp ++ spFlat l = _
    rw [h2, List.flatten_cons]
set_option maxRecDepth 100000 in
theorem open_spells {W : World} {r : Reach} {b0 : Nat} {v : Value} {d : DataW H} {ps : List MemPlace} (hval : Value.okWide Tryd.prog W r b0 22 v) (h : DataW.Trod enc Tryd.prog W 0 (fun _ => true) true 22 v d ps) :
    ∃ l : List Sp, ReadRow W 5 v l.length (spFlat l) := by
  obtain ⟨L, h1, h2⟩ := open_rows Tryd.underlying22 (show Tryd.prog.cellsOf 32 = 5 by kernel_rfl) (by decide) hval h
  obtain ⟨l, h3, h4⟩ := spells_of (L := L) fun cs hcs => by
    obtain ⟨hl, n, x, hx⟩ := h1 cs hcs
    exact spell_of hl hx
  exact ⟨l, by rw [h3, h4]; exact h2⟩
end
end Go.Proofs.YtedddaojcknemaaDoor
