/- weather.all, Moon, Background: walked. -/
import Derived.Test.YtedddaojcknemaaDoorParE
namespace Go.Proofs.YtedddaojcknemaaDoor
open Go.RowKit

def allB (l : List Sp) : Bool := decide (l.length ≤ 200) && l.all formedB

/-- The cells of a spell in a row. -/
theorem readSp_cells {w : World} {v : Value} {l : List Sp} (hR : ReadRow w 5 v l.length (spFlat l)) (i : Nat) (sp : Sp) (hi : l[i]? = some sp) :
    ∃ g off c, v = .slice (some ⟨g, off, none⟩) l.length c ∧ l.length ≤ c ∧ c ≤ maxLen ∧ g < w.heap.size ∧ ∀ j u, (spCells sp)[j]? = some u → w.cell? ⟨g, off + (i * 5 + j), none⟩ = some u := by
  have hlt : i < l.length := (List.getElem?_eq_some_iff.1 hi).1
  obtain ⟨a, c, rfl, h2, h3, h4⟩ := hR.slice
  obtain ⟨g, off, rfl, hc⟩ := h4 (by omega)
  refine ⟨g, off, c, rfl, h2, h3, hR.lt _ _ _ rfl (by omega), fun j u hu => hc (i * 5 + j) u ?_⟩
  have hj : j < 5 := by
    have := (List.getElem?_eq_some_iff.1 hu).1
    simpa [spCells] using this
  have key : ∀ (l : List Sp) (i : Nat), l[i]? = some sp → (spFlat l)[i * 5 + j]? = some u := by
    intro l
    induction l with
    | nil => intro i hi; simp at hi
    | cons x r ih =>
      intro i hi
      have hx : spFlat (x :: r) = spCells x ++ spFlat r := rfl
      rw [hx]
      cases i with
      | zero =>
        simp at hi; subst hi
        rw [List.getElem?_append_left (by simp [spCells]; omega)]
        simpa using hu
      | succ i =>
        rw [List.getElem?_append_right (by simp [spCells]; omega)]
        have := ih i (by simpa using hi)
        rw [show (i + 1) * 5 + j - (spCells x).length = i * 5 + j from by simp [spCells]; omega]
        exact this
  exact key l i hi

/-- The same, as the walk reads them. -/
theorem readSp5 {w : World} {v : Value} {l : List Sp} (hR : ReadRow w 5 v l.length (spFlat l)) (i : Nat) (sp : Sp) (hi : l[i]? = some sp) :
    ∃ g off c, v = .slice (some ⟨g, off, none⟩) l.length c ∧ l.length ≤ c ∧ c ≤ maxLen ∧ g < w.heap.size ∧ w.cell? ⟨g, off + i * 5, none⟩ = some (.int .i64 sp.k) ∧ w.cell? ⟨g, off + i * 5 + 1, none⟩ = some (.int .i64 sp.q) ∧
      w.cell? ⟨g, off + i * 5 + 2, none⟩ = some (.int .i64 sp.n) ∧ w.cell? ⟨g, off + i * 5 + 3, none⟩ = some (.int .i64 sp.f) ∧ w.cell? ⟨g, off + i * 5 + 4, none⟩ = some (.int .i64 sp.u) := by
  obtain ⟨g, off, c, hv, h1, h2, h3, hc⟩ := readSp_cells hR i sp hi
  exact ⟨g, off, c, hv, h1, h2, h3, hc 0 _ rfl, hc 1 _ rfl, hc 2 _ rfl, hc 3 _ rfl, hc 4 _ rfl⟩

def AllRel (l : List Sp) (w : World) (x : Value) (wr : World) : Prop := ∃ i : Nat, x = .int .i64 i ∧ i ≤ l.length ∧ (l.take i).all formedB = true ∧ Below w.heap.size w wr

set_option maxRecDepth 100000 in
set_option maxHeartbeats 2000000 in
theorem all_any (l : List Sp) (v : Value) (w : World) (hR : ReadRow w 5 v l.length (spFlat l)) :
    Calls Tryd.prog 23 #[v] w fun e w' => e = .returned (.bool (allB l)) ∧ Below w.heap.size w w' := by
  have HR := Lib.hid hR
  obtain ⟨a, c, rfl, hc1, hc2, _⟩ := hR.slice
  clear hR
  by_cases hbig : l.length > 200
  · have hgt : (200 : Int) < (l.length : Int) := by omega
    have HB := Lib.hid hbig; clear hbig
    go_enter Tryd.func23, Tryd.ntmps23
    go_wp2_with fail
    go_ret
    have hbig := HB.out
    exact ⟨ret_bool (by unfold allB; rw [decide_eq_false (by omega)]; rfl), Below.refl _ _⟩
  · have hgt : ¬ ((200 : Int) < (l.length : Int)) := by omega
    have HB := Lib.hid hbig; clear hbig
    go_enter Tryd.func23, Tryd.ntmps23
    go_wp2_with fail
    go_loopw [10] (fun x wr => Hid (AllRel l w x wr)) (fun x _ => l.length - (intOf x).toNat)
    case atStart => exact Lib.hid ⟨0, rfl, Nat.zero_le _, rfl, Below.refl _ _⟩
    case round =>
      obtain ⟨i, rfl, hi, hall, hbel⟩ := hrel.out
      have HA := Lib.hid (And.intro hall hbel); clear hall hbel hrel
      by_cases hlt : i < l.length
      · obtain ⟨sp, hsp⟩ : ∃ sp, l[i]? = some sp := ⟨_, List.getElem?_eq_getElem hlt⟩
        obtain ⟨g, off, c', hv, _, _, hg, c0, c1, c2, c3, c4⟩ := readSp5 (HR.out.below HA.out.2) i sp hsp
        cases hv
        have HSP := Lib.hid hsp; clear hsp
        go_wp2_with fail
        refine (formed_any sp _).mono ?_
        rintro e w2 ⟨rfl, hB2⟩
        have HB2 : Hid (Below w.heap.size w w2) := Lib.hid ((HA.out.2.alloc HA.out.2.size _).trans (hB2.mono (by have := HA.out.2.size; simp; omega)))
        clear hB2
        cases hf : formedB sp
        · have HF := Lib.hid hf; clear hf
          go_wp2_with fail
          go_ret
          refine ⟨ret_bool (Eq.symm ?_), HB2.out⟩
          unfold allB
          rw [Bool.and_eq_false_iff]
          right
          rw [List.all_eq_false]
          exact ⟨sp, List.mem_of_getElem? HSP.out, by rw [HF.out]; simp⟩
        · have HF := Lib.hid hf; clear hf
          go_wp2_with fail
          go_roundw
          case rel =>
            refine Lib.hid ⟨i + 1, by simp, by omega, ?_, HB2.out⟩
            rw [List.take_add_one, HSP.out, List.all_append, HA.out.1]
            simp [HF.out]
          case measure => simp [intOf]; omega
      · go_wp2_with fail
        go_ret
        have hl : i = l.length := by omega
        refine ⟨ret_bool ?_, HA.out.2⟩
        have := HA.out.1
        have hb := HB.out
        subst hl
        rw [List.take_length] at this
        unfold allB
        rw [this, decide_eq_true (by omega)]; rfl
end Go.Proofs.YtedddaojcknemaaDoor
