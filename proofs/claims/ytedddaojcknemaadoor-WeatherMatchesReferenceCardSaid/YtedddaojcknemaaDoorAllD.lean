/- weather.At for every list and moment; inForce. -/
import Derived.Test.YtedddaojcknemaaDoorAllC
namespace Go.Proofs.YtedddaojcknemaaDoor
open Go.RowKit

set_option maxRecDepth 100000 in
set_option maxHeartbeats 4000000 in
theorem at_bad (l : List Sp) (m : Int) (v : Value) (w : World) (hR : ReadRow w 5 v l.length (spFlat l)) (hbad : (allB l && momB m) = false) :
    Calls Tryd.prog 9 #[v, .int .i64 m] w fun e w' => e = .returned (.tuple #[cdV cdZ, .int .i64 1]) ∧ Below w.heap.size w w' := by
  have HR := Lib.hid hR
  cases hall : allB l
  · have HA := Lib.hid hall
    clear hR hall hbad
    go_enter Tryd.func9, Tryd.ntmps9
    go_wp2_with fail
    refine (all_any l _ _ (HR.out.below ((Below.refl _ _).alloc (Nat.le_refl _) _))).mono ?_
    rintro e w1 ⟨rfl, B1⟩
    rw [HA.out]
    have h4 := (B1.block w.heap.size (by simp)).trans (heap_alloc_new w _)
    have hz1 : w.heap.size < w1.heap.size := by have := B1.size; simp at this; omega
    have HB1 : Hid (Below w.heap.size w w1) := Lib.hid (((Below.refl _ _).alloc (Nat.le_refl _) _).trans (B1.mono (by simp)))
    clear B1
    have d0 := (cell_of_row _ _ 0 _ _ _ h4).trans (show _ = some (Value.int .i64 0) from rfl)
    have d1 := (cell_of_row _ _ 1 _ _ _ h4).trans (show _ = some (Value.int .i64 0) from rfl)
    have d2 := (cell_of_row _ _ 2 _ _ _ h4).trans (show _ = some (Value.int .i64 0) from rfl)
    have d3 := (cell_of_row _ _ 3 _ _ _ h4).trans (show _ = some (Value.int .i64 0) from rfl)
    have d4 := (cell_of_row _ _ 4 _ _ _ h4).trans (show _ = some (Value.int .i64 0) from rfl)
    have d5 := (cell_of_row _ _ 5 _ _ _ h4).trans (show _ = some (Value.bool false) from rfl)
    have f0 := frozen_of_row _ _ 0 _ _ h4
    have f1 := frozen_of_row _ _ 1 _ _ h4
    have f2 := frozen_of_row _ _ 2 _ _ h4
    have f3 := frozen_of_row _ _ 3 _ _ h4
    have f4 := frozen_of_row _ _ 4 _ _ h4
    have f5 := frozen_of_row _ _ 5 _ _ h4
    have HH := Lib.hid h4; clear h4
    go_wp2_with fail
    refine bodyPost_ret (results_row1 rfl _ _ w.heap.size 26 _ (0, 0) _ rfl (heap_set6 _ _ _ _ _ _ _ _ _ _ _ _ _ _ _ HH.out) Tryd.underlying26 rfl (by exact info_cd)) rfl ⟨rfl, ?_⟩
    have hs := Nat.le_refl w.heap.size
    exact (((((HB1.out.setCell (by exact hs) _).setCell (by exact hs) _).setCell (by exact hs) _).setCell (by exact hs) _).setCell (by exact hs) _).setCell (by exact hs) _
  · have HA := Lib.hid hall
    have HM : Hid (momB m = false) := Lib.hid (by simpa [hall] using hbad)
    clear hR hall hbad
    go_enter Tryd.func9, Tryd.ntmps9
    go_wp2_with fail
    refine (all_any l _ _ (HR.out.below ((Below.refl _ _).alloc (Nat.le_refl _) _))).mono ?_
    rintro e w1 ⟨rfl, B1⟩
    rw [HA.out]
    have h4 := (B1.block w.heap.size (by simp)).trans (heap_alloc_new w _)
    have hz1 : w.heap.size < w1.heap.size := by have := B1.size; simp at this; omega
    have HB1 : Hid (Below w.heap.size w w1) := Lib.hid (((Below.refl _ _).alloc (Nat.le_refl _) _).trans (B1.mono (by simp)))
    clear B1
    have d0 := (cell_of_row _ _ 0 _ _ _ h4).trans (show _ = some (Value.int .i64 0) from rfl)
    have d1 := (cell_of_row _ _ 1 _ _ _ h4).trans (show _ = some (Value.int .i64 0) from rfl)
    have d2 := (cell_of_row _ _ 2 _ _ _ h4).trans (show _ = some (Value.int .i64 0) from rfl)
    have d3 := (cell_of_row _ _ 3 _ _ _ h4).trans (show _ = some (Value.int .i64 0) from rfl)
    have d4 := (cell_of_row _ _ 4 _ _ _ h4).trans (show _ = some (Value.int .i64 0) from rfl)
    have d5 := (cell_of_row _ _ 5 _ _ _ h4).trans (show _ = some (Value.bool false) from rfl)
    have f0 := frozen_of_row _ _ 0 _ _ h4
    have f1 := frozen_of_row _ _ 1 _ _ h4
    have f2 := frozen_of_row _ _ 2 _ _ h4
    have f3 := frozen_of_row _ _ 3 _ _ h4
    have f4 := frozen_of_row _ _ 4 _ _ h4
    have f5 := frozen_of_row _ _ 5 _ _ h4
    have HH := Lib.hid h4; clear h4
    go_wp2_with fail
    refine (moment_any m w1).mono ?_
    rintro e w2 ⟨rfl, hw⟩
    rw [hw, HM.out]; clear hw
    go_wp2_with fail
    refine bodyPost_ret (results_row1 rfl _ _ w.heap.size 26 _ (0, 0) _ rfl (heap_set6 _ _ _ _ _ _ _ _ _ _ _ _ _ _ _ HH.out) Tryd.underlying26 rfl (by exact info_cd)) rfl ⟨rfl, ?_⟩
    have hs := Nat.le_refl w.heap.size
    exact (((((HB1.out.setCell (by exact hs) _).setCell (by exact hs) _).setCell (by exact hs) _).setCell (by exact hs) _).setCell (by exact hs) _).setCell (by exact hs) _

theorem atW_any (l : List Sp) (m : Int) (v : Value) (w : World) (hR : ReadRow w 5 v l.length (spFlat l)) :
    Calls Tryd.prog 9 #[v, .int .i64 m] w (AtPost l m w) := by
  unfold AtPost
  cases h : (allB l && momB m)
  · exact at_bad l m v w hR h
  · rw [Bool.and_eq_true] at h
    exact at_ok l m v w hR h.1 h.2

theorem inForce_any (s : Sp) (m : Int) (w : World) : Calls Tryd.prog 10 #[spV s, .int .i64 m] w fun e w' => e = .returned (.bool (inF s m)) ∧ Below w.heap.size w w' := by
  obtain ⟨k, q, n, f, u⟩ := s
  unfold spV inF
  simp only []
  by_cases h1 : f ≤ m
  · by_cases h2 : m ≤ u
    · rw [decide_eq_true (And.intro h1 h2)]
      go_enter Tryd.func10, Tryd.ntmps10
      go_wp2
      go_ret
      exact ⟨rfl, by repeat' (first | (with_reducible exact Below.refl _ _) | (with_reducible refine Below.alloc ?_ ?_ _) | (simp; done))⟩
    · rw [decide_eq_false (fun h => h2 h.2)]
      go_enter Tryd.func10, Tryd.ntmps10
      go_wp2
      go_ret
      exact ⟨rfl, by repeat' (first | (with_reducible exact Below.refl _ _) | (with_reducible refine Below.alloc ?_ ?_ _) | (simp; done))⟩
  · rw [decide_eq_false (fun h => h1 h.1)]
    go_enter Tryd.func10, Tryd.ntmps10
    go_wp2
    go_ret
    exact ⟨rfl, by repeat' (first | (with_reducible exact Below.refl _ _) | (with_reducible refine Below.alloc ?_ ?_ _) | (simp; done))⟩
end Go.Proofs.YtedddaojcknemaaDoor
