/- The reference's At: walked. -/
import Derived.Test.YtedddaojcknemaaDoorRefA
import Derived.Test.YtedddaojcknemaaDoorAllD
namespace Go.Proofs.YtedddaojcknemaaDoor
open Go.RowKit

set_option maxRecDepth 100000 in
set_option maxHeartbeats 4000000 in
theorem rat_ok (l : List Sp) (m : Int) (v : Value) (w : World) (hR : ReadRow w 5 v l.length (spFlat l)) (hall : allB l = true) (hm : momB m = true) :
    Calls Tryd.prog 18 #[v, .int .i64 m] w fun e w' => e = .returned (.tuple #[cdV (atL l m), .int .i64 0]) ∧ Below w.heap.size w w' := by
  have HR := Lib.hid hR
  obtain ⟨a, c, rfl, hc1, hc2, _⟩ := hR.slice
  have HA := Lib.hid hall
  have HM := Lib.hid hm
  have hl200 : l.length ≤ 200 := by unfold allB at hall; simp at hall; exact hall.1
  clear hR hall hm
  go_enter Tryd.func18, Tryd.ntmps18
  go_wp2_with fail
  refine (rvalid_any l _ _ (HR.out.below ((Below.refl _ _).alloc (Nat.le_refl _) _))).mono ?_
  rintro e w1 ⟨rfl, B1⟩
  rw [HA.out]
  have h4 := (B1.block w.heap.size (by simp)).trans (heap_alloc_new w _)
  have hz1 : w.heap.size < w1.heap.size := by have := B1.size; simp at this; omega
  have HB1 : Hid (Below w.heap.size w w1) := Lib.hid (((Below.refl _ _).alloc (Nat.le_refl _) _).trans (B1.mono (by simp)))
  clear B1
  go_wp2_with fail
  refine (is_any m w1).mono ?_
  rintro e w2 ⟨rfl, hw⟩
  rw [hw, HM.out]; clear hw
  go_wp2_with fail
  have HI : Hid (AtRel l m w1.heap.size w.heap.size w (.int .i64 0) (w1.alloc (.cells #[.int .i64 1000, .int .i64 1000, .int .i64 1000, .int .i64 1000, .int .i64 10, .bool true] 26))) :=
    Lib.hid ⟨0, rfl, Nat.zero_le _, heap_alloc_new w1 _, mustKeep h4 _, HB1.out.alloc HB1.out.size _⟩
  generalize w1.alloc (.cells #[.int .i64 1000, .int .i64 1000, .int .i64 1000, .int .i64 1000, .int .i64 10, .bool true] 26) = W at HI ⊢
  obtain ⟨b4, hb4⟩ : ∃ b, b = w.heap.size := ⟨_, rfl⟩
  obtain ⟨b6, hb6⟩ : ∃ b, b = w1.heap.size := ⟨_, rfl⟩
  rw [← hb4, ← hb6] at HI hz1
  rw [← hb4, ← hb6]
  have HB := Lib.hid (And.intro hb4 (show w.heap.size ≤ b6 by omega))
  have hne : b4 ≠ b6 := by omega
  have hne' : b6 ≠ b4 := by omega
  clear h4 hb4 hb6 hz1 HB1
  go_loopw [7] (fun x wr => Hid (AtRel l m b6 b4 w x wr)) (fun x _ => l.length - (intOf x).toNat)
  case atStart => exact HI
  case round =>
    obtain ⟨i, rfl, hi, h6, h4, hbel⟩ := hrel.out
    clear HI hrel
    have l6 := (Array.getElem?_eq_some_iff.1 h6).1
    by_cases hlt : i < l.length
    · obtain ⟨sp, hsp⟩ : ∃ sp, l[i]? = some sp := ⟨_, List.getElem?_eq_getElem hlt⟩
      obtain ⟨g, off, c', hv, _, _, hg, c0, c1, c2, c3, c4⟩ := readSp5 (HR.out.below hbel) i sp hsp
      cases hv
      have hfold := foldl_take_succ m l i sp hsp
      generalize (l.take i).foldl (atStep m) cd0 = C at hfold h6
      have hfm : formedB sp = true := by
        have := HA.out
        unfold allB at this
        rw [Bool.and_eq_true, List.all_eq_true] at this
        exact this.2 sp (List.mem_of_getElem? hsp)
      have hkinds := formed_kinds hfm
      have HH := Lib.hid (And.intro h6 (And.intro h4 (And.intro hbel hfold)))
      clear hfold hsp hfm
      cases hin : inF sp m
      · have HIN := Lib.hid hin; clear hkinds h6 h4 hbel
        have hrel' : Hid (AtRel l m b6 b4 w (.int .i64 ((i : Int) + 1)) wr) := by
          refine Lib.hid ⟨i + 1, by simp, by omega, ?_, HH.out.2.1, HH.out.2.2.1⟩
          rw [HH.out.2.2.2]
          have hst : atStep m C sp = C := by unfold atStep; rw [HIN.out]; rfl
          rw [hst]
          exact HH.out.1
        by_cases g1 : m < sp.f
        · clear hin
          go_wp2_with fail
          go_roundw
          case rel => exact hrel'
          case measure => simp [intOf]; omega
        · have g2 : sp.u < m := by
            have := of_decide_eq_false (show decide (sp.f ≤ m ∧ m ≤ sp.u) = false from hin)
            omega
          clear hin
          go_wp2_with fail
          go_roundw
          case rel => exact hrel'
          case measure => simp [intOf]; omega
      · have HIN := Lib.hid hin; clear hin h4 hbel
        obtain ⟨k, q, n, f, u⟩ := sp
        have hr1 : f ≤ m := (of_decide_eq_true (show decide (f ≤ m ∧ m ≤ u) = true from HIN.out)).1
        have hr2 : m ≤ u := (of_decide_eq_true (show decide (f ≤ m ∧ m ≤ u) = true from HIN.out)).2
        simp only [] at hkinds c0 c1 c2 c3 c4
        rcases hkinds with ⟨rfl, hq⟩ | rfl | rfl
        · rcases hq with rfl | rfl | rfl | rfl
          · have c6 := (cell_of_row _ _ 0 _ _ _ h6).trans (show _ = some (Value.int .i64 C.c0) from rfl)
            have f6 := frozen_of_row _ _ 0 _ _ h6
            clear h6
            go_wp2_with fail
            go_region
            go_wp2_with fail
            go_roundw
            case rel =>
              refine Lib.hid ⟨i + 1, by simp, by omega, ?_, set_keep HH.out.2.1 hne _, (HH.out.2.2.1.setCell (by show w.heap.size ≤ b6; exact HB.out.2) _).drew⟩
              rw [HH.out.2.2.2]
              have hst : atStep m C ⟨1, 0, n, f, u⟩ = { C with c0 := n } := by unfold atStep; rw [HIN.out]; rfl
              rw [hst]
              exact cdRow HH.out.1 0 (.int .i64 n) { C with c0 := n } rfl
            case measure => simp [intOf]; omega
          · have c6 := (cell_of_row _ _ 1 _ _ _ h6).trans (show _ = some (Value.int .i64 C.c1) from rfl)
            have f6 := frozen_of_row _ _ 1 _ _ h6
            clear h6
            go_wp2_with fail
            go_region
            go_wp2_with fail
            go_roundw
            case rel =>
              refine Lib.hid ⟨i + 1, by simp, by omega, ?_, set_keep HH.out.2.1 hne _, (HH.out.2.2.1.setCell (by show w.heap.size ≤ b6; exact HB.out.2) _).drew⟩
              rw [HH.out.2.2.2]
              have hst : atStep m C ⟨1, 1, n, f, u⟩ = { C with c1 := n } := by unfold atStep; rw [HIN.out]; rfl
              rw [hst]
              exact cdRow HH.out.1 1 (.int .i64 n) { C with c1 := n } rfl
            case measure => simp [intOf]; omega
          · have c6 := (cell_of_row _ _ 2 _ _ _ h6).trans (show _ = some (Value.int .i64 C.c2) from rfl)
            have f6 := frozen_of_row _ _ 2 _ _ h6
            clear h6
            go_wp2_with fail
            go_region
            go_wp2_with fail
            go_roundw
            case rel =>
              refine Lib.hid ⟨i + 1, by simp, by omega, ?_, set_keep HH.out.2.1 hne _, (HH.out.2.2.1.setCell (by show w.heap.size ≤ b6; exact HB.out.2) _).drew⟩
              rw [HH.out.2.2.2]
              have hst : atStep m C ⟨1, 2, n, f, u⟩ = { C with c2 := n } := by unfold atStep; rw [HIN.out]; rfl
              rw [hst]
              exact cdRow HH.out.1 2 (.int .i64 n) { C with c2 := n } rfl
            case measure => simp [intOf]; omega
          · have c6 := (cell_of_row _ _ 3 _ _ _ h6).trans (show _ = some (Value.int .i64 C.c3) from rfl)
            have f6 := frozen_of_row _ _ 3 _ _ h6
            clear h6
            go_wp2_with fail
            go_region
            go_wp2_with fail
            go_roundw
            case rel =>
              refine Lib.hid ⟨i + 1, by simp, by omega, ?_, set_keep HH.out.2.1 hne _, (HH.out.2.2.1.setCell (by show w.heap.size ≤ b6; exact HB.out.2) _).drew⟩
              rw [HH.out.2.2.2]
              have hst : atStep m C ⟨1, 3, n, f, u⟩ = { C with c3 := n } := by unfold atStep; rw [HIN.out]; rfl
              rw [hst]
              exact cdRow HH.out.1 3 (.int .i64 n) { C with c3 := n } rfl
            case measure => simp [intOf]; omega
        · have c6 := (cell_of_row _ _ 4 _ _ _ h6).trans (show _ = some (Value.int .i64 C.se) from rfl)
          have f6 := frozen_of_row _ _ 4 _ _ h6
          clear h6
          go_wp2_with fail
          go_roundw
          case rel =>
            refine Lib.hid ⟨i + 1, by simp, by omega, ?_, set_keep HH.out.2.1 hne _, (HH.out.2.2.1.setCell (by show w.heap.size ≤ b6; exact HB.out.2) _)⟩
            rw [HH.out.2.2.2]
            have hst : atStep m C ⟨2, q, n, f, u⟩ = { C with se := n } := by unfold atStep; rw [HIN.out]; rfl
            rw [hst]
            exact cdRow HH.out.1 4 (.int .i64 n) { C with se := n } rfl
          case measure => simp [intOf]; omega
        · have c6 := (cell_of_row _ _ 5 _ _ _ h6).trans (show _ = some (Value.bool C.op) from rfl)
          have f6 := frozen_of_row _ _ 5 _ _ h6
          clear h6
          go_wp2_with fail
          go_roundw
          case rel =>
            refine Lib.hid ⟨i + 1, by simp, by omega, ?_, set_keep HH.out.2.1 hne _, (HH.out.2.2.1.setCell (by show w.heap.size ≤ b6; exact HB.out.2) _)⟩
            rw [HH.out.2.2.2]
            have hst : atStep m C ⟨3, q, n, f, u⟩ = { C with op := false } := by unfold atStep; rw [HIN.out]; rfl
            rw [hst]
            exact cdRow HH.out.1 5 (.bool false) { C with op := false } rfl
          case measure => simp [intOf]; omega
    · have hl : i = l.length := by omega
      subst hl
      rw [List.take_length] at h6
      have hC : l.foldl (atStep m) cd0 = atL l m := rfl
      rw [hC] at h6
      generalize hCC : atL l m = C at h6 ⊢
      have HCC := Lib.hid hCC
      clear hC hCC
      have c0 := (cell_of_row _ _ 0 _ _ _ h6).trans (show _ = some (Value.int .i64 C.c0) from rfl)
      have c1 := (cell_of_row _ _ 1 _ _ _ h6).trans (show _ = some (Value.int .i64 C.c1) from rfl)
      have c2 := (cell_of_row _ _ 2 _ _ _ h6).trans (show _ = some (Value.int .i64 C.c2) from rfl)
      have c3 := (cell_of_row _ _ 3 _ _ _ h6).trans (show _ = some (Value.int .i64 C.c3) from rfl)
      have c4 := (cell_of_row _ _ 4 _ _ _ h6).trans (show _ = some (Value.int .i64 C.se) from rfl)
      have c5 := (cell_of_row _ _ 5 _ _ _ h6).trans (show _ = some (Value.bool C.op) from rfl)
      have d0 := (cell_of_row _ _ 0 _ _ _ h4).trans (show _ = some (Value.int .i64 0) from rfl)
      have d1 := (cell_of_row _ _ 1 _ _ _ h4).trans (show _ = some (Value.int .i64 0) from rfl)
      have d2 := (cell_of_row _ _ 2 _ _ _ h4).trans (show _ = some (Value.int .i64 0) from rfl)
      have d3 := (cell_of_row _ _ 3 _ _ _ h4).trans (show _ = some (Value.int .i64 0) from rfl)
      have d4 := (cell_of_row _ _ 4 _ _ _ h4).trans (show _ = some (Value.int .i64 0) from rfl)
      have d5 := (cell_of_row _ _ 5 _ _ _ h4).trans (show _ = some (Value.bool false) from rfl)
      have f0 := frozen_of_row _ _ 0 _ _ h4
      have f1 := frozen_of_row _ _ 1 _ _ h4
      have f2 := frozen_of_row _ _ 2 _ _ h4
      have f3 := frozen_of_row _ _ 3 _ _ h4
      have f4 := frozen_of_row _ _ 4 _ _ h4
      have f5 := frozen_of_row _ _ 5 _ _ h4
      have HH := Lib.hid (And.intro h4 hbel); clear h6 h4 hbel
      go_wp2_with fail
      refine bodyPost_ret (results_row1 rfl _ _ b4 26 _ (0, 0) _ rfl (heap_set6 _ _ _ _ _ _ _ _ _ _ _ _ _ _ _ HH.out.1) Tryd.underlying26 rfl (by exact info_cd)) rfl ⟨?_, ?_⟩
      · rw [HCC.out]; rfl
      · have hs := HB.out.1
        exact (((((HH.out.2.setCell (by show _ ≤ b4; omega) _).setCell (by show _ ≤ b4; omega) _).setCell (by show _ ≤ b4; omega) _).setCell (by show _ ≤ b4; omega) _).setCell (by show _ ≤ b4; omega) _).setCell (by show _ ≤ b4; omega) _

set_option maxRecDepth 100000 in
set_option maxHeartbeats 4000000 in
theorem rat_bad (l : List Sp) (m : Int) (v : Value) (w : World) (hR : ReadRow w 5 v l.length (spFlat l)) (hbad : (allB l && momB m) = false) :
    Calls Tryd.prog 18 #[v, .int .i64 m] w fun e w' => e = .returned (.tuple #[cdV cdZ, .int .i64 1]) ∧ Below w.heap.size w w' := by
  have HR := Lib.hid hR
  cases hall : allB l
  · have HA := Lib.hid hall
    clear hR hall hbad
    go_enter Tryd.func18, Tryd.ntmps18
    go_wp2_with fail
    refine (rvalid_any l _ _ (HR.out.below ((Below.refl _ _).alloc (Nat.le_refl _) _))).mono ?_
    rintro e w1 ⟨rfl, B1⟩
    rw [HA.out]
    have h4 := (B1.block w.heap.size (by simp)).trans (heap_alloc_new w _)
    have hz1 : w.heap.size < w1.heap.size := by have := B1.size; simp at this; omega
    have HB1 : Hid (Below w.heap.size w w1) := Lib.hid (((Below.refl _ _).alloc (Nat.le_refl _) _).trans (B1.mono (by simp)))
    clear B1
    have d0 := (cell_of_row _ _ 0 _ _ _ h4).trans (show _ = some (Value.int .i64 0) from rfl)
    have d1 := (cell_of_row _ _ 1 _ _ _ h4).trans (show _ = some (Value.int .i64 0) from rfl)
    have d2 := (cell_of_row _ _ 2 _ _ _ h4).trans (show _ = some (Value.int .i64 0) from rfl)
    have d3 := (cell_of_row _ _ 3 _ _ _ h4).trans (show _ = some (Value.int .i64 0) from rfl)
    have d4 := (cell_of_row _ _ 4 _ _ _ h4).trans (show _ = some (Value.int .i64 0) from rfl)
    have d5 := (cell_of_row _ _ 5 _ _ _ h4).trans (show _ = some (Value.bool false) from rfl)
    have f0 := frozen_of_row _ _ 0 _ _ h4
    have f1 := frozen_of_row _ _ 1 _ _ h4
    have f2 := frozen_of_row _ _ 2 _ _ h4
    have f3 := frozen_of_row _ _ 3 _ _ h4
    have f4 := frozen_of_row _ _ 4 _ _ h4
    have f5 := frozen_of_row _ _ 5 _ _ h4
    have HH := Lib.hid h4; clear h4
    go_wp2_with fail
    refine bodyPost_ret (results_row1 rfl _ _ w.heap.size 26 _ (0, 0) _ rfl (heap_set6 _ _ _ _ _ _ _ _ _ _ _ _ _ _ _ HH.out) Tryd.underlying26 rfl (by exact info_cd)) rfl ⟨rfl, ?_⟩
    have hs := Nat.le_refl w.heap.size
    exact (((((HB1.out.setCell (by exact hs) _).setCell (by exact hs) _).setCell (by exact hs) _).setCell (by exact hs) _).setCell (by exact hs) _).setCell (by exact hs) _
  · have HA := Lib.hid hall
    have HM : Hid (momB m = false) := Lib.hid (by simpa [hall] using hbad)
    clear hR hall hbad
    go_enter Tryd.func18, Tryd.ntmps18
    go_wp2_with fail
    refine (rvalid_any l _ _ (HR.out.below ((Below.refl _ _).alloc (Nat.le_refl _) _))).mono ?_
    rintro e w1 ⟨rfl, B1⟩
    rw [HA.out]
    have h4 := (B1.block w.heap.size (by simp)).trans (heap_alloc_new w _)
    have hz1 : w.heap.size < w1.heap.size := by have := B1.size; simp at this; omega
    have HB1 : Hid (Below w.heap.size w w1) := Lib.hid (((Below.refl _ _).alloc (Nat.le_refl _) _).trans (B1.mono (by simp)))
    clear B1
    have d0 := (cell_of_row _ _ 0 _ _ _ h4).trans (show _ = some (Value.int .i64 0) from rfl)
    have d1 := (cell_of_row _ _ 1 _ _ _ h4).trans (show _ = some (Value.int .i64 0) from rfl)
    have d2 := (cell_of_row _ _ 2 _ _ _ h4).trans (show _ = some (Value.int .i64 0) from rfl)
    have d3 := (cell_of_row _ _ 3 _ _ _ h4).trans (show _ = some (Value.int .i64 0) from rfl)
    have d4 := (cell_of_row _ _ 4 _ _ _ h4).trans (show _ = some (Value.int .i64 0) from rfl)
    have d5 := (cell_of_row _ _ 5 _ _ _ h4).trans (show _ = some (Value.bool false) from rfl)
    have f0 := frozen_of_row _ _ 0 _ _ h4
    have f1 := frozen_of_row _ _ 1 _ _ h4
    have f2 := frozen_of_row _ _ 2 _ _ h4
    have f3 := frozen_of_row _ _ 3 _ _ h4
    have f4 := frozen_of_row _ _ 4 _ _ h4
    have f5 := frozen_of_row _ _ 5 _ _ h4
    have HH := Lib.hid h4; clear h4
    go_wp2_with fail
    refine (is_any m w1).mono ?_
    rintro e w2 ⟨rfl, hw⟩
    rw [hw, HM.out]; clear hw
    go_wp2_with fail
    refine bodyPost_ret (results_row1 rfl _ _ w.heap.size 26 _ (0, 0) _ rfl (heap_set6 _ _ _ _ _ _ _ _ _ _ _ _ _ _ _ HH.out) Tryd.underlying26 rfl (by exact info_cd)) rfl ⟨rfl, ?_⟩
    have hs := Nat.le_refl w.heap.size
    exact (((((HB1.out.setCell (by exact hs) _).setCell (by exact hs) _).setCell (by exact hs) _).setCell (by exact hs) _).setCell (by exact hs) _).setCell (by exact hs) _

theorem ratW_any (l : List Sp) (m : Int) (v : Value) (w : World) (hR : ReadRow w 5 v l.length (spFlat l)) :
    Calls Tryd.prog 18 #[v, .int .i64 m] w (AtPost l m w) := by
  unfold AtPost
  cases h : (allB l && momB m)
  · exact rat_bad l m v w hR h
  · rw [Bool.and_eq_true] at h
    exact rat_ok l m v w hR h.1 h.2
end Go.Proofs.YtedddaojcknemaaDoor
