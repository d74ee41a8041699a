/- WeatherMatchesReference: the law walked. -/
import Derived.Test.YtedddaojcknemaaDoorTxtC
import Derived.Test.YtedddaojcknemaaDoorQuietB
import Derived.Test.YtedddaojcknemaaDoorHead
import Derived.Test.YtedddaojcknemaaDoorRefO
import Derived.Test.YtedddaojcknemaaDoorRefD
import Derived.Test.YtedddaojcknemaaDoorRefC
namespace Go.Proofs.YtedddaojcknemaaDoor
open Go.RowKit Go.Sort

def MatPost (w : World) (e : Ending) (w' : World) : Prop := e = .returned (.bool true) ∧ Below w.heap.size w w'
/-- The law looks at the input. -/
def matB (n : Nat) (l : List Sp) : Bool := !(decide (2000 < n) && decide (n ≤ 20000)) && !decide (21000 < n) && fewB l
theorem moon_val (n : Int) : ∃ a b c : Int, (if nightB n then Value.tuple #[.int .i64 (moonL n), .int .i64 (n % 32), .int .i64 0] else .tuple #[.int .i64 0, .int .i64 0, .int .i64 1]) = .tuple #[.int .i64 a, .int .i64 b, .int .i64 c] := by
  split <;> exact ⟨_, _, _, rfl⟩
theorem back_val (n t : Int) : ∃ a b : Int, (if nightB n && tileB t then Value.tuple #[.int .i64 (backL n t), .int .i64 0] else .tuple #[.int .i64 0, .int .i64 1]) = .tuple #[.int .i64 a, .int .i64 b] := by
  split <;> exact ⟨_, _, rfl⟩
theorem at_val (l : List Sp) (m : Int) : ∃ (C : Cd) (k : Int), (if allB l && momB m then Value.tuple #[cdV (atL l m), .int .i64 0] else .tuple #[cdV cdZ, .int .i64 1]) = .tuple #[cdV C, .int .i64 k] := by
  split <;> exact ⟨_, _, rfl⟩

set_option maxRecDepth 100000 in
set_option maxHeartbeats 4000000 in
theorem mat_out (t : ByteArray) (l : List Sp) (m n ti : Int) (v : Value) (w : World) (hR : ReadRow w 5 v l.length (spFlat l)) (hb : matB t.size l = false) :
    Calls Tryd.prog 5 #[.string t, v, .int .i64 m, .int .i64 n, .int .i64 ti] w (MatPost w) := by
  unfold MatPost
  have HR := Lib.hid hR
  obtain ⟨a, c, rfl, hc1, hc2, _⟩ := hR.slice
  clear hR hc1 hc2
  by_cases h1 : (21000 : Int) < (t.size : Int)
  · have h2 : (2000 : Int) < (t.size : Int) := by omega
    have h3 : ¬ (t.size : Int) ≤ 20000 := by omega
    clear hb
    go_enter Tryd.func5, Tryd.ntmps5
    go_wp2_with fail
    refine (head_any _).mono ?_
    rintro e w1 ⟨rfl, hB⟩
    have HB := Lib.hid hB; clear hB
    go_wp2_with fail
    go_ret
    exact ⟨rfl, HB.out⟩
  · by_cases h2 : (2000 : Int) < (t.size : Int)
    · by_cases h3 : (t.size : Int) ≤ 20000
      · clear hb
        go_enter Tryd.func5, Tryd.ntmps5
        go_wp2_with fail
        refine (head_any _).mono ?_
        rintro e w1 ⟨rfl, hB⟩
        have HB := Lib.hid hB; clear hB
        go_wp2_with fail
        go_ret
        exact ⟨rfl, HB.out⟩
      · have hf : Hid (fewB l = false) := Lib.hid (by unfold matB at hb; rw [decide_eq_false (show ¬ t.size ≤ 20000 by omega), decide_eq_false (show ¬ 21000 < t.size by omega)] at hb; simpa using hb)
        clear hb
        go_enter Tryd.func5, Tryd.ntmps5
        go_wp2_with fail
        refine (head_any _).mono ?_
        rintro e w1 ⟨rfl, hB⟩
        have HB := Lib.hid hB; clear hB
        go_wp2_with fail
        refine (few_any l _ w1 (HR.out.below HB.out)).mono ?_
        rintro e w2 ⟨rfl, hw⟩
        rw [hw, hf.out]; clear hw
        go_wp2_with fail
        go_ret
        exact ⟨rfl, HB.out⟩
    · have hf : Hid (fewB l = false) := Lib.hid (by unfold matB at hb; rw [decide_eq_false (show ¬ 2000 < t.size by omega), decide_eq_false (show ¬ 21000 < t.size by omega)] at hb; simpa using hb)
      clear hb
      go_enter Tryd.func5, Tryd.ntmps5
      go_wp2_with fail
      refine (head_any _).mono ?_
      rintro e w1 ⟨rfl, hB⟩
      have HB := Lib.hid hB; clear hB
      go_wp2_with fail
      refine (few_any l _ w1 (HR.out.below HB.out)).mono ?_
      rintro e w2 ⟨rfl, hw⟩
      rw [hw, hf.out]; clear hw
      go_wp2_with fail
      go_ret
      exact ⟨rfl, HB.out⟩

set_option maxRecDepth 100000 in
set_option maxHeartbeats 8000000 in
theorem mat_in (t : ByteArray) (l : List Sp) (m n ti : Int) (v : Value) (w : World) (hR : ReadRow w 5 v l.length (spFlat l)) (hT : TabW w) (hb : matB t.size l = true) :
    Calls Tryd.prog 5 #[.string t, v, .int .i64 m, .int .i64 n, .int .i64 ti] w (MatPost w) := by
  unfold MatPost
  have HR := Lib.hid hR
  have HT := Lib.hid hT
  obtain ⟨a, c, rfl, hc1, hc2, _⟩ := hR.slice
  clear hR hT hc1 hc2
  unfold matB at hb
  simp only [Bool.and_eq_true, Bool.not_eq_true', Bool.and_eq_false_iff, decide_eq_false_iff_not] at hb
  obtain ⟨⟨hb1, hb2⟩, hf⟩ := hb
  have h1 : ¬ (21000 : Int) < (t.size : Int) := by omega
  have HF := Lib.hid hf; clear hf hb2
  have H12 : Hid ((¬ (2000 : Int) < (t.size : Int)) ∨ ((2000 : Int) < (t.size : Int) ∧ ¬ (t.size : Int) ≤ 20000)) := Lib.hid (by omega)
  clear hb1
  obtain ⟨ma, mb, mc, hm⟩ := moon_val n
  obtain ⟨ba, bb, hbk⟩ := back_val n ti
  obtain ⟨C, ck, hat⟩ := at_val l m
  obtain ⟨c0, c1, c2, c3, c4, c5⟩ := C
  have HV := Lib.hid (And.intro hm (And.intro hbk hat)); clear hm hbk hat
  go_enter Tryd.func5, Tryd.ntmps5
  go_wp2_with fail
  refine (head_any _).mono ?_
  rintro e w1 ⟨rfl, hB⟩
  have HB := Lib.hid hB; clear hB
  rcases H12.out with h2 | ⟨h2, h3⟩
  all_goals
    go_wp2_with fail
    refine (few_any l _ w1 (HR.out.below HB.out)).mono ?_
    rintro e w2 ⟨rfl, hw⟩
    rw [hw, HF.out]; clear hw
    go_wp2_with fail
    refine (parse_any t w1).mono ?_
    rintro e w2 ⟨v2, rfl, o2, hB2⟩
    have HRA := Lib.hid (ReadRow.of_owns o2)
    have HB2 := Lib.hid (HB.out.trans (hB2.mono HB.out.size))
    obtain ⟨a2, c2', rfl⟩ := ownsRow_slice o2
    clear o2 hB2 HB
    go_wp2_with fail
    refine (rparse_ok t w2).mono ?_
    rintro e w3 ⟨v3, rfl, o3, hB3⟩
    have HRB := Lib.hid (ReadRow.of_owns o3)
    have HRA3 := Lib.hid (HRA.out.below hB3)
    have HB3 := Lib.hid (HB2.out.trans (hB3.mono HB2.out.size))
    obtain ⟨a3, c3', rfl⟩ := ownsRow_slice o3
    clear o3 hB3 HB2 HRA
    generalize Pz.parse t.data.toList = R at HRA3 HRB ⊢
    obtain ⟨sps, er, at0⟩ := R
    simp only at HRA3 HRB ⊢
    go_wp2_with fail
    refine (text_any l _ w3 (HR.out.below HB3.out) (HT.out.below HB3.out)).mono ?_
    rintro e w4 ⟨rfl, hB4⟩
    have HRA4 := Lib.hid (HRA3.out.below hB4)
    have HRB4 := Lib.hid (HRB.out.below hB4)
    have HB4 := Lib.hid (HB3.out.trans (hB4.mono HB3.out.size))
    clear hB4 HB3 HRA3 HRB
    go_wp2_with fail
    refine (rtext_any l _ w4 (HR.out.below HB4.out)).mono ?_
    rintro e w5 ⟨rfl, hB5⟩
    have HRA5 := Lib.hid (HRA4.out.below hB5)
    have HRB5 := Lib.hid (HRB4.out.below hB5)
    have HB5 := Lib.hid (HB4.out.trans (hB5.mono HB4.out.size))
    clear hB5 HB4 HRA4 HRB4
    generalize (⟨(txtB l).toArray⟩ : ByteArray) = TX
    generalize txtE l = TE
    go_wp2_with fail
    refine (atW_any l m _ w5 (HR.out.below HB5.out)).mono ?_
    rintro e w6 ⟨he, hB6⟩
    rw [HV.out.2.2] at he
    obtain rfl := he
    have HRA6 := Lib.hid (HRA5.out.below hB6)
    have HRB6 := Lib.hid (HRB5.out.below hB6)
    have HB6 := Lib.hid (HB5.out.trans (hB6.mono HB5.out.size))
    clear hB6 HB5 HRA5 HRB5
    unfold cdV cdCells
    simp only []
    go_wp2_with fail
    have h22 := heap_alloc_new w6 (.cells #[.int .i64 c0, .int .i64 c1, .int .i64 c2, .int .i64 c3, .int .i64 c4, .bool c5] 26)
    have HBA := Lib.hid (HB6.out.alloc HB6.out.size (.cells #[.int .i64 c0, .int .i64 c1, .int .i64 c2, .int .i64 c3, .int .i64 c4, .bool c5] 26))
    have HRA7 := Lib.hid (HRA6.out.below ((Below.refl _ w6).alloc (Nat.le_refl _) (.cells #[.int .i64 c0, .int .i64 c1, .int .i64 c2, .int .i64 c3, .int .i64 c4, .bool c5] 26)))
    have HRB7 := Lib.hid (HRB6.out.below ((Below.refl _ w6).alloc (Nat.le_refl _) (.cells #[.int .i64 c0, .int .i64 c1, .int .i64 c2, .int .i64 c3, .int .i64 c4, .bool c5] 26)))
    have hz7 : w6.heap.size < (w6.alloc (.cells #[.int .i64 c0, .int .i64 c1, .int .i64 c2, .int .i64 c3, .int .i64 c4, .bool c5] 26)).heap.size := by simp
    obtain ⟨b22, hb22⟩ : ∃ b, b = w6.heap.size := ⟨_, rfl⟩
    rw [← hb22] at h22 hz7 ⊢
    clear hb22
    generalize w6.alloc (.cells #[.int .i64 c0, .int .i64 c1, .int .i64 c2, .int .i64 c3, .int .i64 c4, .bool c5] 26) = w7 at h22 HBA HRA7 HRB7 hz7 ⊢
    have H22 := Lib.hid (And.intro h22 hz7)
    clear h22 HB6 HRA6 HRB6 hz7
    refine (ratW_any l m _ w7 (HR.out.below HBA.out)).mono ?_
    rintro e w8 ⟨he, hB8⟩
    rw [HV.out.2.2] at he
    obtain rfl := he
    have HRA8 := Lib.hid (HRA7.out.below hB8)
    have HRB8 := Lib.hid (HRB7.out.below hB8)
    have H22b := Lib.hid (And.intro ((hB8.block b22 H22.out.2).trans H22.out.1) (Nat.lt_of_lt_of_le H22.out.2 hB8.size))
    have HB8 := Lib.hid (HBA.out.trans (hB8.mono HBA.out.size))
    clear hB8 HBA HRA7 HRB7 H22
    unfold cdV cdCells
    simp only []
    go_wp2_with fail
    have h24 := heap_alloc_new w8 (.cells #[.int .i64 c0, .int .i64 c1, .int .i64 c2, .int .i64 c3, .int .i64 c4, .bool c5] 26)
    have HBC := Lib.hid (HB8.out.alloc HB8.out.size (.cells #[.int .i64 c0, .int .i64 c1, .int .i64 c2, .int .i64 c3, .int .i64 c4, .bool c5] 26))
    have HRA9 := Lib.hid (HRA8.out.below ((Below.refl _ w8).alloc (Nat.le_refl _) (.cells #[.int .i64 c0, .int .i64 c1, .int .i64 c2, .int .i64 c3, .int .i64 c4, .bool c5] 26)))
    have HRB9 := Lib.hid (HRB8.out.below ((Below.refl _ w8).alloc (Nat.le_refl _) (.cells #[.int .i64 c0, .int .i64 c1, .int .i64 c2, .int .i64 c3, .int .i64 c4, .bool c5] 26)))
    have H22c := Lib.hid (And.intro (mustKeep H22b.out.1 (.cells #[.int .i64 c0, .int .i64 c1, .int .i64 c2, .int .i64 c3, .int .i64 c4, .bool c5] 26)) (show b22 < (w8.alloc (.cells #[.int .i64 c0, .int .i64 c1, .int .i64 c2, .int .i64 c3, .int .i64 c4, .bool c5] 26)).heap.size by have := H22b.out.2; simp; omega))
    have hz9 : w8.heap.size < (w8.alloc (.cells #[.int .i64 c0, .int .i64 c1, .int .i64 c2, .int .i64 c3, .int .i64 c4, .bool c5] 26)).heap.size := by simp
    obtain ⟨b24, hb24⟩ : ∃ b, b = w8.heap.size := ⟨_, rfl⟩
    rw [← hb24] at h24 hz9 ⊢
    clear hb24
    generalize w8.alloc (.cells #[.int .i64 c0, .int .i64 c1, .int .i64 c2, .int .i64 c3, .int .i64 c4, .bool c5] 26) = w9 at h24 HBC HRA9 HRB9 H22c hz9 ⊢
    have H24 := Lib.hid (And.intro h24 hz9)
    clear h24 HB8 HRA8 HRB8 H22b hz9
    refine (moon_any n w9).mono ?_
    rintro e wx ⟨he, hw⟩
    rw [hw]; clear hw
    rw [HV.out.1] at he
    obtain rfl := he
    go_wp2_with fail
    refine (rmoon_any n w9).mono ?_
    rintro e wx ⟨he, hw⟩
    rw [hw]; clear hw
    rw [HV.out.1] at he
    obtain rfl := he
    go_wp2_with fail
    refine (back_any n ti w9).mono ?_
    rintro e wx ⟨he, hw⟩
    rw [hw]; clear hw
    rw [HV.out.2.1] at he
    obtain rfl := he
    go_wp2_with fail
    refine (rback_any n ti w9).mono ?_
    rintro e wx ⟨he, hw⟩
    rw [hw]; clear hw
    rw [HV.out.2.1] at he
    obtain rfl := he
    go_wp2_with fail
    refine (same_any sps sps _ _ w9 HRA9.out HRB9.out).mono ?_
    rintro e w10 ⟨rfl, hB10⟩
    rw [show decide (sps = sps) = true from by simp]
    have h22 := (hB10.block b22 H22c.out.2).trans H22c.out.1
    have h24 := (hB10.block b24 H24.out.2).trans H24.out.1
    have HB10 := Lib.hid (HBC.out.trans (hB10.mono HBC.out.size))
    clear hB10 HBC HRA9 HRB9 H22c H24
    have x0 := (cell_of_row _ _ 0 _ _ _ h22).trans (show _ = some (Value.int .i64 c0) from rfl)
    have x1 := (cell_of_row _ _ 1 _ _ _ h22).trans (show _ = some (Value.int .i64 c1) from rfl)
    have x2 := (cell_of_row _ _ 2 _ _ _ h22).trans (show _ = some (Value.int .i64 c2) from rfl)
    have x3 := (cell_of_row _ _ 3 _ _ _ h22).trans (show _ = some (Value.int .i64 c3) from rfl)
    have x4 := (cell_of_row _ _ 4 _ _ _ h22).trans (show _ = some (Value.int .i64 c4) from rfl)
    have x5 := (cell_of_row _ _ 5 _ _ _ h22).trans (show _ = some (Value.bool c5) from rfl)
    have y0 := (cell_of_row _ _ 0 _ _ _ h24).trans (show _ = some (Value.int .i64 c0) from rfl)
    have y1 := (cell_of_row _ _ 1 _ _ _ h24).trans (show _ = some (Value.int .i64 c1) from rfl)
    have y2 := (cell_of_row _ _ 2 _ _ _ h24).trans (show _ = some (Value.int .i64 c2) from rfl)
    have y3 := (cell_of_row _ _ 3 _ _ _ h24).trans (show _ = some (Value.int .i64 c3) from rfl)
    have y4 := (cell_of_row _ _ 4 _ _ _ h24).trans (show _ = some (Value.int .i64 c4) from rfl)
    have y5 := (cell_of_row _ _ 5 _ _ _ h24).trans (show _ = some (Value.bool c5) from rfl)
    clear h22 h24
    have hq : ∀ w, (Op.equalIn 10000 26 (.agg #[.int .i64 c0, .int .i64 c1, .int .i64 c2, .int .i64 c3, .int .i64 c4, .bool c5]) (.agg #[.int .i64 c0, .int .i64 c1, .int .i64 c2, .int .i64 c3, .int .i64 c4, .bool c5])).run Tryd.prog w = .ok true w := fun w => (eq_cd ⟨c0, c1, c2, c3, c4, c5⟩ ⟨c0, c1, c2, c3, c4, c5⟩ w).trans (by simp)
    go_wp2_with fail
    go_ret
    exact ⟨rfl, HB10.out⟩

theorem mat_any (t : ByteArray) (l : List Sp) (m n ti : Int) (v : Value) (w : World) (hR : ReadRow w 5 v l.length (spFlat l)) (hT : TabW w) :
    Calls Tryd.prog 5 #[.string t, v, .int .i64 m, .int .i64 n, .int .i64 ti] w (MatPost w) := by
  cases h : matB t.size l
  · exact mat_out t l m n ti v w hR h
  · exact mat_in t l m n ti v w hR hT h
end Go.Proofs.YtedddaojcknemaaDoor
