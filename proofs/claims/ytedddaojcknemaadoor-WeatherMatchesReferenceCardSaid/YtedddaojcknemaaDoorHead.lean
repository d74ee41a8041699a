/- The law's head: the chapter's examples. -/
import Derived.Test.YtedddaojcknemaaDoorAllD
namespace Go.Proofs.YtedddaojcknemaaDoor
open Go.RowKit

def headA : ByteArray := ⟨#[99, 108, 111, 117, 100, 32, 50, 32, 51, 48, 48, 32, 102, 114, 111, 109, 32, 53, 32, 117, 110, 116, 105, 108, 32, 57, 59, 32, 99, 108, 111, 115, 101, 100, 32, 102, 114, 111, 109, 32, 57, 32, 117, 110, 116, 105, 108, 32, 57, 59]⟩
def headB : ByteArray := ⟨#[115, 101, 101, 105, 110, 103, 32, 48, 32, 102, 114, 111, 109, 32, 49, 32, 117, 110, 116, 105, 108, 32, 50, 59]⟩
def headC : ByteArray := ⟨#[99, 108, 111, 115, 101, 100, 32, 102, 114, 111, 109, 32, 50]⟩
def headL : List Sp := [⟨1, 2, 300, 5, 9⟩, ⟨3, 0, 0, 9, 9⟩]
theorem head_a : Pz.parse headA.data.toList = ⟨headL, 0, 0⟩ := by kernel_rfl
theorem head_b : Pz.parse headB.data.toList = ⟨[], 9, 23⟩ := by kernel_rfl
theorem head_c : Pz.parse headC.data.toList = ⟨[], 6, 13⟩ := by kernel_rfl
theorem head_at5 : AtPost headL 5 = fun w e w' => e = .returned (.tuple #[.agg #[.int .i64 1000, .int .i64 1000, .int .i64 300, .int .i64 1000, .int .i64 10, .bool true], .int .i64 0]) ∧ Below w.heap.size w w' := by
  funext w e w'; unfold AtPost
  rw [show (allB headL && momB 5) = true from by decide]
  rfl
theorem head_at9 : AtPost headL 9 = fun w e w' => e = .returned (.tuple #[.agg #[.int .i64 1000, .int .i64 1000, .int .i64 300, .int .i64 1000, .int .i64 10, .bool false], .int .i64 0]) ∧ Below w.heap.size w w' := by
  funext w e w'; unfold AtPost
  rw [show (allB headL && momB 9) = true from by decide]
  rfl
theorem head_at10 : AtPost headL 10 = fun w e w' => e = .returned (.tuple #[.agg #[.int .i64 1000, .int .i64 1000, .int .i64 1000, .int .i64 1000, .int .i64 10, .bool true], .int .i64 0]) ∧ Below w.heap.size w w' := by
  funext w e w'; unfold AtPost
  rw [show (allB headL && momB 10) = true from by decide]
  rfl
theorem head_moon : MoonPost 32 = fun w e w' => e = .returned (.tuple #[.int .i64 133, .int .i64 0, .int .i64 0]) ∧ w' = w := by
  funext w e w'; rfl
theorem head_back1 : BackPost 15 15 = fun w e w' => e = .returned (.tuple #[.int .i64 10, .int .i64 0]) ∧ w' = w := by
  funext w e w'; rfl
theorem head_back2 : BackPost 15 31 = fun w e w' => e = .returned (.tuple #[.int .i64 0, .int .i64 0]) ∧ w' = w := by
  funext w e w'; rfl
theorem head_back3 : BackPost 15 16 = fun w e w' => e = .returned (.tuple #[.int .i64 9, .int .i64 0]) ∧ w' = w := by
  funext w e w'; rfl

theorem row6 {w : World} {b : Nat} {t : TypeId} {x0 x1 x2 x3 x4 x5 : Value} (h : w.heap[b]? = some (.cells #[x0, x1, x2, x3, x4, x5] t (0, 0))) :
    b < w.heap.size ∧ w.cell? ⟨b, 0, none⟩ = some x0 ∧ w.cell? ⟨b, 1, none⟩ = some x1 ∧ w.cell? ⟨b, 2, none⟩ = some x2 ∧ w.cell? ⟨b, 3, none⟩ = some x3 ∧ w.cell? ⟨b, 4, none⟩ = some x4 ∧ w.cell? ⟨b, 5, none⟩ = some x5 :=
  ⟨(Array.getElem?_eq_some_iff.1 h).1, cell_of_row w b 0 _ _ _ h, cell_of_row w b 1 _ _ _ h, cell_of_row w b 2 _ _ _ h, cell_of_row w b 3 _ _ _ h, cell_of_row w b 4 _ _ _ h, cell_of_row w b 5 _ _ _ h⟩
theorem keepRow {w w' : World} {b : Nat} {o : Obj} (h : w.heap[b]? = some o) (hb : Below w.heap.size w w') : w'.heap[b]? = some o :=
  (hb.block b (Array.getElem?_eq_some_iff.1 h).1).trans h

set_option maxRecDepth 100000 in
set_option maxHeartbeats 4000000 in
theorem head_any (w : World) : Calls Tryd.prog 8 #[] w fun e w' => e = .returned (.bool true) ∧ Below w.heap.size w w' := by
  have q1 : ∀ w, (Op.equalIn 9999 24 (.agg #[.int .i64 1000, .int .i64 1000, .int .i64 300, .int .i64 1000]) (.agg #[.int .i64 1000, .int .i64 1000, .int .i64 300, .int .i64 1000])).run Tryd.prog w = .ok true w := fun _ => by kernel_rfl
  have q2 : ∀ w, (Op.equalIn 9999 24 (.agg #[.int .i64 1000, .int .i64 1000, .int .i64 1000, .int .i64 1000]) (.agg #[.int .i64 1000, .int .i64 1000, .int .i64 1000, .int .i64 1000])).run Tryd.prog w = .ok true w := fun _ => by kernel_rfl
  go_enter Tryd.func8, Tryd.ntmps8
  go_wp2_with fail
  refine (parse_any headA _).mono ?_
  rintro e w1 ⟨v, rfl, o1, B1⟩
  rw [head_a] at o1 ⊢
  have HR1 := Lib.hid (ReadRow.of_owns o1); have HB1 := Lib.hid B1
  obtain ⟨av, cv, rfl⟩ := ownsRow_slice o1
  clear o1 B1
  simp only [headL, List.length_cons, List.length_nil, Nat.reduceAdd]
  go_wp2_with fail
  refine (atW_any headL 5 _ w1 HR1.out).mono ?_
  rw [head_at5]
  rintro e w2 ⟨rfl, B2⟩
  have HB2 := Lib.hid B2; clear B2
  go_wp2_with fail
  refine (atW_any headL 9 _ _ ((HR1.out.below HB2.out).below ((Below.refl _ _).alloc (Nat.le_refl _) _))).mono ?_
  rw [head_at9]
  rintro e w3 ⟨rfl, B3⟩
  have HA3 := Lib.hid (keepRow (heap_alloc_new w2 _) B3)
  have HC3 : Hid (Below w1.heap.size w1 w3) := Lib.hid ((HB2.out.alloc HB2.out.size _).trans (B3.mono (by have := HB2.out.size; simp; omega)))
  clear B3 HB2
  go_wp2_with fail
  refine (atW_any headL 10 _ _ ((HR1.out.below HC3.out).below ((Below.refl _ _).alloc (Nat.le_refl _) _))).mono ?_
  rw [head_at10]
  rintro e w4 ⟨rfl, B4⟩
  have HA4 := Lib.hid (keepRow (mustKeep HA3.out _) B4)
  have HB4 := Lib.hid (keepRow (heap_alloc_new w3 _) B4)
  have HC4 : Hid (Below w1.heap.size w1 w4) := Lib.hid ((HC3.out.alloc HC3.out.size _).trans (B4.mono (by have := HC3.out.size; simp; omega)))
  clear B4 HC3 HA3 HR1
  go_wp2_with fail
  refine (parse_any headB _).mono ?_
  rintro e w5 ⟨v5, rfl, o5, B5⟩
  rw [head_b] at o5 ⊢
  have HA5 := Lib.hid (keepRow (mustKeep HA4.out _) B5)
  have HB5 := Lib.hid (keepRow (mustKeep HB4.out _) B5)
  have HD5 := Lib.hid (keepRow (heap_alloc_new w4 _) B5)
  have HC5 : Hid (Below w1.heap.size w1 w5) := Lib.hid ((HC4.out.alloc HC4.out.size _).trans (B5.mono (by have := HC4.out.size; simp; omega)))
  obtain ⟨a5, c5, rfl⟩ := ownsRow_slice o5
  clear o5 B5 HC4 HA4 HB4
  simp only [List.length_nil]
  go_wp2_with fail
  refine (parse_any headC _).mono ?_
  rintro e w6 ⟨v6, rfl, o6, B6⟩
  rw [head_c] at o6 ⊢
  have HA6 := keepRow HA5.out B6
  have HB6 := keepRow HB5.out B6
  have HD6 := keepRow HD5.out B6
  have HC6 : Hid (Below w.heap.size w w6) := Lib.hid (HB1.out.trans ((HC5.out.trans (B6.mono HC5.out.size)).mono HB1.out.size))
  obtain ⟨a6, c6, rfl⟩ := ownsRow_slice o6
  clear o6 B6 HC5 HA5 HB5 HD5
  simp only [List.length_nil]
  obtain ⟨lA, A0, A1, A2, A3, A4, A5⟩ := row6 HA6
  obtain ⟨lB, B0, B1, B2, B3, B4, B5⟩ := row6 HB6
  obtain ⟨lD, D0, D1, D2, D3, D4, D5⟩ := row6 HD6
  clear HA6 HB6 HD6
  go_wp2_with fail
  refine (moon_any 32 _).mono ?_
  rw [head_moon]
  rintro e w7 ⟨rfl, hw⟩
  rw [hw]; clear hw
  go_wp2_with fail
  refine (back_any 15 15 _).mono ?_
  rw [head_back1]
  rintro e w7 ⟨rfl, hw⟩
  rw [hw]; clear hw
  go_wp2_with fail
  refine (back_any 15 31 _).mono ?_
  rw [head_back2]
  rintro e w7 ⟨rfl, hw⟩
  rw [hw]; clear hw
  go_wp2_with fail
  refine (back_any 15 16 _).mono ?_
  rw [head_back3]
  rintro e w7 ⟨rfl, hw⟩
  rw [hw]; clear hw
  go_wp2_with fail
  go_ret
  exact ⟨rfl, (HC6.out.alloc HC6.out.size _).alloc (by have := HC6.out.size; simp; omega) _⟩
end Go.Proofs.YtedddaojcknemaaDoor
