import Derived.Test.YtedddaojcknemaaDoorWeaC
import Derived.Recover
import Derived.BigRegion
namespace Go.Proofs.YtedddaojcknemaaDoor
open Go.RowKit

theorem blk_ne {w : World} {a b : Nat} {ca cb : Array Value} {ta tb : TypeId} (ha : w.heap[a]? = some (.cells ca ta (0, 0))) (hb : w.heap[b]? = some (.cells cb tb (0, 0))) (h : ta ≠ tb) : a ≠ b := by
  rintro rfl
  rw [ha] at hb
  injection hb with hb
  injection hb with _ ht
  exact h ht

/-- Behind the deferred closure that has caught a failure. -/
def CatchPost (w : World) (b2 b3 b4 : Nat) (e a : Int) (en : Ending) (u' : FrameMode) (w' : World) : Prop :=
  en = .returned (.tuple #[]) ∧ u' = .panicking [{ v := .iface 56 (.agg #[.int .i64 e, .int .i64 a]), recovered := true }] ∧
  w'.cell? ⟨b2, 0, none⟩ = some (.slice none 0 0) ∧ w'.cell? ⟨b3, 0, none⟩ = some (.int .i64 e) ∧ w'.cell? ⟨b4, 0, none⟩ = some (.int .i64 a) ∧ ∀ B, B ≤ b2 → B ≤ b3 → B ≤ b4 → Below B w w'

theorem catch_end (w : World) (b2 b3 b4 : Nat) (v2 v3 v4 : Value) (e a : Int) (h2 : w.heap[b2]? = some (.cells #[v2] 22 (0, 0))) (h3 : w.heap[b3]? = some (.cells #[v3] 27 (0, 0))) (h4 : w.heap[b4]? = some (.cells #[v4] 3 (0, 0)))
    (hn23 : b2 ≠ b3) (hn24 : b2 ≠ b4) (hn34 : b3 ≠ b4) (o : Obj) :
    CatchPost w b2 b3 b4 e a (.returned (.tuple #[])) (.panicking [{ v := .iface 56 (.agg #[.int .i64 e, .int .i64 a]), recovered := true }])
      ((((w.setCell ⟨b2, 0, none⟩ (.slice none 0 0)).setCell ⟨b3, 0, none⟩ (.int .i64 e)).setCell ⟨b4, 0, none⟩ (.int .i64 a)).alloc o).drew := by
  have s1 := heap_setCell_same w b2 0 _ _ (.slice none 0 0) h2
  have s2 := (heap_setCell_other (w.setCell ⟨b2, 0, none⟩ (.slice none 0 0)) ⟨b3, 0, none⟩ b2 (.int .i64 e) hn23).trans s1
  have s3 := (heap_setCell_other ((w.setCell ⟨b2, 0, none⟩ (.slice none 0 0)).setCell ⟨b3, 0, none⟩ (.int .i64 e)) ⟨b4, 0, none⟩ b2 (.int .i64 a) hn24).trans s2
  have t1 := (heap_setCell_other w ⟨b2, 0, none⟩ b3 (.slice none 0 0) (Ne.symm hn23)).trans h3
  have t2 := heap_setCell_same _ b3 0 _ _ (.int .i64 e) t1
  have t3 := (heap_setCell_other ((w.setCell ⟨b2, 0, none⟩ (.slice none 0 0)).setCell ⟨b3, 0, none⟩ (.int .i64 e)) ⟨b4, 0, none⟩ b3 (.int .i64 a) hn34).trans t2
  have q1 := (heap_setCell_other w ⟨b2, 0, none⟩ b4 (.slice none 0 0) (Ne.symm hn24)).trans h4
  have q2 := (heap_setCell_other (w.setCell ⟨b2, 0, none⟩ (.slice none 0 0)) ⟨b3, 0, none⟩ b4 (.int .i64 e) (Ne.symm hn34)).trans q1
  have q3 := heap_setCell_same _ b4 0 _ _ (.int .i64 a) q2
  have s4 := mustKeep s3 o
  have t4 := mustKeep t3 o
  have q4 := mustKeep q3 o
  refine ⟨rfl, rfl, (cell_of_row _ _ 0 _ _ _ s4).trans rfl, (cell_of_row _ _ 0 _ _ _ t4).trans rfl, (cell_of_row _ _ 0 _ _ _ q4).trans rfl, fun B k2 k3 k4 => ?_⟩
  have hl := (Array.getElem?_eq_some_iff.1 h2).1
  exact (((((Below.refl B w).setCell k2 _).setCell k3 _).setCell k4 _).alloc (by simp [World.setCell]; omega) o).drew

set_option maxRecDepth 100000 in
set_option maxHeartbeats 2000000 in
theorem catch_panic (w : World) (b2 b3 b4 : Nat) (v2 v3 v4 : Value) (e a : Int) (h2 : w.heap[b2]? = some (.cells #[v2] 22 (0, 0))) (h3 : w.heap[b3]? = some (.cells #[v3] 27 (0, 0))) (h4 : w.heap[b4]? = some (.cells #[v4] 3 (0, 0))) :
    CallsD Tryd.prog 26 #[.pointer (some ⟨b2, 0, none⟩), .pointer (some ⟨b3, 0, none⟩), .pointer (some ⟨b4, 0, none⟩)] (.panicking (failE e a)) w fun en u' w' =>
      CatchPost w b2 b3 b4 e a en u' w' := by
  have hn23 : b2 ≠ b3 := blk_ne h2 h3 (by decide)
  have hn24 : b2 ≠ b4 := blk_ne h2 h4 (by decide)
  have hn34 : b3 ≠ b4 := blk_ne h3 h4 (by decide)
  have c2 := (cell_of_row _ _ 0 _ _ _ h2).trans (show _ = some v2 from rfl)
  have c3 := (cell_of_row _ _ 0 _ _ _ h3).trans (show _ = some v3 from rfl)
  have c4 := (cell_of_row _ _ 0 _ _ _ h4).trans (show _ = some v4 from rfl)
  have f2 := frozen_of_row _ _ 0 _ _ h2
  have f3 := frozen_of_row _ _ 0 _ _ h3
  have f4 := frozen_of_row _ _ 0 _ _ h4
  have l2 := (Array.getElem?_eq_some_iff.1 h2).1
  have l3 := (Array.getElem?_eq_some_iff.1 h3).1
  have l4 := (Array.getElem?_eq_some_iff.1 h4).1
  have H := Lib.hid (And.intro h2 (And.intro h3 h4)); clear h2 h3 h4
  have hta : ∀ w, (Instr.typeAssert (.iface 56 (.agg #[.int .i64 e, .int .i64 a])) 20 56 true).run Tryd.prog w = .ok (.tuple #[.agg #[.int .i64 e, .int .i64 a], .bool true]) w := fun _ => by kernel_rfl
  refine callsD_of_wpS Tryd.func26 rfl fun c₀ cs hu => ?_
  simp only [Tryd.ntmps26, List.size_toArray, List.length_cons, List.length_nil, Nat.reduceAdd, Nat.reduceSub, Array.replicate_succ,
     Array.replicate_zero, List.push_toArray, List.append_toArray, List.nil_append, List.cons_append]
  apply wpS_seq
  apply wpS_region
  unfold failE at hu
  simp [wpOpsS, go_sem, recoverD, hu, hta, Exit.thenS]
  refine wpS_of_wp ?_
  clear hta
  go_wp2
  go_region
  refine ⟨rfl, _, rfl, .tuple #[], results_none rfl _ _ _, catch_end _ _ _ _ _ _ _ e a H.out.1 H.out.2.1 H.out.2.2 hn23 hn24 hn34 _⟩

set_option maxRecDepth 100000 in
set_option maxHeartbeats 2000000 in
theorem catch_idle (w : World) (b2 b3 b4 : Nat) :
    CallsD Tryd.prog 26 #[.pointer (some ⟨b2, 0, none⟩), .pointer (some ⟨b3, 0, none⟩), .pointer (some ⟨b4, 0, none⟩)] .returning w fun en u' w' =>
      en = .returned (.tuple #[]) ∧ u' = .returning ∧ Below w.heap.size w w' := by
  have hta : ∀ w, (Instr.typeAssert .nilIface 20 56 true).run Tryd.prog w = .ok (.tuple #[.agg #[.int .i64 0, .int .i64 0], .bool false]) w := fun _ => by kernel_rfl
  refine callsD_of_wpS Tryd.func26 rfl fun c₀ cs hu => ?_
  simp only [Tryd.ntmps26, List.size_toArray, List.length_cons, List.length_nil, Nat.reduceAdd, Nat.reduceSub, Array.replicate_succ,
     Array.replicate_zero, List.push_toArray, List.append_toArray, List.nil_append, List.cons_append]
  apply wpS_seq
  apply wpS_region
  simp [wpOpsS, go_sem, recoverD, hu, hta, Exit.thenS]
  refine wpS_of_wp ?_
  clear hta
  go_wp2
  refine ⟨rfl, .returning, by rw [← hu], .tuple #[], results_none rfl _ _ _, rfl, rfl, (Below.refl _ _).alloc (Nat.le_refl _) _⟩
end Go.Proofs.YtedddaojcknemaaDoor
