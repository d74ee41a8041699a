import Derived.Test.YtedddaojcknemaaDoorLexA
import Derived.Laws.Rows
import Derived.Maps.AppendAt
namespace Go.Proofs.YtedddaojcknemaaDoor
open Go.RowKit

/-- A whole array or struct stored at the head of a block of its size. -/
theorem run_storeVar_row {P : Program} (w : World) (g : Nat) (t ty : TypeId) (cur cs : Array Value) (hg : w.heap[g]? = some (.cells cur t (0, 0))) (hl : cs.size = cur.size) (h1 : ∀ u ∈ cs.toList, u.oneCell' = true)
    (hi : (P.info? ty).map (·.size) = some cs.size) :
    (Instr.storeAt ty (.pointer (some ⟨g, 0, none⟩)) (.agg cs)).run P w = .ok () (w.setRow g cs) := by
  have hst := run_storeCells_at P g 0 t cs.toList 0 cur w hg (by simp [hl]) h1
  simp only [Nat.add_zero, Nat.zero_add, List.take_zero, List.nil_append, Array.length_toList, hl] at hst
  have e : (cs.toList ++ cur.toList.drop cur.size).toArray = cs := by
    rw [List.drop_of_length_le (by simp)]; simp
  rw [e] at hst
  cases hq : P.info? ty with
  | none => simp [hq] at hi
  | some i =>
    have hs : i.size = cs.size := by simpa [hq] using hi
    simp [Instr.storeAt, Instr.sureAddr, Sem.run_bind, storeVar, sizeOf, typeInfo, hq, hs, Value.cells, hst]

theorem wpList_store_row {P : Program} {ops : Array Oper} {rest : List Oper} {o : Oper} {a : Act} {w : World} {Q : Exit → Act → World → Prop} (hgd : o.guard = none) (ty : TypeId) (x y : Operand) (ho : o.op = .store ty x y)
    (g : Nat) (t : TypeId) (cur cs : Array Value) (hx : a.eval x = .pointer (some ⟨g, 0, none⟩)) (hy : a.eval y = .agg cs) (hg : w.heap[g]? = some (.cells cur t (0, 0))) (hl : cs.size = cur.size) (h1 : ∀ u ∈ cs.toList, u.oneCell' = true)
    (hi : (P.info? ty).map (·.size) = some cs.size)
    (h : wpList P ops Q rest (a.put o.dst undef) (w.setRow g cs)) : wpList P ops Q (o :: rest) a w := by
  refine wpList_plain hgd fun K hK => ?_
  unfold Oper.wp execOp
  simp only [ho, hx, hy]
  have := run_storeVar_row (P := P) w g t ty cur cs hg hl h1 hi
  simp only [Sem.run_bind, this, Result.andThen_ok]
  exact hK _ _ h

/-- The table that classes() returns. -/
def clsTab : Nat → Int := fun c => (Lx.cls c : Int)

theorem classes_tab : ∀ c : Nat, c < 256 → setAll 9 [59, 44, 46, 58, 40, 41, 91, 93, 123, 125, 43, 45, 42, 47] (setAll 8 [60, 62, 61] (setAll 7 [33] (setAll 6 [34] (setAll 2 [35] (setAll 1 [32, 9, 10]
    (setAll 5 [95] (setAll 4 [48, 49, 50, 51, 52, 53, 54, 55, 56, 57] (setAll 3 [97, 98, 99, 100, 101, 102, 103, 104, 105, 106, 107, 108, 109, 110, 111, 112, 113, 114, 115, 116, 117, 118, 119, 120, 121, 122, 65, 66, 67, 68, 69, 70, 71, 72, 73, 74, 75, 76, 77, 78, 79, 80, 81, 82, 83, 84, 85, 86, 87, 88, 89, 90] (fun _ => 0))))))))) c = clsTab c := by
  decide +kernel

theorem tab_congr {f g : Nat → Int} (h : ∀ c, c < 256 → f c = g c) : tabCells f = tabCells g := by
  apply Array.ext_getElem?
  intro i
  by_cases hi : i < 256
  · rw [tab_get _ _ hi, tab_get _ _ hi, h i hi]
  · have h1 : ∀ g, (tabCells g)[i]? = none := fun g => by simp [tabCells]; omega
    rw [h1, h1]
theorem tab_one (f : Nat → Int) : ∀ u ∈ (tabCells f).toList, u.oneCell' = true := by
  intro u hu
  simp [tabCells] at hu
  obtain ⟨c, _, rfl⟩ := hu
  rfl

theorem info_size {P : Program} {t n : Nat} {z : Value} {b : Nat} (h : (P.info? t).map (fun i => (i.zero, i.size, i.bytes)) = some (some z, n, b)) : (P.info? t).map (·.size) = some n := by
  cases hq : P.info? t with
  | none => simp [hq] at h
  | some i => simp [hq] at h; simp [h.2.1]

theorem info_tab : (Tryd.prog.info? 84).map (·.size) = some 256 := by kernel_rfl

set_option maxHeartbeats 2000000 in
set_option maxRecDepth 100000 in
theorem classes_any (w : World) : Calls Tryd.prog 42 #[] w fun e w' => e = .returned (.agg (tabCells clsTab)) ∧ Below w.heap.size w w' := by
  have hmf : ∀ (fn : Fn) (first cap : Array Value) (w : World), (Instr.makeFunc fn first cap).run Tryd.prog w = .ok (.func fn first cap) w := fun _ _ _ _ => rfl
  go_enter Tryd.func42, Tryd.ntmps42
  go_wp2_with fail
  refine (set_any _ 3 (w.heap.size + 1) (fun _ => 0) 84 _ (by decide) (heap_alloc2_new _ _ _)).mono ?_
  rintro e w1 ⟨rfl, h1, g1⟩
  have H1 := Lib.hid h1; have G1 := Lib.hid g1; clear h1 g1
  go_wp2_with fail
  refine (set_any _ 4 (w.heap.size + 1) _ 84 _ (by decide) H1.out).mono ?_
  rintro e w2 ⟨rfl, h1, g1⟩
  have H2 := Lib.hid h1; have G2 := Lib.hid (G1.out.trans g1); clear h1 g1 H1 G1
  go_wp2_with fail
  refine (set_any _ 5 (w.heap.size + 1) _ 84 _ (by decide) H2.out).mono ?_
  rintro e w3 ⟨rfl, h1, g1⟩
  have H3 := Lib.hid h1; have G3 := Lib.hid (G2.out.trans g1); clear h1 g1 H2 G2
  go_wp2_with fail
  refine (set_any _ 1 (w.heap.size + 1) _ 84 _ (by decide) H3.out).mono ?_
  rintro e w4 ⟨rfl, h1, g1⟩
  have H4 := Lib.hid h1; have G4 := Lib.hid (G3.out.trans g1); clear h1 g1 H3 G3
  go_wp2_with fail
  refine (set_any _ 2 (w.heap.size + 1) _ 84 _ (by decide) H4.out).mono ?_
  rintro e w5 ⟨rfl, h1, g1⟩
  have H5 := Lib.hid h1; have G5 := Lib.hid (G4.out.trans g1); clear h1 g1 H4 G4
  go_wp2_with fail
  refine (set_any _ 6 (w.heap.size + 1) _ 84 _ (by decide) H5.out).mono ?_
  rintro e w6 ⟨rfl, h1, g1⟩
  have H6 := Lib.hid h1; have G6 := Lib.hid (G5.out.trans g1); clear h1 g1 H5 G5
  go_wp2_with fail
  refine (set_any _ 7 (w.heap.size + 1) _ 84 _ (by decide) H6.out).mono ?_
  rintro e w7 ⟨rfl, h1, g1⟩
  have H7 := Lib.hid h1; have G7 := Lib.hid (G6.out.trans g1); clear h1 g1 H6 G6
  go_wp2_with fail
  refine (set_any _ 8 (w.heap.size + 1) _ 84 _ (by decide) H7.out).mono ?_
  rintro e w8 ⟨rfl, h1, g1⟩
  have H8 := Lib.hid h1; have G8 := Lib.hid (G7.out.trans g1); clear h1 g1 H7 G7
  go_wp2_with fail
  refine (set_any _ 9 (w.heap.size + 1) _ 84 _ (by decide) H8.out).mono ?_
  rintro e w9 ⟨rfl, h1, g1⟩
  have H9 := Lib.hid h1; have G9 := Lib.hid (G8.out.trans g1); clear h1 g1 H8 G8
  have HT : Hid (w9.heap[w.heap.size + 1]? = some (.cells (tabCells clsTab) 84 (0, 0))) := Lib.hid (H9.out.trans (congrArg (fun c => some (Obj.cells c 84 (0, 0))) (tab_congr classes_tab)))
  have HZ : Hid (w9.heap[w.heap.size]? = some (.cells (tabCells fun _ => 0) 84 (0, 0))) :=
    (G9.out.block w.heap.size (by simp; omega) (by simp)).trans ((heap_alloc2_old w _ _).trans rfl)
  have HS : w.heap.size + 2 ≤ w9.heap.size := by have := G9.out.size; simpa using this
  clear H9
  go_wp2_with (first
    | (with_reducible refine wpList_load_row rfl 84 (.tmp 1) rfl (w.heap.size + 1) rfl 84 (tabCells clsTab) (0, 0) _ HT.out Tryd.underlying84 rfl ?_ ?_)
    | (with_reducible refine wpList_store_row rfl 84 (.tmp 0) (.tmp 22) rfl w.heap.size 84 (tabCells fun _ => 0) (tabCells clsTab) rfl rfl HZ.out ?_ (tab_one _) ?_ ?_))
  · rw [tab_size]; exact info_tab
  · rw [tab_size, tab_size]
  · rw [tab_size]; exact info_tab
  · refine bodyPost_ret (results_cell_row rfl _ _ w.heap.size 84 (tabCells clsTab) (0, 0) _ rfl (setRow_heap _ _ _ _ _ _ HZ.out) Tryd.underlying84 rfl (by rw [tab_size]; exact info_tab)) rfl ⟨rfl, ?_⟩
    have B9 : Below w.heap.size w w9 := (((Below.refl _ _).alloc (Nat.le_refl _) _).alloc (by simp) _).grown G9.out (by simp; omega) (fun k hk => by cases hk; omega)
    exact B9.trans ⟨rfl, rfl, rfl, by simp, fun k hk => setRow_other _ _ _ _ (by omega)⟩
end Go.Proofs.YtedddaojcknemaaDoor
