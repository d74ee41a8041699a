import Derived.Test.YtedddaojcknemaaDoorWeaA
import Derived.Deep.RegionWith
import Derived.Deep.RegionHeld3
import Derived.Laws.EntriesVeiled
import Derived.Deep.DeepCutAuto
namespace Go.Proofs.YtedddaojcknemaaDoor
open Go.RowKit

theorem within_any (n lo hi : Int) (w : World) : Calls Tryd.prog 25 #[.int .i64 n, .int .i64 lo, .int .i64 hi] w fun e w' => e = .returned (.bool (decide (lo ≤ n ∧ n ≤ hi))) ∧ w' = w := by
  by_cases h1 : lo ≤ n
  · by_cases h2 : n ≤ hi
    · rw [decide_eq_true (show lo ≤ n ∧ n ≤ hi from ⟨h1, h2⟩)]
      go_enter Tryd.func25, Tryd.ntmps25
      go_wp2
      go_ret
      exact ⟨rfl, rfl⟩
    · rw [decide_eq_false (show ¬ (lo ≤ n ∧ n ≤ hi) from fun h => h2 h.2)]
      go_enter Tryd.func25, Tryd.ntmps25
      go_wp2
      go_ret
      exact ⟨rfl, rfl⟩
  · rw [decide_eq_false (show ¬ (lo ≤ n ∧ n ≤ hi) from fun h => h1 h.1)]
    go_enter Tryd.func25, Tryd.ntmps25
    go_wp2
    go_ret
    exact ⟨rfl, rfl⟩

theorem ret_bool {a b : Bool} (h : a = b) : Ending.returned (.bool a) = .returned (.bool b) := by rw [h]
def momB (m : Int) : Bool := decide (0 ≤ m ∧ m ≤ 38399)
theorem moment_any (m : Int) (w : World) : Calls Tryd.prog 24 #[.int .i64 m] w fun e w' => e = .returned (.bool (momB m)) ∧ w' = w := by
  obtain ⟨b, hb⟩ : ∃ b, b = decide (0 ≤ m ∧ m ≤ 38399) := ⟨_, rfl⟩
  have hb2 : momB m = b := by unfold momB; exact hb.symm
  rw [hb2]
  go_enter Tryd.func24, Tryd.ntmps24
  go_wp2_with fail
  refine (within_any m 0 38399 w).mono ?_
  rintro e w' ⟨rfl, hw⟩
  rw [hw, ← hb]
  clear hb hb2 hw
  go_wp2_with fail
  go_ret
  exact ⟨rfl, rfl⟩

/-- A spell as Go's value. -/
structure Sp where
  k : Int
  q : Int
  n : Int
  f : Int
  u : Int
  deriving DecidableEq
def spCells (s : Sp) : List Value := [.int .i64 s.k, .int .i64 s.q, .int .i64 s.n, .int .i64 s.f, .int .i64 s.u]
def spV (s : Sp) : Value := .agg #[.int .i64 s.k, .int .i64 s.q, .int .i64 s.n, .int .i64 s.f, .int .i64 s.u]

def val1 (q n : Int) : Bool := decide (0 ≤ q ∧ q ≤ 3) && decide (0 ≤ n ∧ n ≤ 1000)
def val2 (q n : Int) : Bool := decide (q = 0) && decide (1 ≤ n ∧ n ≤ 100)
def val3 (q n : Int) : Bool := decide (q = 0) && decide (n = 0)

theorem k2_any (s : Sp) (w : World) : Calls Tryd.prog 46 #[spV s] w fun e w' => e = .returned (.bool (val1 s.q s.n)) ∧ Below w.heap.size w w' := by
  obtain ⟨k, q, n, f, u⟩ := s
  unfold spV val1
  obtain ⟨c, hc⟩ : ∃ c, c = decide (0 ≤ q ∧ q ≤ 3) := ⟨_, rfl⟩
  obtain ⟨d, hd⟩ : ∃ d, d = decide (0 ≤ n ∧ n ≤ 1000) := ⟨_, rfl⟩
  simp only []
  rw [← hc, ← hd]
  have HC := Lib.hid hc; have HD := Lib.hid hd; clear hc hd
  cases c
  · go_enter Tryd.func46, Tryd.ntmps46
    go_wp2_with fail
    refine (within_any _ _ _ _).mono ?_
    rintro e w' ⟨rfl, hw⟩
    rw [hw, ← HC.out]; clear hw
    go_wp2_with fail
    go_ret
    exact ⟨rfl, (Below.refl _ _).alloc (Nat.le_refl _) _⟩
  · go_enter Tryd.func46, Tryd.ntmps46
    go_wp2_with fail
    refine (within_any _ _ _ _).mono ?_
    rintro e w' ⟨rfl, hw⟩
    rw [hw, ← HC.out]; clear hw
    go_wp2_with fail
    refine (within_any _ _ _ _).mono ?_
    rintro e w' ⟨rfl, hw⟩
    rw [hw, ← HD.out]; clear hw
    go_wp2_with fail
    go_ret
    exact ⟨rfl, (Below.refl _ _).alloc (Nat.le_refl _) _⟩
theorem k4_any (s : Sp) (w : World) : Calls Tryd.prog 48 #[spV s] w fun e w' => e = .returned (.bool (val2 s.q s.n)) ∧ Below w.heap.size w w' := by
  obtain ⟨k, q, n, f, u⟩ := s
  unfold spV val2
  obtain ⟨d, hd⟩ : ∃ d, d = decide (1 ≤ n ∧ n ≤ 100) := ⟨_, rfl⟩
  simp only []
  rw [← hd]
  have HD := Lib.hid hd; clear hd
  by_cases hq : q = 0
  · subst hq
    rw [decide_eq_true rfl]
    go_enter Tryd.func48, Tryd.ntmps48
    go_wp2_with fail
    refine (within_any _ _ _ _).mono ?_
    rintro e w' ⟨rfl, hw⟩
    rw [hw, ← HD.out]; clear hw
    go_wp2_with fail
    go_ret
    exact ⟨rfl, (Below.refl _ _).alloc (Nat.le_refl _) _⟩
  · rw [decide_eq_false hq]
    have hqb : (q == 0) = false := by simpa using hq
    clear hq
    go_enter Tryd.func48, Tryd.ntmps48
    go_wp2_with fail
    go_ret
    exact ⟨rfl, (Below.refl _ _).alloc (Nat.le_refl _) _⟩
theorem k6_any (s : Sp) (w : World) : Calls Tryd.prog 50 #[spV s] w fun e w' => e = .returned (.bool (val3 s.q s.n)) ∧ Below w.heap.size w w' := by
  obtain ⟨k, q, n, f, u⟩ := s
  unfold spV val3
  simp only []
  by_cases hq : q = 0
  · subst hq
    rw [decide_eq_true rfl]
    by_cases hn : n = 0
    · subst hn
      rw [decide_eq_true rfl]
      go_enter Tryd.func50, Tryd.ntmps50
      go_wp2_with fail
      go_ret
      exact ⟨rfl, (Below.refl _ _).alloc (Nat.le_refl _) _⟩
    · rw [decide_eq_false hn]
      have hqb : (n == 0) = false := by simpa using hn
      clear hn
      go_enter Tryd.func50, Tryd.ntmps50
      go_wp2_with fail
      go_ret
      exact ⟨rfl, (Below.refl _ _).alloc (Nat.le_refl _) _⟩
  · rw [decide_eq_false hq]
    have hqb : (q == 0) = false := by simpa using hq
    clear hq
    go_enter Tryd.func50, Tryd.ntmps50
    go_wp2_with fail
    go_ret
    exact ⟨rfl, (Below.refl _ _).alloc (Nat.le_refl _) _⟩

def kindOk (k q n : Int) : Bool := if k = 1 then val1 q n else if k = 2 then val2 q n else if k = 3 then val3 q n else false
def formedB (s : Sp) : Bool := kindOk s.k s.q s.n && momB s.f && momB s.u && decide (s.f ≤ s.u)

theorem heap_alloc3_mid (w : World) (A B C : Obj) : (((w.alloc A).alloc B).alloc C).heap[w.heap.size + 1]? = some B := by
  exact (Below.heap_alloc ((w.alloc A).alloc B) C (w.heap.size + 1) (by simp)).trans (heap_alloc2_new w A B)
theorem heap_alloc3_old (w : World) (A B C : Obj) : (((w.alloc A).alloc B).alloc C).heap[w.heap.size]? = some A := by
  exact (Below.heap_alloc ((w.alloc A).alloc B) C w.heap.size (by simp; omega)).trans (heap_alloc2_old w A B)
theorem heap_alloc3_new (w : World) (A B C : Obj) : (((w.alloc A).alloc B).alloc C).heap[w.heap.size + 1 + 1]? = some C := by
  have h := heap_alloc_new ((w.alloc A).alloc B) C
  simpa using h
theorem kind_looks (w : World) (A : Obj) (k : Int) (v : Value) (ok : Bool) (h : ∀ (W : World) (b : Nat), W.heap[b]? = some kindMap → (Instr.lookup 60 (.map (some b)) (.int .i64 k) true).run Tryd.prog W = .ok (.tuple #[v, .bool ok]) W) :
    (Instr.lookup 60 (.map (some (w.heap.size + 1))) (.int .i64 k) true).run Tryd.prog ((w.alloc A).alloc kindMap).drew = .ok (.tuple #[v, .bool ok]) ((w.alloc A).alloc kindMap).drew ∧
    (∀ o, (Instr.lookup 60 (.map (some (w.heap.size + 1))) (.int .i64 k) true).run Tryd.prog (((w.alloc A).alloc kindMap).alloc o).drew = .ok (.tuple #[v, .bool ok]) (((w.alloc A).alloc kindMap).alloc o).drew) ∧
    (∀ o, (Instr.lookup 60 (.map (some (w.heap.size + 1 + 1))) (.int .i64 k) true).run Tryd.prog (((w.alloc A).alloc o).alloc kindMap).drew = .ok (.tuple #[v, .bool ok]) (((w.alloc A).alloc o).alloc kindMap).drew) :=
  ⟨h _ _ (heap_alloc2_new _ _ _), fun _ => h _ _ (heap_alloc3_mid _ _ _ _), fun _ => h _ _ (heap_alloc3_new _ _ _ _)⟩

/-- Behind the look-up: the kind lies in a block of its own. -/
def FormCut (w : World) (A : Obj) (cs : Array Value) (ok : Bool) (s3 s4 : Value) (wx : World) : Prop :=
  ∃ g, s3 = .pointer (some ⟨g, 0, none⟩) ∧ s4 = .bool ok ∧ wx.heap[g]? = some (.cells cs 65 (0, 0)) ∧ wx.heap[w.heap.size]? = some A ∧ Below w.heap.size w wx
theorem formCut1 (w : World) (A : Obj) (cs : Array Value) (ok : Bool) : FormCut w A cs ok (.pointer (some ⟨w.heap.size + 1 + 1, 0, none⟩)) (.bool ok) (((w.alloc A).alloc kindMap).alloc (.cells cs 65)).drew :=
  ⟨_, rfl, rfl, heap_alloc3_new _ _ _ _, heap_alloc3_old _ _ _ _, ((((Below.refl _ _).alloc (Nat.le_refl _) _).alloc (by simp) _).alloc (by simp; omega) _).drew⟩
theorem formCut2 (w : World) (A : Obj) (cs : Array Value) (ok : Bool) : FormCut w A cs ok (.pointer (some ⟨w.heap.size + 1, 0, none⟩)) (.bool ok) (((w.alloc A).alloc (.cells cs 65)).alloc kindMap).drew :=
  ⟨_, rfl, rfl, heap_alloc3_mid _ _ _ _, heap_alloc3_old _ _ _ _, ((((Below.refl _ _).alloc (Nat.le_refl _) _).alloc (by simp) _).alloc (by simp; omega) _).drew⟩


set_option maxRecDepth 100000 in
set_option maxHeartbeats 1000000 in
theorem formed_1 (q n f u : Int) (w : World) : Calls Tryd.prog 30 #[spV ⟨1, q, n, f, u⟩] w fun e w' => e = .returned (.bool (momB f && momB u && decide (f ≤ u) && val1 q n)) ∧ Below w.heap.size w w' := by
  unfold spV
  obtain ⟨l1, l2, l3⟩ := kind_looks w (.cells #[.int .i64 1, .int .i64 q, .int .i64 n, .int .i64 f, .int .i64 u] 32) 1 kind1 true (fun W b hb => kind_look W b hb 1 0 kind1 rfl)
  simp only [kind1, kindV] at l1 l2 l3
  go_enter Tryd.func30, Tryd.ntmps30
  go_upto_region 1 with fail
  go_cut [3, 4] (fun s3 s4 wx => FormCut w (.cells #[.int .i64 1, .int .i64 q, .int .i64 n, .int .i64 f, .int .i64 u] 32) #[.string ⟨#[99, 108, 111, 117, 100]⟩, .func (.func 45) #[] #[], .func (.func 46) #[] #[]] true s3 s4 wx)
  case first =>
    go_region_with (go_at_call 29; refine (kinds_any _).mono ?_; rintro e w' ⟨rfl, rfl⟩)
    all_goals (go_wp2_with fail; go_meet; first | exact formCut1 _ _ _ _ | exact formCut2 _ _ _ _)
  case rest =>
    clear l1 l2 l3
    obtain ⟨g, rfl, rfl, hg, hA, hB⟩ := hcut
    have HB := Lib.hid hB; clear hB
    have b0 := cell_of_row _ _ 0 _ _ _ hA
    have b1 := cell_of_row _ _ 1 _ _ _ hA
    have b2 := cell_of_row _ _ 2 _ _ _ hA
    have b3 := cell_of_row _ _ 3 _ _ _ hA
    have b4 := cell_of_row _ _ 4 _ _ _ hA
    have g2 := cell_of_row _ _ 2 _ _ _ hg
    have HG := Lib.hid hg; have HA := Lib.hid hA; clear hg hA
    go_wp2_with fail
    refine (moment_any f wc).mono ?_
    rintro e w' ⟨rfl, hw⟩
    rw [hw]; clear hw
    cases hmf : momB f
    · have HF := Lib.hid hmf; clear hmf
      go_wp2_with fail
      go_ret
      exact ⟨ret_bool (by rw [HF.out]; rfl), HB.out⟩
    · have HF := Lib.hid hmf; clear hmf
      go_wp2_with fail
      refine (moment_any u wc).mono ?_
      rintro e w' ⟨rfl, hw⟩
      rw [hw]; clear hw
      cases hmu : momB u
      · have HU := Lib.hid hmu; clear hmu
        go_wp2_with fail
        go_ret
        exact ⟨ret_bool (by rw [HF.out, HU.out]; rfl), HB.out⟩
      · have HU := Lib.hid hmu; clear hmu
        by_cases hfu : f ≤ u
        · have HFU := Lib.hid (decide_eq_true hfu)
          go_wp2_with fail
          refine (k2_any ⟨1, q, n, f, u⟩ wc).mono ?_
          rintro e w2 ⟨rfl, hB2⟩
          have HB2 := Lib.hid hB2; clear hB2
          go_wp2_with fail
          go_ret
          exact ⟨ret_bool (by rw [HF.out, HU.out, HFU.out]; rfl), HB.out.trans (HB2.out.mono HB.out.size)⟩
        · have HFU := Lib.hid (decide_eq_false hfu)
          go_wp2_with fail
          go_ret
          exact ⟨ret_bool (by rw [HF.out, HU.out, HFU.out]; rfl), HB.out⟩

set_option maxRecDepth 100000 in
set_option maxHeartbeats 1000000 in
theorem formed_2 (q n f u : Int) (w : World) : Calls Tryd.prog 30 #[spV ⟨2, q, n, f, u⟩] w fun e w' => e = .returned (.bool (momB f && momB u && decide (f ≤ u) && val2 q n)) ∧ Below w.heap.size w w' := by
  unfold spV
  obtain ⟨l1, l2, l3⟩ := kind_looks w (.cells #[.int .i64 2, .int .i64 q, .int .i64 n, .int .i64 f, .int .i64 u] 32) 2 kind2 true (fun W b hb => kind_look W b hb 2 1 kind2 rfl)
  simp only [kind2, kindV] at l1 l2 l3
  go_enter Tryd.func30, Tryd.ntmps30
  go_upto_region 1 with fail
  go_cut [3, 4] (fun s3 s4 wx => FormCut w (.cells #[.int .i64 2, .int .i64 q, .int .i64 n, .int .i64 f, .int .i64 u] 32) #[.string ⟨#[115, 101, 101, 105, 110, 103]⟩, .func (.func 47) #[] #[], .func (.func 48) #[] #[]] true s3 s4 wx)
  case first =>
    go_region_with (go_at_call 29; refine (kinds_any _).mono ?_; rintro e w' ⟨rfl, rfl⟩)
    all_goals (go_wp2_with fail; go_meet; first | exact formCut1 _ _ _ _ | exact formCut2 _ _ _ _)
  case rest =>
    clear l1 l2 l3
    obtain ⟨g, rfl, rfl, hg, hA, hB⟩ := hcut
    have HB := Lib.hid hB; clear hB
    have b0 := cell_of_row _ _ 0 _ _ _ hA
    have b1 := cell_of_row _ _ 1 _ _ _ hA
    have b2 := cell_of_row _ _ 2 _ _ _ hA
    have b3 := cell_of_row _ _ 3 _ _ _ hA
    have b4 := cell_of_row _ _ 4 _ _ _ hA
    have g2 := cell_of_row _ _ 2 _ _ _ hg
    have HG := Lib.hid hg; have HA := Lib.hid hA; clear hg hA
    go_wp2_with fail
    refine (moment_any f wc).mono ?_
    rintro e w' ⟨rfl, hw⟩
    rw [hw]; clear hw
    cases hmf : momB f
    · have HF := Lib.hid hmf; clear hmf
      go_wp2_with fail
      go_ret
      exact ⟨ret_bool (by rw [HF.out]; rfl), HB.out⟩
    · have HF := Lib.hid hmf; clear hmf
      go_wp2_with fail
      refine (moment_any u wc).mono ?_
      rintro e w' ⟨rfl, hw⟩
      rw [hw]; clear hw
      cases hmu : momB u
      · have HU := Lib.hid hmu; clear hmu
        go_wp2_with fail
        go_ret
        exact ⟨ret_bool (by rw [HF.out, HU.out]; rfl), HB.out⟩
      · have HU := Lib.hid hmu; clear hmu
        by_cases hfu : f ≤ u
        · have HFU := Lib.hid (decide_eq_true hfu)
          go_wp2_with fail
          refine (k4_any ⟨2, q, n, f, u⟩ wc).mono ?_
          rintro e w2 ⟨rfl, hB2⟩
          have HB2 := Lib.hid hB2; clear hB2
          go_wp2_with fail
          go_ret
          exact ⟨ret_bool (by rw [HF.out, HU.out, HFU.out]; rfl), HB.out.trans (HB2.out.mono HB.out.size)⟩
        · have HFU := Lib.hid (decide_eq_false hfu)
          go_wp2_with fail
          go_ret
          exact ⟨ret_bool (by rw [HF.out, HU.out, HFU.out]; rfl), HB.out⟩

set_option maxRecDepth 100000 in
set_option maxHeartbeats 1000000 in
theorem formed_3 (q n f u : Int) (w : World) : Calls Tryd.prog 30 #[spV ⟨3, q, n, f, u⟩] w fun e w' => e = .returned (.bool (momB f && momB u && decide (f ≤ u) && val3 q n)) ∧ Below w.heap.size w w' := by
  unfold spV
  obtain ⟨l1, l2, l3⟩ := kind_looks w (.cells #[.int .i64 3, .int .i64 q, .int .i64 n, .int .i64 f, .int .i64 u] 32) 3 kind3 true (fun W b hb => kind_look W b hb 3 2 kind3 rfl)
  simp only [kind3, kindV] at l1 l2 l3
  go_enter Tryd.func30, Tryd.ntmps30
  go_upto_region 1 with fail
  go_cut [3, 4] (fun s3 s4 wx => FormCut w (.cells #[.int .i64 3, .int .i64 q, .int .i64 n, .int .i64 f, .int .i64 u] 32) #[.string ⟨#[99, 108, 111, 115, 101, 100]⟩, .func (.func 49) #[] #[], .func (.func 50) #[] #[]] true s3 s4 wx)
  case first =>
    go_region_with (go_at_call 29; refine (kinds_any _).mono ?_; rintro e w' ⟨rfl, rfl⟩)
    all_goals (go_wp2_with fail; go_meet; first | exact formCut1 _ _ _ _ | exact formCut2 _ _ _ _)
  case rest =>
    clear l1 l2 l3
    obtain ⟨g, rfl, rfl, hg, hA, hB⟩ := hcut
    have HB := Lib.hid hB; clear hB
    have b0 := cell_of_row _ _ 0 _ _ _ hA
    have b1 := cell_of_row _ _ 1 _ _ _ hA
    have b2 := cell_of_row _ _ 2 _ _ _ hA
    have b3 := cell_of_row _ _ 3 _ _ _ hA
    have b4 := cell_of_row _ _ 4 _ _ _ hA
    have g2 := cell_of_row _ _ 2 _ _ _ hg
    have HG := Lib.hid hg; have HA := Lib.hid hA; clear hg hA
    go_wp2_with fail
    refine (moment_any f wc).mono ?_
    rintro e w' ⟨rfl, hw⟩
    rw [hw]; clear hw
    cases hmf : momB f
    · have HF := Lib.hid hmf; clear hmf
      go_wp2_with fail
      go_ret
      exact ⟨ret_bool (by rw [HF.out]; rfl), HB.out⟩
    · have HF := Lib.hid hmf; clear hmf
      go_wp2_with fail
      refine (moment_any u wc).mono ?_
      rintro e w' ⟨rfl, hw⟩
      rw [hw]; clear hw
      cases hmu : momB u
      · have HU := Lib.hid hmu; clear hmu
        go_wp2_with fail
        go_ret
        exact ⟨ret_bool (by rw [HF.out, HU.out]; rfl), HB.out⟩
      · have HU := Lib.hid hmu; clear hmu
        by_cases hfu : f ≤ u
        · have HFU := Lib.hid (decide_eq_true hfu)
          go_wp2_with fail
          refine (k6_any ⟨3, q, n, f, u⟩ wc).mono ?_
          rintro e w2 ⟨rfl, hB2⟩
          have HB2 := Lib.hid hB2; clear hB2
          go_wp2_with fail
          go_ret
          exact ⟨ret_bool (by rw [HF.out, HU.out, HFU.out]; rfl), HB.out.trans (HB2.out.mono HB.out.size)⟩
        · have HFU := Lib.hid (decide_eq_false hfu)
          go_wp2_with fail
          go_ret
          exact ⟨ret_bool (by rw [HF.out, HU.out, HFU.out]; rfl), HB.out⟩

set_option maxRecDepth 100000 in
set_option maxHeartbeats 1000000 in
theorem formed_no (k q n f u : Int) (h1 : k ≠ 1) (h2 : k ≠ 2) (h3 : k ≠ 3) (w : World) : Calls Tryd.prog 30 #[spV ⟨k, q, n, f, u⟩] w fun e w' => e = .returned (.bool false) ∧ Below w.heap.size w w' := by
  unfold spV
  obtain ⟨l1, l2, l3⟩ := kind_looks w (.cells #[.int .i64 k, .int .i64 q, .int .i64 n, .int .i64 f, .int .i64 u] 32) k kindZ false (fun W b hb => kind_none W b hb k h1 h2 h3)
  simp only [kindZ] at l1 l2 l3
  clear h1 h2 h3
  go_enter Tryd.func30, Tryd.ntmps30
  go_upto_region 1 with fail
  go_cut [3, 4] (fun s3 s4 wx => FormCut w (.cells #[.int .i64 k, .int .i64 q, .int .i64 n, .int .i64 f, .int .i64 u] 32) #[.string ⟨#[]⟩, .nilFunc, .nilFunc] false s3 s4 wx)
  case first =>
    go_region_with (go_at_call 29; refine (kinds_any _).mono ?_; rintro e w' ⟨rfl, rfl⟩)
    all_goals (go_wp2_with fail; go_meet; first | exact formCut1 _ _ _ _ | exact formCut2 _ _ _ _)
  case rest =>
    clear l1 l2 l3
    obtain ⟨g, rfl, rfl, hg, hA, hB⟩ := hcut
    have HB := Lib.hid hB; clear hB hg hA
    go_wp2_with fail
    go_ret
    exact ⟨rfl, HB.out⟩

theorem formed_any (s : Sp) (w : World) : Calls Tryd.prog 30 #[spV s] w fun e w' => e = .returned (.bool (formedB s)) ∧ Below w.heap.size w w' := by
  obtain ⟨k, q, n, f, u⟩ := s
  by_cases h1 : k = 1
  · subst h1
    refine (formed_1 q n f u w).mono fun e w' h => ⟨h.1.trans ?_, h.2⟩
    rw [show formedB ⟨1, q, n, f, u⟩ = (kindOk 1 q n && momB f && momB u && decide (f ≤ u)) from rfl, show kindOk 1 q n = val1 q n from rfl]; cases val1 q n <;> simp
  · by_cases h2 : k = 2
    · subst h2
      refine (formed_2 q n f u w).mono fun e w' h => ⟨h.1.trans ?_, h.2⟩
      rw [show formedB ⟨2, q, n, f, u⟩ = (kindOk 2 q n && momB f && momB u && decide (f ≤ u)) from rfl, show kindOk 2 q n = val2 q n from rfl]; cases val2 q n <;> simp
    · by_cases h3 : k = 3
      · subst h3
        refine (formed_3 q n f u w).mono fun e w' h => ⟨h.1.trans ?_, h.2⟩
        rw [show formedB ⟨3, q, n, f, u⟩ = (kindOk 3 q n && momB f && momB u && decide (f ≤ u)) from rfl, show kindOk 3 q n = val3 q n from rfl]; cases val3 q n <;> simp
      · refine (formed_no k q n f u h1 h2 h3 w).mono fun e w' h => ⟨h.1.trans ?_, h.2⟩
        congr 2; unfold formedB kindOk; simp [h1, h2, h3]
end Go.Proofs.YtedddaojcknemaaDoor
