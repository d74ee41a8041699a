/- WeatherOrder: the law walked. -/
import Derived.Test.YtedddaojcknemaaDoorOrdP
import Derived.Test.YtedddaojcknemaaDoorOrdB
import Derived.Test.YtedddaojcknemaaDoorHead
namespace Go.Proofs.YtedddaojcknemaaDoor
open Go.RowKit Go.Sort

def atErr (l : List Sp) (m : Int) : Int := if allB l && momB m then 0 else 1
def atCd (l : List Sp) (m : Int) : Cd := if allB l && momB m then atL l m else cdZ
theorem at2_any (l : List Sp) (m : Int) (v : Value) (w : World) (hR : ReadRow w 5 v l.length (spFlat l)) :
    Calls Tryd.prog 9 #[v, .int .i64 m] w fun e w' => e = .returned (.tuple #[cdV (atCd l m), .int .i64 (atErr l m)]) ∧ Below w.heap.size w w' := by
  refine (atW_any l m v w hR).mono ?_
  rintro e w' ⟨rfl, hb⟩
  refine ⟨?_, hb⟩
  unfold atCd atErr
  cases (allB l && momB m) <;> rfl

def OrdRel (l : List Sp) (m n : Int) (w : World) (s14 x : Value) (wr : World) : Prop :=
  ∃ i : Nat, x = .int .i64 i ∧ i ≤ l.length ∧ s14 = .bool (eqB l m n i) ∧ Below w.heap.size w wr

set_option maxRecDepth 100000 in
set_option maxHeartbeats 4000000 in
theorem order_big (l : List Sp) (m n r : Int) (v : Value) (w : World) (hR : ReadRow w 5 v l.length (spFlat l)) (hb : 20 < l.length) :
    Calls Tryd.prog 3 #[v, .int .i64 m, .int .i64 n, .int .u8 r] w fun e w' => e = .returned (.bool true) ∧ Below w.heap.size w w' := by
  obtain ⟨a, c, rfl, hc1, hc2, _⟩ := hR.slice
  have hgt : (20 : Int) < (l.length : Int) := by omega
  clear hR hc1 hc2
  go_enter Tryd.func3, Tryd.ntmps3
  go_wp2_with fail
  refine (head_any w).mono ?_
  rintro e w1 ⟨rfl, hB⟩
  have HB := Lib.hid hB; clear hB
  go_wp2_with fail
  go_ret
  exact ⟨rfl, HB.out⟩

/-- An error at one of the two moments. -/
def OrdPost (w : World) (e : Ending) (w' : World) : Prop := e = .returned (.bool true) ∧ Below w.heap.size w w'

set_option maxRecDepth 100000 in
set_option maxHeartbeats 4000000 in
theorem order_err1 (l : List Sp) (m n r : Int) (v : Value) (w : World) (hR : ReadRow w 5 v l.length (spFlat l)) (hb : ¬ 20 < l.length) (he : atErr l m = 1) :
    Calls Tryd.prog 3 #[v, .int .i64 m, .int .i64 n, .int .u8 r] w (OrdPost w) := by
  unfold OrdPost
  have HR := Lib.hid hR
  obtain ⟨a, c, rfl, hc1, hc2, _⟩ := hR.slice
  have hgt : ¬ (20 : Int) < (l.length : Int) := by omega
  have HE := Lib.hid he
  clear hR hc1 hc2 he
  go_enter Tryd.func3, Tryd.ntmps3
  go_wp2_with fail
  refine (head_any w).mono ?_
  rintro e w1 ⟨rfl, hB⟩
  have HB := Lib.hid hB; clear hB
  go_wp2_with fail
  refine (at2_any l m _ w1 (HR.out.below HB.out)).mono ?_
  rintro e w2 ⟨rfl, hB2⟩
  rw [HE.out]
  have HB2 := Lib.hid (HB.out.trans (hB2.mono HB.out.size)); clear hB2
  generalize atCd l m = C
  unfold cdV cdCells
  go_wp2_with fail
  refine (at2_any l n _ _ (HR.out.below (HB2.out.alloc HB2.out.size _))).mono ?_
  rintro e w3 ⟨rfl, hB3⟩
  have HB3 := Lib.hid ((HB2.out.alloc HB2.out.size _).trans (hB3.mono (HB2.out.alloc HB2.out.size _).size)); clear hB3
  generalize atCd l n = D
  generalize atErr l n = e2
  unfold cdV cdCells
  go_wp2_with fail
  go_ret
  exact ⟨rfl, HB3.out.alloc HB3.out.size _⟩

set_option maxRecDepth 100000 in
set_option maxHeartbeats 4000000 in
theorem order_err2 (l : List Sp) (m n r : Int) (v : Value) (w : World) (hR : ReadRow w 5 v l.length (spFlat l)) (hb : ¬ 20 < l.length) (he : atErr l m = 0) (he2 : atErr l n = 1) :
    Calls Tryd.prog 3 #[v, .int .i64 m, .int .i64 n, .int .u8 r] w (OrdPost w) := by
  unfold OrdPost
  have HR := Lib.hid hR
  obtain ⟨a, c, rfl, hc1, hc2, _⟩ := hR.slice
  have hgt : ¬ (20 : Int) < (l.length : Int) := by omega
  have HE := Lib.hid (And.intro he he2)
  clear hR hc1 hc2 he he2
  go_enter Tryd.func3, Tryd.ntmps3
  go_wp2_with fail
  refine (head_any w).mono ?_
  rintro e w1 ⟨rfl, hB⟩
  have HB := Lib.hid hB; clear hB
  go_wp2_with fail
  refine (at2_any l m _ w1 (HR.out.below HB.out)).mono ?_
  rintro e w2 ⟨rfl, hB2⟩
  rw [HE.out.1]
  have HB2 := Lib.hid (HB.out.trans (hB2.mono HB.out.size)); clear hB2
  generalize atCd l m = C
  unfold cdV cdCells
  go_wp2_with fail
  refine (at2_any l n _ _ (HR.out.below (HB2.out.alloc HB2.out.size _))).mono ?_
  rintro e w3 ⟨rfl, hB3⟩
  rw [HE.out.2]
  have HB3 := Lib.hid ((HB2.out.alloc HB2.out.size _).trans (hB3.mono (HB2.out.alloc HB2.out.size _).size)); clear hB3
  generalize atCd l n = D
  unfold cdV cdCells
  go_wp2_with fail
  go_ret
  exact ⟨rfl, HB3.out.alloc HB3.out.size _⟩

theorem atErr_zero {l : List Sp} {m : Int} (h : atErr l m = 0) : (allB l && momB m) = true ∧ atCd l m = atL l m := by
  unfold atErr at h
  unfold atCd
  cases hh : (allB l && momB m)
  · rw [hh] at h; simp at h
  · exact ⟨rfl, rfl⟩

/-- What stands behind the two calls of At. -/
structure OW (C D : Cd) (b1 b2 : Nat) (w W : World) : Prop where
  bel : Below w.heap.size w W
  h1 : W.heap[b1]? = some (.cells (cdCells C).toArray 26 (0, 0))
  h2 : W.heap[b2]? = some (.cells (cdCells D).toArray 26 (0, 0))
theorem OW.below {C D : Cd} {b1 b2 : Nat} {w W W' : World} (h : OW C D b1 b2 w W) (hb : Below W.heap.size W W') : OW C D b1 b2 w W' :=
  ⟨h.bel.trans (hb.mono h.bel.size), (hb.block b1 (Array.getElem?_eq_some_iff.1 h.h1).1).trans h.h1, (hb.block b2 (Array.getElem?_eq_some_iff.1 h.h2).1).trans h.h2⟩
theorem OW.cells {C D : Cd} {b1 b2 : Nat} {w W : World} (h : OW C D b1 b2 w W) :
    (W.cell? ⟨b1, 0, none⟩ = some (.int .i64 C.c0) ∧ W.cell? ⟨b1, 1, none⟩ = some (.int .i64 C.c1) ∧ W.cell? ⟨b1, 2, none⟩ = some (.int .i64 C.c2) ∧ W.cell? ⟨b1, 3, none⟩ = some (.int .i64 C.c3) ∧ W.cell? ⟨b1, 4, none⟩ = some (.int .i64 C.se) ∧ W.cell? ⟨b1, 5, none⟩ = some (.bool C.op)) ∧
    W.cell? ⟨b2, 0, none⟩ = some (.int .i64 D.c0) ∧ W.cell? ⟨b2, 1, none⟩ = some (.int .i64 D.c1) ∧ W.cell? ⟨b2, 2, none⟩ = some (.int .i64 D.c2) ∧ W.cell? ⟨b2, 3, none⟩ = some (.int .i64 D.c3) ∧ W.cell? ⟨b2, 4, none⟩ = some (.int .i64 D.se) ∧ W.cell? ⟨b2, 5, none⟩ = some (.bool D.op) :=
  ⟨⟨cell_of_row _ _ 0 _ _ _ h.h1, cell_of_row _ _ 1 _ _ _ h.h1, cell_of_row _ _ 2 _ _ _ h.h1, cell_of_row _ _ 3 _ _ _ h.h1, cell_of_row _ _ 4 _ _ _ h.h1, cell_of_row _ _ 5 _ _ _ h.h1⟩,
    cell_of_row _ _ 0 _ _ _ h.h2, cell_of_row _ _ 1 _ _ _ h.h2, cell_of_row _ _ 2 _ _ _ h.h2, cell_of_row _ _ 3 _ _ _ h.h2, cell_of_row _ _ 4 _ _ _ h.h2, cell_of_row _ _ 5 _ _ _ h.h2⟩

theorem OW.set {C D : Cd} {b1 b2 g : Nat} {w W : World} (h : OW C D b1 b2 w W) (hg : w.heap.size ≤ g) (n1 : b1 ≠ g) (n2 : b2 ≠ g) (o : Nat) (v : Value) : OW C D b1 b2 w (W.setCell ⟨g, o, none⟩ v) :=
  ⟨h.bel.setCell (p := ⟨g, o, none⟩) hg v, set_keep h.h1 n1 v, set_keep h.h2 n2 v⟩
theorem blk_ne2 {W : World} {b g : Nat} {c1 c2 : Array Value} {t1 t2 : TypeId} (h1 : W.heap[b]? = some (.cells c1 t1 (0, 0))) (h2 : W.heap[g]? = some (.cells c2 t2 (0, 0))) (ht : t1 ≠ t2) : b ≠ g := by
  rintro rfl
  rw [h1] at h2
  injection h2 with h2
  injection h2 with _ h2 _
  exact ht h2
theorem swap_ok {l : List Sp} {m : Int} {k : Nat} {x y : Sp} (h1 : l[k]? = some x) (h2 : l[k + 1]? = some y) (hn : ¬ (x.f ≤ y.u ∧ y.f ≤ x.u)) (he : atErr l m = 0) : atErr (swapL l k x y) m = 0 ∧ atCd (swapL l k x y) m = atL l m := by
  have := atErr_zero he
  unfold atErr atCd
  rw [allB_swap h1 h2, this.1, atL_swap h1 h2 hn]
  exact ⟨rfl, rfl⟩

set_option maxRecDepth 100000 in
set_option maxHeartbeats 4000000 in
theorem order_ok (l : List Sp) (m n r : Int) (hr0 : 0 ≤ r) (hr1 : r ≤ 255) (v : Value) (w : World) (hR : ReadRow w 5 v l.length (spFlat l)) (hb : ¬ 20 < l.length) (he : atErr l m = 0) (he2 : atErr l n = 0) :
    Calls Tryd.prog 3 #[v, .int .i64 m, .int .i64 n, .int .u8 r] w (OrdPost w) := by
  unfold OrdPost
  have HR := Lib.hid hR
  obtain ⟨a, c, rfl, hc1, hc2, _⟩ := hR.slice
  have hgt : ¬ (20 : Int) < (l.length : Int) := by omega
  have HE := Lib.hid (And.intro he he2)
  have HE1 := Lib.hid (atErr_zero he)
  have HE2 := Lib.hid (atErr_zero he2)
  have hll : l.length ≤ 20 := by omega
  clear hR hc1 hc2 he he2 hb
  go_enter Tryd.func3, Tryd.ntmps3
  go_wp2_with fail
  refine (head_any w).mono ?_
  rintro e w1 ⟨rfl, hB⟩
  have HB := Lib.hid hB; clear hB
  go_wp2_with fail
  refine (at2_any l m _ w1 (HR.out.below HB.out)).mono ?_
  rintro e w2 ⟨rfl, hB2⟩
  rw [HE.out.1, HE1.out.2]
  have HB2 := Lib.hid (HB.out.trans (hB2.mono HB.out.size)); clear hB2
  generalize hC : atL l m = C
  unfold cdV cdCells
  have HC := Lib.hid hC; clear hC
  go_wp2_with fail
  refine (at2_any l n _ _ (HR.out.below (HB2.out.alloc HB2.out.size _))).mono ?_
  rintro e w3 ⟨rfl, hB3⟩
  rw [HE.out.2, HE2.out.2]
  generalize hD : atL l n = D
  have HD := Lib.hid hD; clear hD
  have HO : Hid (OW C D w2.heap.size w3.heap.size w (w3.alloc (.cells (cdCells D).toArray 26))) := Lib.hid
    ⟨((HB2.out.alloc HB2.out.size _).trans (hB3.mono (HB2.out.alloc HB2.out.size _).size)).alloc (Nat.le_trans (HB2.out.alloc HB2.out.size (.cells (cdCells C).toArray 26)).size hB3.size) _,
      mustKeep ((hB3.block w2.heap.size (by simp)).trans (heap_alloc_new w2 _)) _, heap_alloc_new w3 _⟩
  clear hB3
  unfold cdCells at HO
  unfold cdV cdCells
  go_wp2_with fail
  obtain ⟨b1, hb1⟩ : ∃ b, b = w2.heap.size := ⟨_, rfl⟩
  obtain ⟨b2, hb2⟩ : ∃ b, b = w3.heap.size := ⟨_, rfl⟩
  rw [← hb1, ← hb2] at HO ⊢
  obtain ⟨W0, hW0⟩ : ∃ W, W = w3.alloc (.cells #[.int .i64 D.c0, .int .i64 D.c1, .int .i64 D.c2, .int .i64 D.c3, .int .i64 D.se, .bool D.op] 26) := ⟨_, rfl⟩
  rw [← hW0] at HO
  rw [← hW0]
  clear hW0 hb1 hb2 HB HB2
  go_loopw [14, 15] (fun s14 x wr => Hid (OrdRel l m n W0 s14 x wr)) (fun _ x _ => l.length - (intOf x).toNat)
  case atStart => exact Lib.hid ⟨0, rfl, Nat.zero_le _, rfl, Below.refl _ _⟩
  case round =>
    obtain ⟨i, rfl, hi, rfl, hbel⟩ := hrel.out
    have HOW := Lib.hid (HO.out.below hbel)
    have HBW := Lib.hid hbel
    clear hbel hrel
    by_cases hlt : i < l.length
    · obtain ⟨sp, hsp⟩ : ∃ sp, l[i]? = some sp := ⟨_, List.getElem?_eq_getElem hlt⟩
      obtain ⟨g, off, c', hv, _, _, hg, c0, c1, c2, c3, c4⟩ := readSp5 (HR.out.below HOW.out.bel) i sp hsp
      cases hv
      have HS := Lib.hid (eqB_succ (m := m) (n := n) hsp); clear hsp
      generalize eqB l m n i = B at HS ⊢
      cases B
      · go_upto_region 12 with fail
        go_quiet (fail)
        go_wp2_with fail
        go_roundw
        case rel => exact Lib.hid ⟨i + 1, by simp, by omega, by rw [HS.out]; rfl, below_drewN HBW.out nq⟩
        case measure => simp [intOf]; omega
      · have cM := quietB (fun W _ => inForce_any sp m W) (w := wr)
        have cN := quietB (fun W _ => inForce_any sp n W) (w := wr)
        have k0 := cell_regrown c0
        have k1 := cell_regrown c1
        have k2 := cell_regrown c2
        have k3 := cell_regrown c3
        have k4 := cell_regrown c4
        unfold spV at cM cN
        generalize inF sp m = p at cM HS
        generalize inF sp n = q at cN HS
        go_upto_region 12 with fail
        refine wp_region_quiet_below (by kernel_rfl) (by kernel_rfl) ?_
        repeat (go_big_quiet_step (first | (with_reducible exact cM _ _) | (with_reducible exact cN _ _)))
        refine wpQuiet_nil ?_
        intro _ hw'
        obtain ⟨⟨dq, osq⟩, hw''⟩ := hw'
        subst hw''
        clear cM cN k0 k1 k2 k3 k4 c0 c1 c2 c3 c4
        have HB2 := Lib.hid (HBW.out.trans ((below_regrown wr dq osq).mono HBW.out.size))
        go_wp2_with fail
        go_roundw
        case rel => exact Lib.hid ⟨i + 1, by simp, by omega, by rw [HS.out]; simp, HB2.out⟩
        case measure => simp [intOf]; omega
    · have hil : i = l.length := by omega
      subst hil
      have HEQ := Lib.hid (@eqB_all l m n)
      generalize eqB l m n l.length = B at HEQ ⊢
      have HCE : Hid (B = false ∨ B = true ∧ decide (C = D) = true) := Lib.hid (by
        cases B
        · exact .inl rfl
        · exact .inr ⟨rfl, by rw [decide_eq_true_iff, ← HC.out, ← HD.out]; exact HEQ.out rfl⟩)
      clear HEQ
      go_upto_region 13 with fail
      go_cut [71] from 66 to 71 (fun s71 wx => Hid (s71 = .bool false ∧ wx = wr))
      case first =>
        obtain ⟨⟨c0, c1, c2, c3, c4, c5⟩, d0, d1, d2, d3, d4, d5⟩ := HOW.out.cells
        have hq := neq_cd C D
        have hcase := HCE.out
        unfold cdV cdCells at hq
        generalize decide (C = D) = E at hq hcase
        rcases hcase with rfl | ⟨rfl, rfl⟩
        all_goals
          go_wp2_with fail
          go_meet
          exact Lib.hid ⟨rfl, rfl⟩
      case rest =>
        obtain ⟨rfl, rfl⟩ := hcut.out
        clear hcut HCE
        by_cases h2 : l.length < 2
        · have hlt2 : (l.length : Int) < 2 := by omega
          go_wp2_with fail
          go_ret
          exact ⟨rfl, HOW.out.bel⟩
        · have hlt2 : ¬ (l.length : Int) < 2 := by omega
          obtain ⟨K, hK⟩ : ∃ K : Nat, r % ((l.length : Int) - 1) = (K : Int) := ⟨(r % ((l.length : Int) - 1)).toNat, by have := Int.emod_nonneg r (show (l.length : Int) - 1 ≠ 0 by omega); omega⟩
          have hK1 : K + 1 < l.length := by have := Int.emod_lt_of_pos r (show (0 : Int) < (l.length : Int) - 1 by omega); omega
          have HKE := Lib.hid hK; clear hK
          obtain ⟨x, hx⟩ : ∃ x, l[K]? = some x := ⟨_, List.getElem?_eq_getElem (by omega)⟩
          obtain ⟨y, hy⟩ : ∃ y, l[K + 1]? = some y := ⟨_, List.getElem?_eq_getElem hK1⟩
          obtain ⟨g, off, c', hv, _, _, hg, x0, x1, x2, x3, x4⟩ := readSp5 (HR.out.below HOW.out.bel) K x hx
          obtain ⟨g', off', c'', hv', _, _, hg', y0, y1, y2, y3, y4⟩ := readSp5 (HR.out.below HOW.out.bel) (K + 1) y hy
          cases hv; cases hv'
          have HXY := Lib.hid (And.intro hx hy); clear hx hy
          go_upto_region 18 with fail
          rw [HKE.out]
          go_cut [107] from 82 to 107 (fun s107 wx => Hid (s107 = .bool (decide (x.f ≤ y.u ∧ y.f ≤ x.u)) ∧ ∃ n, wx = wc.drewN n))
          case first =>
            by_cases h1 : x.f ≤ y.u
            · by_cases h3 : y.f ≤ x.u
              · have HH : Hid (decide (x.f ≤ y.u ∧ y.f ≤ x.u) = true) := Lib.hid (decide_eq_true (And.intro h1 h3))
                go_quiet (fail)
                go_wp2_with fail
                go_meet
                exact Lib.hid ⟨by rw [HH.out], nq, rfl⟩
              · have hd : decide (y.f ≤ x.u) = false := by simpa using h3
                have HH : Hid (decide (x.f ≤ y.u ∧ y.f ≤ x.u) = false) := Lib.hid (decide_eq_false (fun h => h3 h.2))
                go_quiet (fail)
                go_wp2_with fail
                go_meet
                exact Lib.hid ⟨by rw [HH.out], nq, rfl⟩
            · have hd : decide (x.f ≤ y.u) = false := by simpa using h1
              have HH : Hid (decide (x.f ≤ y.u ∧ y.f ≤ x.u) = false) := Lib.hid (decide_eq_false (fun h => h1 h.1))
              go_quiet (fail)
              go_wp2_with fail
              go_meet
              exact Lib.hid ⟨by rw [HH.out], nq, rfl⟩
          case rest =>
            obtain ⟨rfl, nn, rfl⟩ := hcut.out
            clear hcut
            by_cases hov : x.f ≤ y.u ∧ y.f ≤ x.u
            · rw [decide_eq_true hov]
              clear hov
              go_wp2_with fail
              go_ret
              exact ⟨rfl, below_drewN HOW.out.bel nn⟩
            · rw [decide_eq_false hov]
              have HOV := Lib.hid hov; clear hov
              go_upto_region 20 with fail
              obtain ⟨i0, hi, hz0, hz1, hz2⟩ := info_parts info_sp
              have HZ := Lib.hid (And.intro hi (And.intro hz0 (And.intro hz1 hz2)))
              clear hi hz0 hz1 hz2
              have HRW : Hid (ReadRow ((wc.drewN nn).alloc (.cells #[] 32)) 5 (.slice (some ⟨g, off, none⟩) l.length c) l.length (spFlat l)) := Lib.hid (HR.out.below ((below_drewN HOW.out.bel nn).alloc HOW.out.bel.size _))
              have hlx : l.length ≠ 0 := by omega
              have hcx := HRW.out.slice
              go_wp2_with (at_builtin; refine wpList_append_own _ rfl (.tmp 109) (.tmp 110) 22 rfl w.heap.size 32 i0 (spV ⟨0, 0, 0, 0, 0⟩) 5 40 Tryd.underlying22 HZ.out.1 HZ.out.2.1 HZ.out.2.2.1 HZ.out.2.2.2 rfl (by decide) _ _ _ rfl (own_empty (w := wc.drewN nn) HOW.out.bel.size) ⟨g, off, none⟩ l.length c (spFlat l) rfl (spFlat_len l) (read_news HRW.out hlx) (spFlat_one l) (by unfold maxLen; omega) (by omega) (by have := HOW.out.bel.size; simp; omega) ?_)
              intro v' w4 hown' hg' _
              have hsz4 := hg'.size
              have hB3 : Below wc.heap.size wc ((wc.drewN nn).alloc (.cells #[] 32)) := (below_drewN (Below.refl wc.heap.size wc) nn).alloc (Nat.le_refl _) _
              have HB4 : Hid (Below wc.heap.size wc w4) := Lib.hid (hB3.grown hg' hB3.size (fun k hk => by cases hk; exact Nat.le_refl _))
              clear hB3
              clear hg'
              obtain ⟨g2, cap, cur, hv', hgb, hg2, hnc, hcm, hcs, htk⟩ : ∃ g cap cur, v' = .slice (some ⟨g, 0, none⟩) l.length cap ∧ w.heap.size ≤ g ∧ w4.heap[g]? = some (.cells cur 32 (0, 0)) ∧ l.length ≤ cap ∧ cap ≤ maxLen ∧ cur.size = cap * 5 ∧ cur.toList.take (l.length * 5) = spFlat l := by
                rcases hown'.2 with ⟨_, h0⟩ | ⟨g, cap, cur, hv, r1, r2, r3, r4, r5, r6⟩
                · omega
                · exact ⟨g, cap, cur, hv, r1, r2, r3, r4, r5, r6⟩
              subst hv'
              have HR4 := Lib.hid (ReadRow.of_owns hown')
              have HO4 := Lib.hid (HOW.out.below HB4.out)
              have HRL := Lib.hid (HR.out.below HO4.out.bel)
              have HG := Lib.hid (And.intro hgb (And.intro hg2 (And.intro hnc (And.intro hcm hcs))))
              clear hown' hgb hg2 hcm htk hsz4 x0 x1 x2 x3 x4 y0 y1 y2 y3 y4
              go_upto_region 21 with fail
              go_cut [126] from 112 to 127 (fun _ wx => Hid (ReadRow wx 5 (.slice (some ⟨g2, 0, none⟩) l.length cap) l.length (spFlat (swapL l K x y)) ∧ OW C D b1 b2 w wx))
              case first =>
                obtain ⟨_, _, _, hv, _, _, hgl, x0, x1, x2, x3, x4⟩ := readSp5 HRL.out K x HXY.out.1
                cases hv
                obtain ⟨_, _, _, hv, _, _, _, y0, y1, y2, y3, y4⟩ := readSp5 HRL.out (K + 1) y HXY.out.2
                cases hv
                obtain ⟨_, _, _, hv, _, _, _, u0, u1, u2, u3, u4⟩ := readSp5 HR4.out K x HXY.out.1
                cases hv
                obtain ⟨_, _, _, hv, _, _, _, v0, v1, v2, v3, v4⟩ := readSp5 HR4.out (K + 1) y HXY.out.2
                cases hv
                have hne : g2 ≠ g := by
                  have := HR.out.lt _ _ _ rfl (by omega)
                  have := HG.out.1
                  simp only at *
                  omega
                have hne' : g ≠ g2 := fun e => hne e.symm
                have fz : ∀ o, w4.frozen? ⟨g2, o, none⟩ = false := fun o => frozen_of_row _ _ o _ _ HG.out.2.1
                simp only [Nat.zero_add] at u0 u1 u2 u3 u4 v0 v1 v2 v3 v4
                clear hgl
                go_region
                have HS : Hid (ReadRow (((((((((((w4.setCell ⟨g2, K * 5, none⟩ (.int .i64 y.k)).setCell ⟨g2, K * 5 + 1, none⟩ (.int .i64 y.q)).setCell ⟨g2, K * 5 + 2, none⟩ (.int .i64 y.n)).setCell ⟨g2, K * 5 + 3, none⟩ (.int .i64 y.f)).setCell ⟨g2, K * 5 + 4, none⟩ (.int .i64 y.u)).setCell ⟨g2, (K + 1) * 5, none⟩ (.int .i64 x.k)).setCell ⟨g2, (K + 1) * 5 + 1, none⟩ (.int .i64 x.q)).setCell ⟨g2, (K + 1) * 5 + 2, none⟩ (.int .i64 x.n)).setCell ⟨g2, (K + 1) * 5 + 3, none⟩ (.int .i64 x.f)).setCell ⟨g2, (K + 1) * 5 + 4, none⟩ (.int .i64 x.u))) 5 (.slice (some ⟨g2, 0, none⟩) l.length cap) l.length (spFlat (swapL l K x y))) := Lib.hid (by
                  have := (HR4.out.setSp (k := K) (by omega) y).setSp (k := K + 1) (by simpa using hK1) x
                  simp only [Nat.zero_add] at this
                  exact this)
                have n1 := blk_ne2 HO4.out.h1 HG.out.2.1 (by decide)
                have n2 := blk_ne2 HO4.out.h2 HG.out.2.1 (by decide)
                have HO5 := Lib.hid ((((((((((HO4.out.set HG.out.1 n1 n2 (K * 5) (.int .i64 y.k)).set HG.out.1 n1 n2 (K * 5 + 1) (.int .i64 y.q)).set HG.out.1 n1 n2 (K * 5 + 2) (.int .i64 y.n)).set HG.out.1 n1 n2 (K * 5 + 3) (.int .i64 y.f)).set HG.out.1 n1 n2 (K * 5 + 4) (.int .i64 y.u)).set HG.out.1 n1 n2 ((K + 1) * 5) (.int .i64 x.k)).set HG.out.1 n1 n2 ((K + 1) * 5 + 1) (.int .i64 x.q)).set HG.out.1 n1 n2 ((K + 1) * 5 + 2) (.int .i64 x.n)).set HG.out.1 n1 n2 ((K + 1) * 5 + 3) (.int .i64 x.f)).set HG.out.1 n1 n2 ((K + 1) * 5 + 4) (.int .i64 x.u))
                clear x0 x1 x2 x3 x4 y0 y1 y2 y3 y4 u0 u1 u2 u3 u4 v0 v1 v2 v3 v4 fz n1 n2
                go_wp2_with fail
                go_meet
                exact Lib.hid ⟨HS.out.below (Below.refl _ _).drew, HO5.out.below (Below.refl _ _).drew⟩
              case rest =>
                have HRS := Lib.hid hcut.out.1
                have HOS := Lib.hid hcut.out.2
                clear hcut
                have HSW := Lib.hid (swap_ok HXY.out.1 HXY.out.2 HOV.out HE.out.1)
                go_wp2_with fail
                refine (at2_any (swapL l K x y) m _ wc (by rw [swap_len]; exact HRS.out)).mono ?_
                rintro e w6 ⟨rfl, hB6⟩
                rw [HSW.out.1, HSW.out.2, HC.out]
                have HO6 := Lib.hid (HOS.out.below hB6); clear hB6
                obtain ⟨⟨c0, c1, c2, c3, c4, c5⟩, _⟩ := HO6.out.cells
                have l1 := (Array.getElem?_eq_some_iff.1 HO6.out.h1).1
                have hq := eql_cd C C
                rw [show decide (C = C) = true from by simp] at hq
                unfold cdV cdCells at hq
                unfold cdV cdCells
                go_wp2_with fail
                go_ret
                exact ⟨rfl, HO6.out.bel.alloc HO6.out.bel.size _⟩

theorem order_any (l : List Sp) (m n r : Int) (hr0 : 0 ≤ r) (hr1 : r ≤ 255) (v : Value) (w : World) (hR : ReadRow w 5 v l.length (spFlat l)) :
    Calls Tryd.prog 3 #[v, .int .i64 m, .int .i64 n, .int .u8 r] w (OrdPost w) := by
  by_cases hb : 20 < l.length
  · exact order_big l m n r v w hR hb
  · have h01 : ∀ m, atErr l m = 0 ∨ atErr l m = 1 := by
      intro m; unfold atErr; split
      · exact .inl rfl
      · exact .inr rfl
    rcases h01 m with h1 | h1
    · rcases h01 n with h2 | h2
      · exact order_ok l m n r hr0 hr1 v w hR hb h1 h2
      · exact order_err2 l m n r v w hR hb h1 h2
    · exact order_err1 l m n r v w hR hb h1
end Go.Proofs.YtedddaojcknemaaDoor
