/- WeatherLast: the law walked. -/
import Derived.Test.YtedddaojcknemaaDoorLastP
namespace Go.Proofs.YtedddaojcknemaaDoor
open Go.RowKit Go.Sort

set_option maxRecDepth 100000 in
set_option maxHeartbeats 4000000 in
theorem last_big (l : List Sp) (s : Sp) (m : Int) (v : Value) (w : World) (hR : ReadRow w 5 v l.length (spFlat l)) (hb : 20 < l.length) :
    Calls Tryd.prog 7 #[v, spV s, .int .i64 m] w (OrdPost w) := by
  unfold OrdPost spV
  obtain ⟨a, c, rfl, hc1, hc2, _⟩ := hR.slice
  have hgt : (20 : Int) < (l.length : Int) := by omega
  clear hR hc1 hc2
  go_enter Tryd.func7, Tryd.ntmps7
  go_wp2_with fail
  refine (head_any _).mono ?_
  rintro e w1 ⟨rfl, hB⟩
  have HB := Lib.hid hB; clear hB
  go_wp2_with fail
  go_ret
  exact ⟨rfl, ((Below.refl _ _).alloc (Nat.le_refl _) _).trans (HB.out.mono (by simp))⟩

theorem read_one (W : World) (s : Sp) : ReadRow (W.alloc (.cells #[.int .i64 s.k, .int .i64 s.q, .int .i64 s.n, .int .i64 s.f, .int .i64 s.u] 32)) 5 (.slice (some ⟨W.heap.size, 0, none⟩) 1 1) ([s] : List Sp).length (spFlat [s]) := by
  refine ⟨by rw [spFlat_len], _, 1, rfl, Nat.le_refl _, by unfold maxLen; omega, .inr ⟨W.heap.size, 0, rfl, by simp, fun j u hu => ?_⟩⟩
  rw [Nat.zero_add, cell_of_row _ _ _ _ _ _ (heap_alloc_new W _)]
  simpa [spFlat, spCells] using hu
/-- Behind the first At: the spell's own cells, the conditions', old memory. -/
structure LW (b4 b8 : Nat) (s : Sp) (C : Cd) (w W : World) : Prop where
  h4 : W.heap[b4]? = some (.cells (spCells s).toArray 32 (0, 0))
  h8 : W.heap[b8]? = some (.cells (cdCells C).toArray 26 (0, 0))
  bel : Below w.heap.size w W
  lo : w.heap.size ≤ b8
theorem LW.below {b4 b8 : Nat} {s : Sp} {C : Cd} {w W W' : World} (h : LW b4 b8 s C w W) (hb : Below W.heap.size W W') : LW b4 b8 s C w W' :=
  ⟨keepRow h.h4 hb, keepRow h.h8 hb, h.bel.trans (hb.mono h.bel.size), h.lo⟩
theorem LW.cells {b4 b8 : Nat} {s : Sp} {C : Cd} {w W : World} (h : LW b4 b8 s C w W) :
    W.cell? ⟨b4, 0, none⟩ = some (.int .i64 s.k) ∧ W.cell? ⟨b4, 1, none⟩ = some (.int .i64 s.q) ∧ W.cell? ⟨b4, 2, none⟩ = some (.int .i64 s.n) ∧ W.cell? ⟨b4, 3, none⟩ = some (.int .i64 s.f) ∧ W.cell? ⟨b4, 4, none⟩ = some (.int .i64 s.u) ∧ b4 < W.heap.size ∧ b8 < W.heap.size :=
  ⟨cell_of_row _ _ 0 _ _ _ h.h4, cell_of_row _ _ 1 _ _ _ h.h4, cell_of_row _ _ 2 _ _ _ h.h4, cell_of_row _ _ 3 _ _ _ h.h4, cell_of_row _ _ 4 _ _ _ h.h4, (Array.getElem?_eq_some_iff.1 h.h4).1, (Array.getElem?_eq_some_iff.1 h.h8).1⟩
theorem LW.alloc {b4 b8 : Nat} {s : Sp} {C : Cd} {w W : World} (h : LW b4 b8 s C w W) (o : Obj) : LW b4 b8 s C w (W.alloc o) := h.below ((Below.refl _ _).alloc (Nat.le_refl _) _)
theorem LW.drew {b4 b8 : Nat} {s : Sp} {C : Cd} {w W : World} (h : LW b4 b8 s C w W) : LW b4 b8 s C w W.drew := h.below (Below.refl _ _).drew
theorem LW.set {b4 b8 k : Nat} {s : Sp} {C : Cd} {w W : World} (h : LW b4 b8 s C w W) (n4 : b4 ≠ k) (n8 : b8 ≠ k) (hk : w.heap.size ≤ k) (o : Nat) (v : Value) : LW b4 b8 s C w (W.setCell ⟨k, o, none⟩ v) :=
  ⟨set_keep h.h4 n4 v, set_keep h.h8 n8 v, h.bel.setCell (p := ⟨k, o, none⟩) hk v, h.lo⟩
theorem LW.set6 {b4 b8 k : Nat} {s : Sp} {C : Cd} {w W : World} (h : LW b4 b8 s C w W) (n4 : b4 ≠ k) (n8 : b8 ≠ k) (hk : w.heap.size ≤ k) (a0 a1 a2 a3 a4 a5 : Value) :
    LW b4 b8 s C w ((((((W.setCell ⟨k, 0, none⟩ a0).setCell ⟨k, 1, none⟩ a1).setCell ⟨k, 2, none⟩ a2).setCell ⟨k, 3, none⟩ a3).setCell ⟨k, 4, none⟩ a4).setCell ⟨k, 5, none⟩ a5) :=
  (((((h.set n4 n8 hk _ _).set n4 n8 hk _ _).set n4 n8 hk _ _).set n4 n8 hk _ _).set n4 n8 hk _ _).set n4 n8 hk _ _
theorem lw_S {b4 b8 : Nat} {s : Sp} {C : Cd} {w W : World} (h : LW b4 b8 s C w W) : W.cell? ⟨b4, 0, none⟩ = some (.int .i64 s.k) ∧ W.cell? ⟨b4, 1, none⟩ = some (.int .i64 s.q) ∧ W.cell? ⟨b4, 2, none⟩ = some (.int .i64 s.n) ∧ W.cell? ⟨b4, 3, none⟩ = some (.int .i64 s.f) ∧ W.cell? ⟨b4, 4, none⟩ = some (.int .i64 s.u) :=
  ⟨h.cells.1, h.cells.2.1, h.cells.2.2.1, h.cells.2.2.2.1, h.cells.2.2.2.2.1⟩
/-- Behind the list with the further spell. -/
def LastAt (b4 b8 : Nat) (s : Sp) (C D : Cd) (e : Int) (w : World) (s12 s13 : Value) (wx : World) : Prop :=
  ∃ b12, s12 = .pointer (some ⟨b12, 0, none⟩) ∧ s13 = .int .i64 e ∧ wx.heap[b12]? = some (.cells (cdCells D).toArray 26 (0, 0)) ∧ wx.heap[b8]? = some (.cells (cdCells C).toArray 26 (0, 0)) ∧
    wx.heap[b4]? = some (.cells (spCells s).toArray 32 (0, 0)) ∧ b8 ≠ b12 ∧ w.heap.size ≤ b8 ∧ Below w.heap.size w wx

theorem spFlat_append (a b : List Sp) : spFlat (a ++ b) = spFlat a ++ spFlat b := by unfold spFlat; rw [List.flatMap_append]
abbrev oneObj (s : Sp) : Obj := .cells #[.int .i64 s.k, .int .i64 s.q, .int .i64 s.n, .int .i64 s.f, .int .i64 s.u] 32
abbrev nilObj : Obj := .cells #[] 32
theorem LW.grown {b4 b8 B : Nat} {s : Sp} {C : Cd} {w W W' : World} {row : Option Nat} (h : LW b4 b8 s C w W) (hg : W.grownBy W' row) (hr : ∀ k, row = some k → B ≤ k) (h4 : b4 < B) (h8 : b8 < B) (hw : w.heap.size ≤ B) : LW b4 b8 s C w W' :=
  ⟨(hg.block b4 (Array.getElem?_eq_some_iff.1 h.h4).1 (fun e => by have := hr _ e.symm; omega)).trans h.h4, (hg.block b8 (Array.getElem?_eq_some_iff.1 h.h8).1 (fun e => by have := hr _ e.symm; omega)).trans h.h8,
    h.bel.grown hg h.bel.size (fun k hk => Nat.le_trans hw (hr k hk)), h.lo⟩
theorem at3_any (l : List Sp) (m : Int) (D : Cd) (hD : atCd l m = D) (v : Value) (w : World) (hR : ReadRow w 5 v l.length (spFlat l)) :
    Calls Tryd.prog 9 #[v, .int .i64 m] w fun e w' => e = .returned (.tuple #[.agg #[.int .i64 D.c0, .int .i64 D.c1, .int .i64 D.c2, .int .i64 D.c3, .int .i64 D.se, .bool D.op], .int .i64 (atErr l m)]) ∧ Below w.heap.size w w' := by
  subst hD
  exact at2_any l m v w hR
/-- What the first append leaves, the single spell's slice made before it or not. -/
structure App1 (l : List Sp) (b4 b8 B : Nat) (s : Sp) (C : Cd) (w : World) (v : Value) (w4 : World) : Prop where
  lw : LW b4 b8 s C w w4
  own : w4.ownsRow B 32 5 v l.length (spFlat l)
  l4 : b4 < B
  l8 : b8 < B
  lB : B ≤ w4.heap.size
  lw0 : w.heap.size ≤ B
theorem app1G {l : List Sp} {b4 b8 k : Nat} {s : Sp} {C : Cd} {w W X w4 : World} {v : Value} (h : LW b4 b8 s C w W) (hX : Below W.heap.size W X) (ho : w4.ownsRow W.heap.size 32 5 v (0 + l.length) ([] ++ spFlat l)) (hg : X.grownBy w4 (some k)) (hk : W.heap.size ≤ k) : App1 l b4 b8 W.heap.size s C w v w4 := by
  have hb : Below W.heap.size W w4 := hX.grown hg hX.size (fun k hk' => by cases hk'; exact hk)
  exact ⟨h.below hb, by simpa using ho, h.cells.2.2.2.2.2.1, h.cells.2.2.2.2.2.2, hb.size, h.bel.size⟩
theorem own_at {W : World} {k base : Nat} {e : TypeId} {size : Nat} (hk : W.heap.size = k) (hb : base ≤ W.heap.size) : (W.alloc (.cells #[] e)).ownsRow base e size (.slice (some ⟨k, 0, none⟩) 0 0) 0 [] := by subst hk; exact own_empty hb
theorem new_at {W : World} {o : Obj} {k : Nat} (hk : W.heap.size = k) : (W.alloc o).heap[k]? = some o := by subst hk; exact heap_alloc_new W o
theorem keepDrew {W : World} {o : Obj} {k : Nat} (h : W.heap[k]? = some o) : W.drew.heap[k]? = some o := h
theorem keepG {X Y : World} {o : Obj} {k r : Nat} (h : X.heap[k]? = some o) (hg : X.grownBy Y (some r)) (hne : r ≠ k) : Y.heap[k]? = some o :=
  (hg.block k (Array.getElem?_eq_some_iff.1 h).1 (fun e => by cases e; exact hne rfl)).trans h
theorem keepT {X Y : World} {cs : Array Value} {t e : TypeId} {k base size n : Nat} {v : Value} {xs : List Value} (h : X.heap[k]? = some (.cells cs t (0, 0))) (hown : X.ownsRow base e size v n xs) (hg : X.grownBy Y v.ownBlock) (ht : t ≠ e) : Y.heap[k]? = some (.cells cs t (0, 0)) := by
  refine (hg.block k (Array.getElem?_eq_some_iff.1 h).1 (fun hk => ?_)).trans h
  rcases hown.2 with ⟨rfl, _⟩ | ⟨g, cap, cur, rfl, _, hgr, _⟩
  · cases hk
  · simp only [Value.ownBlock, Option.some.injEq] at hk
    subst hk
    rw [h] at hgr
    cases hgr
    exact ht rfl
theorem read_row {X : World} {s : Sp} {k : Nat} (h : X.heap[k]? = some (oneObj s)) : ReadRow X 5 (.slice (some ⟨k, 0, none⟩) 1 1) 1 (spFlat [s]) := by
  refine ⟨by rw [spFlat_len]; rfl, _, 1, rfl, Nat.le_refl _, by unfold maxLen; omega, .inr ⟨k, 0, rfl, (Array.getElem?_eq_some_iff.1 h).1, fun j u hu => ?_⟩⟩
  rw [Nat.zero_add, cell_of_row _ _ _ _ _ _ h]
  simpa [spFlat, spCells] using hu
abbrev zeroObj : Obj := .cells #[.int .i64 0, .int .i64 0, .int .i64 0, .int .i64 0, .int .i64 0, .bool false] 26
theorem zfacts {W : World} {k b4 b8 : Nat} {s : Sp} {C : Cd} {w : World} (h : W.heap[k]? = some zeroObj) (hl : LW b4 b8 s C w W) (hk : b8 ≠ k) :
    W.cell? ⟨k, 0, none⟩ = some (.int .i64 0) ∧ W.cell? ⟨k, 1, none⟩ = some (.int .i64 0) ∧ W.cell? ⟨k, 2, none⟩ = some (.int .i64 0) ∧ W.cell? ⟨k, 3, none⟩ = some (.int .i64 0) ∧ W.cell? ⟨k, 4, none⟩ = some (.int .i64 0) ∧ W.cell? ⟨k, 5, none⟩ = some (.bool false) ∧
      (∀ o, W.frozen? ⟨k, o, none⟩ = false) ∧ b4 ≠ k ∧ k ≠ b4 ∧ b8 ≠ k ∧ k ≠ b8 := by
  have n4 : b4 ≠ k := blk_ne2 hl.h4 h (by decide)
  exact ⟨cell_of_row _ _ 0 _ _ _ h, cell_of_row _ _ 1 _ _ _ h, cell_of_row _ _ 2 _ _ _ h, cell_of_row _ _ 3 _ _ _ h, cell_of_row _ _ 4 _ _ _ h, cell_of_row _ _ 5 _ _ _ h, fun o => frozen_of_row _ _ o _ _ h, n4, fun e => n4 e.symm, hk, fun e => hk e.symm⟩

/-- What the second append leaves. -/
structure App2 (l : List Sp) (b4 b8 : Nat) (s : Sp) (C : Cd) (w : World) (v : Value) (w5 : World) : Prop where
  lw : LW b4 b8 s C w w5
  rd : ReadRow w5 5 v (l ++ [s]).length (spFlat (l ++ [s]))
theorem app2 {l : List Sp} {b4 b8 B : Nat} {s : Sp} {C : Cd} {w w4 w5 : World} {v v' : Value} (h : App1 l b4 b8 B s C w v w4) (ho : w5.ownsRow B 32 5 v' (l.length + 1) (spFlat l ++ spFlat [s])) (hg : w4.grownBy w5 v.ownBlock) : App2 l b4 b8 s C w v' w5 :=
  ⟨h.lw.grown hg (fun k hk => (h.own.lt k hk).1) h.l4 h.l8 h.lw0, by rw [spFlat_append, List.length_append]; exact ReadRow.of_owns ho⟩
theorem app2x {l : List Sp} {b4 b8 B : Nat} {s : Sp} {C : Cd} {w w4 w5 : World} {v v' : Value} (h : App1 l b4 b8 B s C w v w4) (ho : w5.ownsRow B 32 5 v' (l.length + 1) (spFlat l ++ spFlat [s])) (hg : w4.grownBy w5 v.ownBlock) : App1 l b4 b8 B s C w v w4 ∧ App2 l b4 b8 s C w v' w5 := ⟨h, app2 h ho hg⟩
theorem App1.alloc {l : List Sp} {b4 b8 B : Nat} {s : Sp} {C : Cd} {w w4 : World} {v : Value} (h : App1 l b4 b8 B s C w v w4) (o : Obj) : App1 l b4 b8 B s C w v (w4.alloc o) :=
  ⟨h.lw.below ((Below.refl _ _).alloc (Nat.le_refl _) _), h.own.alloc _, h.l4, h.l8, by have := h.lB; simp; omega, h.lw0⟩

theorem last_set {b4 b8 k : Nat} {s : Sp} {C D : Cd} {e : Int} {w w6 : World} (h : LW b4 b8 s C w w6) (hz : w6.heap[k]? = some zeroObj) (n4 : b4 ≠ k) (n8 : b8 ≠ k) (hk : w.heap.size ≤ k) :
    LastAt b4 b8 s C D e w (.pointer (some ⟨k, 0, none⟩)) (.int .i64 e) ((((((w6.setCell ⟨k, 0, none⟩ (.int .i64 D.c0)).setCell ⟨k, 1, none⟩ (.int .i64 D.c1)).setCell ⟨k, 2, none⟩ (.int .i64 D.c2)).setCell ⟨k, 3, none⟩ (.int .i64 D.c3)).setCell ⟨k, 4, none⟩ (.int .i64 D.se)).setCell ⟨k, 5, none⟩ (.bool D.op)) := by
  refine ⟨k, rfl, rfl, heap_set6 _ _ _ _ _ _ _ _ _ _ _ _ _ _ _ hz, ?_, ?_, n8, h.lo, ?_⟩
  · exact set_keep (set_keep (set_keep (set_keep (set_keep (set_keep h.h8 n8 _) n8 _) n8 _) n8 _) n8 _) n8 _
  · exact set_keep (set_keep (set_keep (set_keep (set_keep (set_keep h.h4 n4 _) n4 _) n4 _) n4 _) n4 _) n4 _
  · exact (((((h.bel.setCell (p := ⟨k, 0, none⟩) hk _).setCell (p := ⟨k, 1, none⟩) hk _).setCell (p := ⟨k, 2, none⟩) hk _).setCell (p := ⟨k, 3, none⟩) hk _).setCell (p := ⟨k, 4, none⟩) hk _).setCell (p := ⟨k, 5, none⟩) hk _
theorem last_at {b4 b8 : Nat} {s : Sp} {C D : Cd} {e : Int} {w w6 : World} (h : LW b4 b8 s C w w6) : LastAt b4 b8 s C D e w (.pointer (some ⟨w6.heap.size, 0, none⟩)) (.int .i64 e) (w6.alloc (.cells #[.int .i64 D.c0, .int .i64 D.c1, .int .i64 D.c2, .int .i64 D.c3, .int .i64 D.se, .bool D.op] 26)) :=
  ⟨_, rfl, rfl, heap_alloc_new _ _, mustKeep h.h8 _, mustKeep h.h4 _, by have := h.cells.2.2.2.2.2.2; omega, h.lo, h.bel.alloc h.bel.size _⟩

set_option maxRecDepth 100000 in
set_option maxHeartbeats 4000000 in
theorem last_main (l : List Sp) (s : Sp) (m : Int) (v : Value) (w : World) (hR : ReadRow w 5 v l.length (spFlat l)) (hv : SliceV v) (hT : TabW w) (hb : ¬ 20 < l.length) :
    Calls Tryd.prog 7 #[v, spV s, .int .i64 m] w (OrdPost w) := by
  unfold OrdPost spV
  have HR := Lib.hid hR
  have HV := Lib.hid hv
  have HT := Lib.hid hT
  obtain ⟨a, c, rfl, hc1, hc2, _⟩ := hR.slice
  have hgt : ¬ (20 : Int) < (l.length : Int) := by omega
  have hll : l.length ≤ 20 := by omega
  clear hR hc1 hc2 hv hT hb
  go_enter Tryd.func7, Tryd.ntmps7
  go_wp2_with fail
  refine (head_any _).mono ?_
  rintro e w1 ⟨rfl, hB⟩
  have HA4 := Lib.hid ((hB.block w.heap.size (by simp)).trans (heap_alloc_new w _))
  have HB1 : Hid (Below w.heap.size w w1) := Lib.hid (((Below.refl _ _).alloc (Nat.le_refl _) _).trans (hB.mono (by simp)))
  clear hB
  go_wp2_with fail
  refine (at2_any l m _ w1 (HR.out.below HB1.out)).mono ?_
  rintro e w2 ⟨rfl, hB2⟩
  generalize hC : atCd l m = C
  generalize he1 : atErr l m = e1
  have HC := Lib.hid (And.intro hC he1); clear hC he1
  have HLW : Hid (LW w.heap.size w2.heap.size s C w (w2.alloc (.cells (cdCells C).toArray 26))) := Lib.hid
    ⟨mustKeep (keepRow HA4.out hB2) _, heap_alloc_new _ _, (HB1.out.trans (hB2.mono HB1.out.size)).alloc (Nat.le_trans HB1.out.size hB2.size) _, Nat.le_trans HB1.out.size hB2.size⟩
  clear hB2 HA4 HB1
  unfold cdCells at HLW
  unfold cdV cdCells
  obtain ⟨b8, hb8⟩ : ∃ b, b = w2.heap.size := ⟨_, rfl⟩
  obtain ⟨b4, hb4⟩ : ∃ b, b = w.heap.size := ⟨_, rfl⟩
  go_upto_region 5 with fail
  rw [← hb8, ← hb4]
  rw [← hb8] at HLW
  have HLW2 : Hid (LW b4 b8 s C w (w2.alloc (.cells #[.int .i64 C.c0, .int .i64 C.c1, .int .i64 C.c2, .int .i64 C.c3, .int .i64 C.se, .bool C.op] 26))) := by rw [hb4]; exact HLW
  clear HLW hb8 hb4
  generalize w2.alloc (.cells #[.int .i64 C.c0, .int .i64 C.c1, .int .i64 C.c2, .int .i64 C.c3, .int .i64 C.se, .bool C.op] 26) = W at HLW2 ⊢
  obtain ⟨d0, d1, d2, d3, d4, l4, l8⟩ := HLW2.out.cells
  go_wp2_with fail
  refine (text_any [s] _ _ (read_one W s) (HT.out.below (HLW2.out.bel.alloc HLW2.out.bel.size _))).mono ?_
  rintro e W2 ⟨rfl, hB5⟩
  generalize he2 : txtE [s] = e2
  have HE2 := Lib.hid he2; clear he2
  have HL3 := Lib.hid (HLW2.out.below (((Below.refl _ _).alloc (Nat.le_refl _) _).trans (hB5.mono (by simp))))
  clear hB5 HLW2 d0 d1 d2 d3 d4 l4 l8
  generalize txtB [s] = tb
  go_upto_region 6 with fail
  obtain ⟨D, hD⟩ : ∃ D, atCd (l ++ [s]) m = D := ⟨_, rfl⟩
  have HD := Lib.hid hD; clear hD
  go_cut [12, 13] from 32 to 41 (fun s12 s13 wx => Hid (LastAt b4 b8 s C D (atErr (l ++ [s]) m) w s12 s13 wx))
  case first =>
    obtain ⟨d0, d1, d2, d3, d4, l4, l8⟩ := HL3.out.cells
    obtain ⟨i0, hi, hz0, hz1, hz2⟩ := info_parts info_sp
    have HZ := Lib.hid (And.intro hi (And.intro hz0 (And.intro hz1 hz2)))
    clear hi hz0 hz1 hz2
    have hzw := HL3.out.bel.size
    go_region_held3 (fun w' => w'.cell? ⟨b4, 0, none⟩ = some (.int .i64 s.k) ∧ w'.cell? ⟨b4, 1, none⟩ = some (.int .i64 s.q) ∧ w'.cell? ⟨b4, 2, none⟩ = some (.int .i64 s.n) ∧ w'.cell? ⟨b4, 3, none⟩ = some (.int .i64 s.f) ∧ w'.cell? ⟨b4, 4, none⟩ = some (.int .i64 s.u)) ((refine lw_S (b8 := b8) (C := C) (w := w) ?_; first | (with_reducible exact hc6.out) | (with_reducible exact (hc6.out.set6 n4 n8 hkk _ _ _ _ _ _)) | (with_reducible exact (hc6.out.alloc _)) | (with_reducible exact hb2.out.lw) | (with_reducible exact (hb2.out.lw.alloc _)) | (with_reducible exact ha.out.lw) | (with_reducible exact (ha.out.lw.alloc _)) | (with_reducible exact ((ha.out.lw.alloc _).alloc _)) | (with_reducible exact HL3.out.drew) | (with_reducible exact (HL3.out.alloc _).drew) | (with_reducible exact ((HL3.out.alloc _).alloc _).drew) | (with_reducible exact (((HL3.out.alloc _).alloc _).alloc _).drew)))
      (first
        | (refine step_append_read rfl (.tmp 32) (.tmp 33) 22 rfl W2.heap.size 32 i0 (spV ⟨0, 0, 0, 0, 0⟩) 5 40 Tryd.underlying22 HZ.out.1 HZ.out.2.1 HZ.out.2.2.1 HZ.out.2.2.2 rfl (by decide) _ 0 [] rfl (by show World.ownsRow _ _ _ _ (Value.slice (some ⟨_, 0, none⟩) 0 0) 0 []; repeat' (first | (with_reducible exact own_at (by (first | (simp; done) | (simp; omega) | omega)) (by (first | (simp; done) | (simp; omega) | omega))) | (with_reducible refine World.ownsRow.alloc ?_ _) | (with_reducible refine World.ownsRow.drew ?_))) (.slice a l.length c) l.length (spFlat l) rfl (HR.out.below (by repeat' (first | (with_reducible exact HL3.out.bel) | (with_reducible refine Below.drew ?_) | (with_reducible refine Below.alloc ?_ ?_ _) | (first | (simp; done) | (simp; omega) | omega)))) HV.out (spFlat_one l) (by unfold maxLen; omega) (by omega) (by (first | (simp; done) | (simp; omega) | omega)) ?_; intro v' w4 hown' hg'; have hg1 : World.grownBy _ w4 (some _) := hg'; have ha := Lib.hid (app1G HL3.out (by repeat' (first | (with_reducible exact Below.refl _ _) | (with_reducible refine Below.drew ?_) | (with_reducible refine Below.alloc ?_ ?_ _) | (first | (simp; done) | (simp; omega) | omega))) hown' hg1 (by (first | (simp; done) | (simp; omega) | omega))); have kp1 := Lib.hid hg1; clear hown' hg' hg1; obtain ⟨d0, d1, d2, d3, d4, l4, l8⟩ := ha.out.lw.cells)
        | (go_at_call 9; refine (at3_any (l ++ [s]) m D HD.out _ _ (by first | (with_reducible exact hb2.out.rd) | (with_reducible exact hb2.out.rd.below ((Below.refl _ _).alloc (Nat.le_refl _) _)))).mono ?_; rintro e w6 ⟨rfl, hB6⟩; have hc6 := Lib.hid (show LW b4 b8 s C w w6 from (by first | (with_reducible exact hb2.out.lw.below hB6) | (with_reducible exact (hb2.out.lw.below ((Below.refl _ _).alloc (Nat.le_refl _) _)).below hB6))); obtain ⟨d0, d1, d2, d3, d4, l4, l8⟩ := hc6.out.cells; (first | (refine (fun (zr : w6.heap[W2.heap.size]? = some zeroObj) => ?_) ?_; rotate_left; (· (refine keepRow ?_ hB6; repeat' (first | (with_reducible exact new_at (by (first | (simp; done) | (simp; omega) | omega))) | (with_reducible refine mustKeep ?_ _) | (with_reducible refine keepDrew ?_) | (with_reducible refine keepT ?_ ha2.out.own kp2.out (by decide)) | (with_reducible refine keepG ?_ kp1.out ?_) | (first | (simp; done) | (simp; omega) | omega)))); have ZR := Lib.hid zr; have hkk : w.heap.size ≤ W2.heap.size := (by have := ha.out.lw0; have := ha.out.lB; have := ha.out.lw.bel.size; have := hb2.out.lw.bel.size; omega); have hn8 : b8 ≠ W2.heap.size := (by have := ha.out.l8; have := ha.out.lB; have := ha.out.lw.cells.2.2.2.2.2.2; have := hb2.out.lw.cells.2.2.2.2.2.2; omega); obtain ⟨z0, z1, z2, z3, z4, z5, zf, n4, n4', n8, n8'⟩ := zfacts zr hc6.out hn8; clear zr hn8) | (refine (fun (zr : w6.heap[W2.heap.size + 1]? = some zeroObj) => ?_) ?_; rotate_left; (· (refine keepRow ?_ hB6; repeat' (first | (with_reducible exact new_at (by (first | (simp; done) | (simp; omega) | omega))) | (with_reducible refine mustKeep ?_ _) | (with_reducible refine keepDrew ?_) | (with_reducible refine keepT ?_ ha2.out.own kp2.out (by decide)) | (with_reducible refine keepG ?_ kp1.out ?_) | (first | (simp; done) | (simp; omega) | omega)))); have ZR := Lib.hid zr; have hkk : w.heap.size ≤ W2.heap.size + 1 := (by have := ha.out.lw0; have := ha.out.lB; have := ha.out.lw.bel.size; have := hb2.out.lw.bel.size; omega); have hn8 : b8 ≠ W2.heap.size + 1 := (by have := ha.out.l8; have := ha.out.lB; have := ha.out.lw.cells.2.2.2.2.2.2; have := hb2.out.lw.cells.2.2.2.2.2.2; omega); obtain ⟨z0, z1, z2, z3, z4, z5, zf, n4, n4', n8, n8'⟩ := zfacts zr hc6.out hn8; clear zr hn8) | (refine (fun (zr : w6.heap[W2.heap.size + 1 + 1]? = some zeroObj) => ?_) ?_; rotate_left; (· (refine keepRow ?_ hB6; repeat' (first | (with_reducible exact new_at (by (first | (simp; done) | (simp; omega) | omega))) | (with_reducible refine mustKeep ?_ _) | (with_reducible refine keepDrew ?_) | (with_reducible refine keepT ?_ ha2.out.own kp2.out (by decide)) | (with_reducible refine keepG ?_ kp1.out ?_) | (first | (simp; done) | (simp; omega) | omega)))); have ZR := Lib.hid zr; have hkk : w.heap.size ≤ W2.heap.size + 1 + 1 := (by have := ha.out.lw0; have := ha.out.lB; have := ha.out.lw.bel.size; have := hb2.out.lw.bel.size; omega); have hn8 : b8 ≠ W2.heap.size + 1 + 1 := (by have := ha.out.l8; have := ha.out.lB; have := ha.out.lw.cells.2.2.2.2.2.2; have := hb2.out.lw.cells.2.2.2.2.2.2; omega); obtain ⟨z0, z1, z2, z3, z4, z5, zf, n4, n4', n8, n8'⟩ := zfacts zr hc6.out hn8; clear zr hn8) | (refine (fun (zr : w6.heap[w4.heap.size]? = some zeroObj) => ?_) ?_; rotate_left; (· (refine keepRow ?_ hB6; repeat' (first | (with_reducible exact new_at (by (first | (simp; done) | (simp; omega) | omega))) | (with_reducible refine mustKeep ?_ _) | (with_reducible refine keepDrew ?_) | (with_reducible refine keepT ?_ ha2.out.own kp2.out (by decide)) | (with_reducible refine keepG ?_ kp1.out ?_) | (first | (simp; done) | (simp; omega) | omega)))); have ZR := Lib.hid zr; have hkk : w.heap.size ≤ w4.heap.size := (by have := ha.out.lw0; have := ha.out.lB; have := ha.out.lw.bel.size; have := hb2.out.lw.bel.size; omega); have hn8 : b8 ≠ w4.heap.size := (by have := ha.out.l8; have := ha.out.lB; have := ha.out.lw.cells.2.2.2.2.2.2; have := hb2.out.lw.cells.2.2.2.2.2.2; omega); obtain ⟨z0, z1, z2, z3, z4, z5, zf, n4, n4', n8, n8'⟩ := zfacts zr hc6.out hn8; clear zr hn8) | (refine (fun (zr : w6.heap[w4.heap.size + 1]? = some zeroObj) => ?_) ?_; rotate_left; (· (refine keepRow ?_ hB6; repeat' (first | (with_reducible exact new_at (by (first | (simp; done) | (simp; omega) | omega))) | (with_reducible refine mustKeep ?_ _) | (with_reducible refine keepDrew ?_) | (with_reducible refine keepT ?_ ha2.out.own kp2.out (by decide)) | (with_reducible refine keepG ?_ kp1.out ?_) | (first | (simp; done) | (simp; omega) | omega)))); have ZR := Lib.hid zr; have hkk : w.heap.size ≤ w4.heap.size + 1 := (by have := ha.out.lw0; have := ha.out.lB; have := ha.out.lw.bel.size; have := hb2.out.lw.bel.size; omega); have hn8 : b8 ≠ w4.heap.size + 1 := (by have := ha.out.l8; have := ha.out.lB; have := ha.out.lw.cells.2.2.2.2.2.2; have := hb2.out.lw.cells.2.2.2.2.2.2; omega); obtain ⟨z0, z1, z2, z3, z4, z5, zf, n4, n4', n8, n8'⟩ := zfacts zr hc6.out hn8; clear zr hn8) | (refine (fun (zr : w6.heap[w5.heap.size]? = some zeroObj) => ?_) ?_; rotate_left; (· (refine keepRow ?_ hB6; repeat' (first | (with_reducible exact new_at (by (first | (simp; done) | (simp; omega) | omega))) | (with_reducible refine mustKeep ?_ _) | (with_reducible refine keepDrew ?_) | (with_reducible refine keepT ?_ ha2.out.own kp2.out (by decide)) | (with_reducible refine keepG ?_ kp1.out ?_) | (first | (simp; done) | (simp; omega) | omega)))); have ZR := Lib.hid zr; have hkk : w.heap.size ≤ w5.heap.size := (by have := ha.out.lw0; have := ha.out.lB; have := ha.out.lw.bel.size; have := hb2.out.lw.bel.size; omega); have hn8 : b8 ≠ w5.heap.size := (by have := ha.out.l8; have := ha.out.lB; have := ha.out.lw.cells.2.2.2.2.2.2; have := hb2.out.lw.cells.2.2.2.2.2.2; omega); obtain ⟨z0, z1, z2, z3, z4, z5, zf, n4, n4', n8, n8'⟩ := zfacts zr hc6.out hn8; clear zr hn8) | skip); clear hB6)
        | (refine step_append_read rfl (.tmp 34) (.tmp 36) 22 rfl W2.heap.size 32 i0 (spV ⟨0, 0, 0, 0, 0⟩) 5 40 Tryd.underlying22 HZ.out.1 HZ.out.2.1 HZ.out.2.2.1 HZ.out.2.2.2 rfl (by decide) v' l.length (spFlat l) rfl ?_ _ 1 (spFlat [s]) rfl ?_ ?_ (spFlat_one [s]) (by unfold maxLen; omega) (by omega) ?_ ?_
           · refine App1.own (l := l) (b4 := b4) (b8 := b8) (s := s) (C := C) (w := w) ?_
             repeat' (first | (with_reducible exact ha.out) | (with_reducible refine App1.alloc ?_ _))
           · show ReadRow _ _ (Value.slice (some ⟨_, 0, none⟩) 1 1) _ _
             refine read_row ?_
             repeat' (first | (with_reducible exact new_at (by (first | (simp; done) | (simp; omega) | omega))) | (with_reducible refine mustKeep ?_ _) | (with_reducible refine keepDrew ?_) | (with_reducible refine keepG ?_ kp1.out ?_) | (first | (simp; done) | (simp; omega) | omega))
           · exact .inr ⟨_, _, _, rfl⟩
           · refine App1.lB (l := l) (b4 := b4) (b8 := b8) (s := s) (C := C) (w := w) (v := v') ?_
             repeat' (first | (with_reducible exact ha.out) | (with_reducible refine App1.alloc ?_ _))
           intro v2 w5 hown5 hg5
           refine (fun hh => ?_) (app2x (l := l) (b4 := b4) (b8 := b8) (B := W2.heap.size) (s := s) (C := C) (w := w) (v := v') ?_ hown5 hg5)
           rotate_left
           · repeat' (first | (with_reducible exact ha.out) | (with_reducible refine App1.alloc ?_ _))
           have ha2 := Lib.hid hh.1
           have hb2 := Lib.hid hh.2
           clear hh
           have kp2 := Lib.hid hg5
           clear hown5 hg5
           obtain ⟨d0, d1, d2, d3, d4, l4, l8⟩ := hb2.out.lw.cells))
    all_goals
      go_wp2_with fail
      go_meet
      first | (have hw := last_set (D := D) (e := atErr (l ++ [s]) m) hc6.out ZR.out n4 n8 hkk; exact Lib.hid hw) | exact Lib.hid (last_at hc6.out)
  case rest =>
    obtain ⟨b12, rfl, rfl, h12, h8, h4, hne, hlo, hbel⟩ := hcut.out
    have HH := Lib.hid (And.intro h12 (And.intro h8 (And.intro h4 (And.intro hlo hbel))))
    clear hcut h12 h8 h4 hlo hbel HL3
    have h01 := err_01 l m
    rw [HC.out.2] at h01
    rcases h01 with h1 | h1
    · have h02 := txtE_01 [s]
      rw [HE2.out] at h02
      rcases h02 with h2 | h2
      · have hok := last_ok hll (HC.out.2.trans h1) (HE2.out.trans h2)
        rw [hok.1]
        have HOK := Lib.hid hok
        clear hok
        subst h1 h2
        obtain ⟨d0, d1, d2, d3, d4⟩ : _ ∧ _ ∧ _ ∧ _ ∧ _ := ⟨(cell_of_row _ _ 0 _ _ _ HH.out.2.2.1).trans (show _ = some (Value.int .i64 s.k) from rfl), (cell_of_row _ _ 1 _ _ _ HH.out.2.2.1).trans (show _ = some (Value.int .i64 s.q) from rfl), (cell_of_row _ _ 2 _ _ _ HH.out.2.2.1).trans (show _ = some (Value.int .i64 s.n) from rfl), (cell_of_row _ _ 3 _ _ _ HH.out.2.2.1).trans (show _ = some (Value.int .i64 s.f) from rfl), (cell_of_row _ _ 4 _ _ _ HH.out.2.2.1).trans (show _ = some (Value.int .i64 s.u) from rfl)⟩
        go_wp2_with fail
        have hinc := inForce_any s m wc
        unfold spV at hinc
        refine hinc.mono ?_
        rintro e W6 ⟨rfl, hB6⟩
        clear hinc d0 d1 d2 d3 d4
        have HI := Lib.hid (And.intro (keepRow HH.out.1 hB6) (And.intro (keepRow HH.out.2.1 hB6) (And.intro (keepRow HH.out.2.2.1 hB6) (HH.out.2.2.2.2.trans (hB6.mono HH.out.2.2.2.2.size)))))
        clear hB6
        have hDC : D = atStep m C s := by rw [← HD.out, HOK.out.2.1, HC.out.1]
        have hkk := formed_kinds HOK.out.2.2
        obtain ⟨k, q, n, f, u⟩ := s
        cases hin : inF ⟨k, q, n, f, u⟩ m
        · have hD2 : D = C := by rw [hDC]; unfold atStep; rw [hin]; rfl
          have HIN := Lib.hid hin
          clear hDC hin hkk
          subst hD2
          have x0 := (cell_of_row _ _ 0 _ _ _ HI.out.1).trans (show _ = some (Value.int .i64 D.c0) from rfl)
          have x1 := (cell_of_row _ _ 1 _ _ _ HI.out.1).trans (show _ = some (Value.int .i64 D.c1) from rfl)
          have x2 := (cell_of_row _ _ 2 _ _ _ HI.out.1).trans (show _ = some (Value.int .i64 D.c2) from rfl)
          have x3 := (cell_of_row _ _ 3 _ _ _ HI.out.1).trans (show _ = some (Value.int .i64 D.c3) from rfl)
          have x4 := (cell_of_row _ _ 4 _ _ _ HI.out.1).trans (show _ = some (Value.int .i64 D.se) from rfl)
          have x5 := (cell_of_row _ _ 5 _ _ _ HI.out.1).trans (show _ = some (Value.bool D.op) from rfl)
          have y0 := (cell_of_row _ _ 0 _ _ _ HI.out.2.1).trans (show _ = some (Value.int .i64 D.c0) from rfl)
          have y1 := (cell_of_row _ _ 1 _ _ _ HI.out.2.1).trans (show _ = some (Value.int .i64 D.c1) from rfl)
          have y2 := (cell_of_row _ _ 2 _ _ _ HI.out.2.1).trans (show _ = some (Value.int .i64 D.c2) from rfl)
          have y3 := (cell_of_row _ _ 3 _ _ _ HI.out.2.1).trans (show _ = some (Value.int .i64 D.c3) from rfl)
          have y4 := (cell_of_row _ _ 4 _ _ _ HI.out.2.1).trans (show _ = some (Value.int .i64 D.se) from rfl)
          have y5 := (cell_of_row _ _ 5 _ _ _ HI.out.2.1).trans (show _ = some (Value.bool D.op) from rfl)
          have hq := eql_cd D D
          rw [show decide (D = D) = true from by simp] at hq
          unfold cdV cdCells at hq
          go_wp2_with fail
          go_ret
          exact ⟨rfl, HI.out.2.2.2⟩
        · have HIN := Lib.hid hin
          clear hin
          simp only at hkk
          rcases hkk with ⟨rfl, hq4⟩ | rfl | rfl
          · rcases hq4 with rfl | rfl | rfl | rfl
            · have hD2 : D = { C with c0 := n } := by rw [hDC]; unfold atStep; rw [HIN.out]; rfl
              subst hD2
              clear hDC
              have x0 := (cell_of_row _ _ 0 _ _ _ HI.out.1).trans (show _ = some (Value.int .i64 n) from rfl)
              have x1 := (cell_of_row _ _ 1 _ _ _ HI.out.1).trans (show _ = some (Value.int .i64 C.c1) from rfl)
              have x2 := (cell_of_row _ _ 2 _ _ _ HI.out.1).trans (show _ = some (Value.int .i64 C.c2) from rfl)
              have x3 := (cell_of_row _ _ 3 _ _ _ HI.out.1).trans (show _ = some (Value.int .i64 C.c3) from rfl)
              have x4 := (cell_of_row _ _ 4 _ _ _ HI.out.1).trans (show _ = some (Value.int .i64 C.se) from rfl)
              have x5 := (cell_of_row _ _ 5 _ _ _ HI.out.1).trans (show _ = some (Value.bool C.op) from rfl)
              have y0 := (cell_of_row _ _ 0 _ _ _ HI.out.2.1).trans (show _ = some (Value.int .i64 C.c0) from rfl)
              have y1 := (cell_of_row _ _ 1 _ _ _ HI.out.2.1).trans (show _ = some (Value.int .i64 C.c1) from rfl)
              have y2 := (cell_of_row _ _ 2 _ _ _ HI.out.2.1).trans (show _ = some (Value.int .i64 C.c2) from rfl)
              have y3 := (cell_of_row _ _ 3 _ _ _ HI.out.2.1).trans (show _ = some (Value.int .i64 C.c3) from rfl)
              have y4 := (cell_of_row _ _ 4 _ _ _ HI.out.2.1).trans (show _ = some (Value.int .i64 C.se) from rfl)
              have y5 := (cell_of_row _ _ 5 _ _ _ HI.out.2.1).trans (show _ = some (Value.bool C.op) from rfl)
              have z0 := (cell_of_row _ _ 0 _ _ _ HI.out.2.2.1).trans (show _ = some (Value.int .i64 1) from rfl)
              have z1 := (cell_of_row _ _ 1 _ _ _ HI.out.2.2.1).trans (show _ = some (Value.int .i64 0) from rfl)
              have z2 := (cell_of_row _ _ 2 _ _ _ HI.out.2.2.1).trans (show _ = some (Value.int .i64 n) from rfl)
              have z3 := (cell_of_row _ _ 3 _ _ _ HI.out.2.2.1).trans (show _ = some (Value.int .i64 f) from rfl)
              have z4 := (cell_of_row _ _ 4 _ _ _ HI.out.2.2.1).trans (show _ = some (Value.int .i64 u) from rfl)
              have fz := frozen_of_row _ _ 0 _ _ HI.out.2.1
              have hmax : ∀ ts t w, (Builtin.max_ ts t #[.int .i64 0, .int .i64 0]).run Tryd.prog w = .ok (.int .i64 0) w := fun ts t w => (run_max_int2 (P := Tryd.prog) w ts t .i64 .i64 0 0).trans rfl
              have hmin : ∀ ts t w, (Builtin.min_ ts t #[.int .i64 0, .int .i64 3]).run Tryd.prog w = .ok (.int .i64 0) w := fun ts t w => (run_min_int2 (P := Tryd.prog) w ts t .i64 .i64 0 3).trans rfl
              have hne' : b12 ≠ b8 := fun e => hne e.symm
              have hq := eql_cd ({ C with c0 := n } : Cd) ({ C with c0 := n } : Cd)
              rw [show decide (({ C with c0 := n } : Cd) = ({ C with c0 := n } : Cd)) = true from by simp] at hq
              unfold cdV cdCells at hq
              simp only [] at hq
              go_wp2_with fail
              go_ret
              exact ⟨rfl, HI.out.2.2.2.setCell (p := ⟨b8, 0, none⟩) HH.out.2.2.2.1 _⟩
            · have hD2 : D = { C with c1 := n } := by rw [hDC]; unfold atStep; rw [HIN.out]; rfl
              subst hD2
              clear hDC
              have x0 := (cell_of_row _ _ 0 _ _ _ HI.out.1).trans (show _ = some (Value.int .i64 C.c0) from rfl)
              have x1 := (cell_of_row _ _ 1 _ _ _ HI.out.1).trans (show _ = some (Value.int .i64 n) from rfl)
              have x2 := (cell_of_row _ _ 2 _ _ _ HI.out.1).trans (show _ = some (Value.int .i64 C.c2) from rfl)
              have x3 := (cell_of_row _ _ 3 _ _ _ HI.out.1).trans (show _ = some (Value.int .i64 C.c3) from rfl)
              have x4 := (cell_of_row _ _ 4 _ _ _ HI.out.1).trans (show _ = some (Value.int .i64 C.se) from rfl)
              have x5 := (cell_of_row _ _ 5 _ _ _ HI.out.1).trans (show _ = some (Value.bool C.op) from rfl)
              have y0 := (cell_of_row _ _ 0 _ _ _ HI.out.2.1).trans (show _ = some (Value.int .i64 C.c0) from rfl)
              have y1 := (cell_of_row _ _ 1 _ _ _ HI.out.2.1).trans (show _ = some (Value.int .i64 C.c1) from rfl)
              have y2 := (cell_of_row _ _ 2 _ _ _ HI.out.2.1).trans (show _ = some (Value.int .i64 C.c2) from rfl)
              have y3 := (cell_of_row _ _ 3 _ _ _ HI.out.2.1).trans (show _ = some (Value.int .i64 C.c3) from rfl)
              have y4 := (cell_of_row _ _ 4 _ _ _ HI.out.2.1).trans (show _ = some (Value.int .i64 C.se) from rfl)
              have y5 := (cell_of_row _ _ 5 _ _ _ HI.out.2.1).trans (show _ = some (Value.bool C.op) from rfl)
              have z0 := (cell_of_row _ _ 0 _ _ _ HI.out.2.2.1).trans (show _ = some (Value.int .i64 1) from rfl)
              have z1 := (cell_of_row _ _ 1 _ _ _ HI.out.2.2.1).trans (show _ = some (Value.int .i64 1) from rfl)
              have z2 := (cell_of_row _ _ 2 _ _ _ HI.out.2.2.1).trans (show _ = some (Value.int .i64 n) from rfl)
              have z3 := (cell_of_row _ _ 3 _ _ _ HI.out.2.2.1).trans (show _ = some (Value.int .i64 f) from rfl)
              have z4 := (cell_of_row _ _ 4 _ _ _ HI.out.2.2.1).trans (show _ = some (Value.int .i64 u) from rfl)
              have fz := frozen_of_row _ _ 1 _ _ HI.out.2.1
              have hmax : ∀ ts t w, (Builtin.max_ ts t #[.int .i64 1, .int .i64 0]).run Tryd.prog w = .ok (.int .i64 1) w := fun ts t w => (run_max_int2 (P := Tryd.prog) w ts t .i64 .i64 1 0).trans rfl
              have hmin : ∀ ts t w, (Builtin.min_ ts t #[.int .i64 1, .int .i64 3]).run Tryd.prog w = .ok (.int .i64 1) w := fun ts t w => (run_min_int2 (P := Tryd.prog) w ts t .i64 .i64 1 3).trans rfl
              have hne' : b12 ≠ b8 := fun e => hne e.symm
              have hq := eql_cd ({ C with c1 := n } : Cd) ({ C with c1 := n } : Cd)
              rw [show decide (({ C with c1 := n } : Cd) = ({ C with c1 := n } : Cd)) = true from by simp] at hq
              unfold cdV cdCells at hq
              simp only [] at hq
              go_wp2_with fail
              go_ret
              exact ⟨rfl, HI.out.2.2.2.setCell (p := ⟨b8, 1, none⟩) HH.out.2.2.2.1 _⟩
            · have hD2 : D = { C with c2 := n } := by rw [hDC]; unfold atStep; rw [HIN.out]; rfl
              subst hD2
              clear hDC
              have x0 := (cell_of_row _ _ 0 _ _ _ HI.out.1).trans (show _ = some (Value.int .i64 C.c0) from rfl)
              have x1 := (cell_of_row _ _ 1 _ _ _ HI.out.1).trans (show _ = some (Value.int .i64 C.c1) from rfl)
              have x2 := (cell_of_row _ _ 2 _ _ _ HI.out.1).trans (show _ = some (Value.int .i64 n) from rfl)
              have x3 := (cell_of_row _ _ 3 _ _ _ HI.out.1).trans (show _ = some (Value.int .i64 C.c3) from rfl)
              have x4 := (cell_of_row _ _ 4 _ _ _ HI.out.1).trans (show _ = some (Value.int .i64 C.se) from rfl)
              have x5 := (cell_of_row _ _ 5 _ _ _ HI.out.1).trans (show _ = some (Value.bool C.op) from rfl)
              have y0 := (cell_of_row _ _ 0 _ _ _ HI.out.2.1).trans (show _ = some (Value.int .i64 C.c0) from rfl)
              have y1 := (cell_of_row _ _ 1 _ _ _ HI.out.2.1).trans (show _ = some (Value.int .i64 C.c1) from rfl)
              have y2 := (cell_of_row _ _ 2 _ _ _ HI.out.2.1).trans (show _ = some (Value.int .i64 C.c2) from rfl)
              have y3 := (cell_of_row _ _ 3 _ _ _ HI.out.2.1).trans (show _ = some (Value.int .i64 C.c3) from rfl)
              have y4 := (cell_of_row _ _ 4 _ _ _ HI.out.2.1).trans (show _ = some (Value.int .i64 C.se) from rfl)
              have y5 := (cell_of_row _ _ 5 _ _ _ HI.out.2.1).trans (show _ = some (Value.bool C.op) from rfl)
              have z0 := (cell_of_row _ _ 0 _ _ _ HI.out.2.2.1).trans (show _ = some (Value.int .i64 1) from rfl)
              have z1 := (cell_of_row _ _ 1 _ _ _ HI.out.2.2.1).trans (show _ = some (Value.int .i64 2) from rfl)
              have z2 := (cell_of_row _ _ 2 _ _ _ HI.out.2.2.1).trans (show _ = some (Value.int .i64 n) from rfl)
              have z3 := (cell_of_row _ _ 3 _ _ _ HI.out.2.2.1).trans (show _ = some (Value.int .i64 f) from rfl)
              have z4 := (cell_of_row _ _ 4 _ _ _ HI.out.2.2.1).trans (show _ = some (Value.int .i64 u) from rfl)
              have fz := frozen_of_row _ _ 2 _ _ HI.out.2.1
              have hmax : ∀ ts t w, (Builtin.max_ ts t #[.int .i64 2, .int .i64 0]).run Tryd.prog w = .ok (.int .i64 2) w := fun ts t w => (run_max_int2 (P := Tryd.prog) w ts t .i64 .i64 2 0).trans rfl
              have hmin : ∀ ts t w, (Builtin.min_ ts t #[.int .i64 2, .int .i64 3]).run Tryd.prog w = .ok (.int .i64 2) w := fun ts t w => (run_min_int2 (P := Tryd.prog) w ts t .i64 .i64 2 3).trans rfl
              have hne' : b12 ≠ b8 := fun e => hne e.symm
              have hq := eql_cd ({ C with c2 := n } : Cd) ({ C with c2 := n } : Cd)
              rw [show decide (({ C with c2 := n } : Cd) = ({ C with c2 := n } : Cd)) = true from by simp] at hq
              unfold cdV cdCells at hq
              simp only [] at hq
              go_wp2_with fail
              go_ret
              exact ⟨rfl, HI.out.2.2.2.setCell (p := ⟨b8, 2, none⟩) HH.out.2.2.2.1 _⟩
            · have hD2 : D = { C with c3 := n } := by rw [hDC]; unfold atStep; rw [HIN.out]; rfl
              subst hD2
              clear hDC
              have x0 := (cell_of_row _ _ 0 _ _ _ HI.out.1).trans (show _ = some (Value.int .i64 C.c0) from rfl)
              have x1 := (cell_of_row _ _ 1 _ _ _ HI.out.1).trans (show _ = some (Value.int .i64 C.c1) from rfl)
              have x2 := (cell_of_row _ _ 2 _ _ _ HI.out.1).trans (show _ = some (Value.int .i64 C.c2) from rfl)
              have x3 := (cell_of_row _ _ 3 _ _ _ HI.out.1).trans (show _ = some (Value.int .i64 n) from rfl)
              have x4 := (cell_of_row _ _ 4 _ _ _ HI.out.1).trans (show _ = some (Value.int .i64 C.se) from rfl)
              have x5 := (cell_of_row _ _ 5 _ _ _ HI.out.1).trans (show _ = some (Value.bool C.op) from rfl)
              have y0 := (cell_of_row _ _ 0 _ _ _ HI.out.2.1).trans (show _ = some (Value.int .i64 C.c0) from rfl)
              have y1 := (cell_of_row _ _ 1 _ _ _ HI.out.2.1).trans (show _ = some (Value.int .i64 C.c1) from rfl)
              have y2 := (cell_of_row _ _ 2 _ _ _ HI.out.2.1).trans (show _ = some (Value.int .i64 C.c2) from rfl)
              have y3 := (cell_of_row _ _ 3 _ _ _ HI.out.2.1).trans (show _ = some (Value.int .i64 C.c3) from rfl)
              have y4 := (cell_of_row _ _ 4 _ _ _ HI.out.2.1).trans (show _ = some (Value.int .i64 C.se) from rfl)
              have y5 := (cell_of_row _ _ 5 _ _ _ HI.out.2.1).trans (show _ = some (Value.bool C.op) from rfl)
              have z0 := (cell_of_row _ _ 0 _ _ _ HI.out.2.2.1).trans (show _ = some (Value.int .i64 1) from rfl)
              have z1 := (cell_of_row _ _ 1 _ _ _ HI.out.2.2.1).trans (show _ = some (Value.int .i64 3) from rfl)
              have z2 := (cell_of_row _ _ 2 _ _ _ HI.out.2.2.1).trans (show _ = some (Value.int .i64 n) from rfl)
              have z3 := (cell_of_row _ _ 3 _ _ _ HI.out.2.2.1).trans (show _ = some (Value.int .i64 f) from rfl)
              have z4 := (cell_of_row _ _ 4 _ _ _ HI.out.2.2.1).trans (show _ = some (Value.int .i64 u) from rfl)
              have fz := frozen_of_row _ _ 3 _ _ HI.out.2.1
              have hmax : ∀ ts t w, (Builtin.max_ ts t #[.int .i64 3, .int .i64 0]).run Tryd.prog w = .ok (.int .i64 3) w := fun ts t w => (run_max_int2 (P := Tryd.prog) w ts t .i64 .i64 3 0).trans rfl
              have hmin : ∀ ts t w, (Builtin.min_ ts t #[.int .i64 3, .int .i64 3]).run Tryd.prog w = .ok (.int .i64 3) w := fun ts t w => (run_min_int2 (P := Tryd.prog) w ts t .i64 .i64 3 3).trans rfl
              have hne' : b12 ≠ b8 := fun e => hne e.symm
              have hq := eql_cd ({ C with c3 := n } : Cd) ({ C with c3 := n } : Cd)
              rw [show decide (({ C with c3 := n } : Cd) = ({ C with c3 := n } : Cd)) = true from by simp] at hq
              unfold cdV cdCells at hq
              simp only [] at hq
              go_wp2_with fail
              go_ret
              exact ⟨rfl, HI.out.2.2.2.setCell (p := ⟨b8, 3, none⟩) HH.out.2.2.2.1 _⟩
          · have hD2 : D = { C with se := n } := by rw [hDC]; unfold atStep; rw [HIN.out]; rfl
            subst hD2
            clear hDC
            have x0 := (cell_of_row _ _ 0 _ _ _ HI.out.1).trans (show _ = some (Value.int .i64 C.c0) from rfl)
            have x1 := (cell_of_row _ _ 1 _ _ _ HI.out.1).trans (show _ = some (Value.int .i64 C.c1) from rfl)
            have x2 := (cell_of_row _ _ 2 _ _ _ HI.out.1).trans (show _ = some (Value.int .i64 C.c2) from rfl)
            have x3 := (cell_of_row _ _ 3 _ _ _ HI.out.1).trans (show _ = some (Value.int .i64 C.c3) from rfl)
            have x4 := (cell_of_row _ _ 4 _ _ _ HI.out.1).trans (show _ = some (Value.int .i64 n) from rfl)
            have x5 := (cell_of_row _ _ 5 _ _ _ HI.out.1).trans (show _ = some (Value.bool C.op) from rfl)
            have y0 := (cell_of_row _ _ 0 _ _ _ HI.out.2.1).trans (show _ = some (Value.int .i64 C.c0) from rfl)
            have y1 := (cell_of_row _ _ 1 _ _ _ HI.out.2.1).trans (show _ = some (Value.int .i64 C.c1) from rfl)
            have y2 := (cell_of_row _ _ 2 _ _ _ HI.out.2.1).trans (show _ = some (Value.int .i64 C.c2) from rfl)
            have y3 := (cell_of_row _ _ 3 _ _ _ HI.out.2.1).trans (show _ = some (Value.int .i64 C.c3) from rfl)
            have y4 := (cell_of_row _ _ 4 _ _ _ HI.out.2.1).trans (show _ = some (Value.int .i64 C.se) from rfl)
            have y5 := (cell_of_row _ _ 5 _ _ _ HI.out.2.1).trans (show _ = some (Value.bool C.op) from rfl)
            have z0 := (cell_of_row _ _ 0 _ _ _ HI.out.2.2.1).trans (show _ = some (Value.int .i64 2) from rfl)
            have z1 := (cell_of_row _ _ 1 _ _ _ HI.out.2.2.1).trans (show _ = some (Value.int .i64 q) from rfl)
            have z2 := (cell_of_row _ _ 2 _ _ _ HI.out.2.2.1).trans (show _ = some (Value.int .i64 n) from rfl)
            have z3 := (cell_of_row _ _ 3 _ _ _ HI.out.2.2.1).trans (show _ = some (Value.int .i64 f) from rfl)
            have z4 := (cell_of_row _ _ 4 _ _ _ HI.out.2.2.1).trans (show _ = some (Value.int .i64 u) from rfl)
            have fz := frozen_of_row _ _ 4 _ _ HI.out.2.1
            have hne' : b12 ≠ b8 := fun e => hne e.symm
            have hq := eql_cd ({ C with se := n } : Cd) ({ C with se := n } : Cd)
            rw [show decide (({ C with se := n } : Cd) = ({ C with se := n } : Cd)) = true from by simp] at hq
            unfold cdV cdCells at hq
            simp only [] at hq
            go_wp2_with fail
            go_ret
            exact ⟨rfl, HI.out.2.2.2.setCell (p := ⟨b8, 4, none⟩) HH.out.2.2.2.1 _⟩
          · have hD2 : D = { C with op := false } := by rw [hDC]; unfold atStep; rw [HIN.out]; rfl
            subst hD2
            clear hDC
            have x0 := (cell_of_row _ _ 0 _ _ _ HI.out.1).trans (show _ = some (Value.int .i64 C.c0) from rfl)
            have x1 := (cell_of_row _ _ 1 _ _ _ HI.out.1).trans (show _ = some (Value.int .i64 C.c1) from rfl)
            have x2 := (cell_of_row _ _ 2 _ _ _ HI.out.1).trans (show _ = some (Value.int .i64 C.c2) from rfl)
            have x3 := (cell_of_row _ _ 3 _ _ _ HI.out.1).trans (show _ = some (Value.int .i64 C.c3) from rfl)
            have x4 := (cell_of_row _ _ 4 _ _ _ HI.out.1).trans (show _ = some (Value.int .i64 C.se) from rfl)
            have x5 := (cell_of_row _ _ 5 _ _ _ HI.out.1).trans (show _ = some (Value.bool false) from rfl)
            have y0 := (cell_of_row _ _ 0 _ _ _ HI.out.2.1).trans (show _ = some (Value.int .i64 C.c0) from rfl)
            have y1 := (cell_of_row _ _ 1 _ _ _ HI.out.2.1).trans (show _ = some (Value.int .i64 C.c1) from rfl)
            have y2 := (cell_of_row _ _ 2 _ _ _ HI.out.2.1).trans (show _ = some (Value.int .i64 C.c2) from rfl)
            have y3 := (cell_of_row _ _ 3 _ _ _ HI.out.2.1).trans (show _ = some (Value.int .i64 C.c3) from rfl)
            have y4 := (cell_of_row _ _ 4 _ _ _ HI.out.2.1).trans (show _ = some (Value.int .i64 C.se) from rfl)
            have y5 := (cell_of_row _ _ 5 _ _ _ HI.out.2.1).trans (show _ = some (Value.bool C.op) from rfl)
            have z0 := (cell_of_row _ _ 0 _ _ _ HI.out.2.2.1).trans (show _ = some (Value.int .i64 3) from rfl)
            have z1 := (cell_of_row _ _ 1 _ _ _ HI.out.2.2.1).trans (show _ = some (Value.int .i64 q) from rfl)
            have z2 := (cell_of_row _ _ 2 _ _ _ HI.out.2.2.1).trans (show _ = some (Value.int .i64 n) from rfl)
            have z3 := (cell_of_row _ _ 3 _ _ _ HI.out.2.2.1).trans (show _ = some (Value.int .i64 f) from rfl)
            have z4 := (cell_of_row _ _ 4 _ _ _ HI.out.2.2.1).trans (show _ = some (Value.int .i64 u) from rfl)
            have fz := frozen_of_row _ _ 5 _ _ HI.out.2.1
            have hne' : b12 ≠ b8 := fun e => hne e.symm
            have hq := eql_cd ({ C with op := false } : Cd) ({ C with op := false } : Cd)
            rw [show decide (({ C with op := false } : Cd) = ({ C with op := false } : Cd)) = true from by simp] at hq
            unfold cdV cdCells at hq
            simp only [] at hq
            go_wp2_with fail
            go_ret
            exact ⟨rfl, HI.out.2.2.2.setCell (p := ⟨b8, 5, none⟩) HH.out.2.2.2.1 _⟩
      · rw [last_bad hll (.inr (HE2.out.trans h2))]
        subst h1 h2
        go_wp2_with fail
        go_ret
        exact ⟨rfl, HH.out.2.2.2.2⟩
    · rw [last_bad hll (.inl (HC.out.2.trans h1))]
      subst h1
      go_wp2_with fail
      go_ret
      exact ⟨rfl, HH.out.2.2.2.2⟩

theorem last_any (l : List Sp) (s : Sp) (m : Int) (v : Value) (w : World) (hR : ReadRow w 5 v l.length (spFlat l)) (hv : SliceV v) (hT : TabW w) :
    Calls Tryd.prog 7 #[v, spV s, .int .i64 m] w (OrdPost w) := by
  by_cases hb : 20 < l.length
  · exact last_big l s m v w hR hb
  · exact last_main l s m v w hR hv hT hb
end Go.Proofs.YtedddaojcknemaaDoor
