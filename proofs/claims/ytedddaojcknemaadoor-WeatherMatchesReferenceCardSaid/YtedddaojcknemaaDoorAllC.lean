/- weather.At: walked. -/
import Derived.Test.YtedddaojcknemaaDoorAllB
namespace Go.Proofs.YtedddaojcknemaaDoor
open Go.RowKit

/-- Conditions. -/
structure Cd where
  c0 : Int
  c1 : Int
  c2 : Int
  c3 : Int
  se : Int
  op : Bool
  deriving DecidableEq
def cdCells (c : Cd) : List Value := [.int .i64 c.c0, .int .i64 c.c1, .int .i64 c.c2, .int .i64 c.c3, .int .i64 c.se, .bool c.op]
def cdV (c : Cd) : Value := .agg (cdCells c).toArray
def cd0 : Cd := ⟨1000, 1000, 1000, 1000, 10, true⟩
def cdZ : Cd := ⟨0, 0, 0, 0, 0, false⟩
def Cd.set (c : Cd) (q n : Int) : Cd := if q = 0 then { c with c0 := n } else if q = 1 then { c with c1 := n } else if q = 2 then { c with c2 := n } else { c with c3 := n }
def inF (s : Sp) (m : Int) : Bool := decide (s.f ≤ m ∧ m ≤ s.u)
def atStep (m : Int) (c : Cd) (s : Sp) : Cd := if inF s m then (if s.k = 1 then c.set s.q s.n else if s.k = 2 then { c with se := s.n } else { c with op := false }) else c
def atL (l : List Sp) (m : Int) : Cd := l.foldl (atStep m) cd0
def AtPost (l : List Sp) (m : Int) (w : World) (e : Ending) (w' : World) : Prop :=
  e = .returned (if allB l && momB m then .tuple #[cdV (atL l m), .int .i64 0] else .tuple #[cdV cdZ, .int .i64 1]) ∧ Below w.heap.size w w'

def AtRel (l : List Sp) (m : Int) (b6 b4 : Nat) (w : World) (x : Value) (wr : World) : Prop :=
  ∃ i : Nat, x = .int .i64 i ∧ i ≤ l.length ∧ wr.heap[b6]? = some (.cells (cdCells ((l.take i).foldl (atStep m) cd0)).toArray 26 (0, 0)) ∧ wr.heap[b4]? = some (.cells (cdCells cdZ).toArray 26 (0, 0)) ∧ Below w.heap.size w wr
def cdI (i : Int) : Cd := ⟨if 0 < i then 1000 else 0, if 1 < i then 1000 else 0, if 2 < i then 1000 else 0, if 3 < i then 1000 else 0, 10, true⟩
def AtIni (b6 b4 : Nat) (w : World) (x : Value) (wr : World) : Prop :=
  ∃ i : Int, x = .int .i64 i ∧ (i = 0 ∨ i = 1 ∨ i = 2 ∨ i = 3 ∨ i = 4) ∧ wr.heap[b6]? = some (.cells (cdCells (cdI i)).toArray 26 (0, 0)) ∧ wr.heap[b4]? = some (.cells (cdCells cdZ).toArray 26 (0, 0)) ∧ Below w.heap.size w wr

theorem heap_set6 (W : World) (g : Nat) (t : TypeId) (o0 o1 o2 o3 o4 o5 a0 a1 a2 a3 a4 a5 : Value) (hb : W.heap[g]? = some (.cells #[o0, o1, o2, o3, o4, o5] t (0, 0))) :
    ((((((W.setCell ⟨g, 0, none⟩ a0).setCell ⟨g, 1, none⟩ a1).setCell ⟨g, 2, none⟩ a2).setCell ⟨g, 3, none⟩ a3).setCell ⟨g, 4, none⟩ a4).setCell ⟨g, 5, none⟩ a5).heap[g]? = some (.cells #[a0, a1, a2, a3, a4, a5] t (0, 0)) := by
  have h0 := heap_setCell_same W g 0 _ t a0 hb
  have h1 := heap_setCell_same _ g 1 _ t a1 h0
  have h2 := heap_setCell_same _ g 2 _ t a2 h1
  have h3 := heap_setCell_same _ g 3 _ t a3 h2
  have h4 := heap_setCell_same _ g 4 _ t a4 h3
  have h5 := heap_setCell_same _ g 5 _ t a5 h4
  exact h5
theorem results_row1 {P : Program} {fn : Func} {p x : Tmp} {ty : TypeId} (h : fn.results = #[.cell p ty, .tmp x]) (tmps : Array Value) (w : World) (g : Nat) (t : TypeId) (cs : Array Value) (fr : Nat × Nat) (d : TypeDesc)
    (hp : tmps.getD p undef = .pointer (some ⟨g, 0, none⟩)) (hg : w.heap[g]? = some (.cells cs t fr))
    (hu : P.underlying ty = some d) (hd : (match d with | .struct _ | .array _ _ => true | _ => false) = true) (hi : (P.info? ty).map (·.size) = some cs.size) :
    (results fn tmps).run P w = .ok (.tuple #[.agg cs, tmps.getD x undef]) w := by
  have hp' : tmps[p]?.getD undef = .pointer (some ⟨g, 0, none⟩) := by simpa using hp
  simp [results, h, hp', asAddr, run_loadVar_row w g t ty cs fr d hg hu hd hi]
theorem info_cd : (Tryd.prog.info? 26).map (·.size) = some 6 := by kernel_rfl
theorem foldl_take_succ (m : Int) (l : List Sp) (i : Nat) (sp : Sp) (h : l[i]? = some sp) : (l.take (i + 1)).foldl (atStep m) cd0 = atStep m ((l.take i).foldl (atStep m) cd0) sp := by
  rw [List.take_add_one, h]; simp
theorem cdRow {W : World} {b : Nat} {C : Cd} (h : W.heap[b]? = some (.cells (cdCells C).toArray 26 (0, 0))) (j : Nat) (v : Value) (C' : Cd) (hC : (cdCells C).toArray.setIfInBounds j v = (cdCells C').toArray) :
    (W.setCell ⟨b, j, none⟩ v).heap[b]? = some (.cells (cdCells C').toArray 26 (0, 0)) := by
  have := heap_setCell_same W b j _ _ v h
  rwa [hC] at this
/-- A spell that is valid has one of the kinds, a cloud one of the quarters. -/
theorem formed_kinds {s : Sp} (h : formedB s = true) : s.k = 1 ∧ (s.q = 0 ∨ s.q = 1 ∨ s.q = 2 ∨ s.q = 3) ∨ s.k = 2 ∨ s.k = 3 := by
  unfold formedB kindOk at h
  split at h
  · left
    refine ⟨by assumption, ?_⟩
    simp [val1] at h
    omega
  · split at h
    · right; left; assumption
    · split at h
      · right; right; assumption
      · simp at h

set_option maxRecDepth 100000 in
set_option maxHeartbeats 4000000 in
theorem at_ok (l : List Sp) (m : Int) (v : Value) (w : World) (hR : ReadRow w 5 v l.length (spFlat l)) (hall : allB l = true) (hm : momB m = true) :
    Calls Tryd.prog 9 #[v, .int .i64 m] w fun e w' => e = .returned (.tuple #[cdV (atL l m), .int .i64 0]) ∧ Below w.heap.size w w' := by
  have HR := Lib.hid hR
  obtain ⟨a, c, rfl, hc1, hc2, _⟩ := hR.slice
  have HA := Lib.hid hall
  have HM := Lib.hid hm
  have hl200 : l.length ≤ 200 := by unfold allB at hall; simp at hall; exact hall.1
  clear hR hall hm
  go_enter Tryd.func9, Tryd.ntmps9
  go_wp2_with fail
  refine (all_any l _ _ (HR.out.below ((Below.refl _ _).alloc (Nat.le_refl _) _))).mono ?_
  rintro e w1 ⟨rfl, B1⟩
  rw [HA.out]
  have h4 := (B1.block w.heap.size (by simp)).trans (heap_alloc_new w _)
  have hz1 : w.heap.size < w1.heap.size := by have := B1.size; simp at this; omega
  have HB1 : Hid (Below w.heap.size w w1) := Lib.hid (((Below.refl _ _).alloc (Nat.le_refl _) _).trans (B1.mono (by simp)))
  clear B1
  go_wp2_with fail
  refine (moment_any m w1).mono ?_
  rintro e w2 ⟨rfl, hw⟩
  rw [hw, HM.out]; clear hw
  go_wp2_with fail
  have HI : Hid (AtIni w1.heap.size w.heap.size w (.int .i64 0) (w1.alloc (.cells #[.int .i64 0, .int .i64 0, .int .i64 0, .int .i64 0, .int .i64 10, .bool true] 26))) :=
    Lib.hid ⟨0, rfl, .inl rfl, heap_alloc_new w1 _, mustKeep h4 _, HB1.out.alloc HB1.out.size _⟩
  generalize w1.alloc (.cells #[.int .i64 0, .int .i64 0, .int .i64 0, .int .i64 0, .int .i64 10, .bool true] 26) = W at HI ⊢
  obtain ⟨b4, hb4⟩ : ∃ b, b = w.heap.size := ⟨_, rfl⟩
  obtain ⟨b6, hb6⟩ : ∃ b, b = w1.heap.size := ⟨_, rfl⟩
  rw [← hb4, ← hb6] at HI hz1
  rw [← hb4, ← hb6]
  have HB := Lib.hid (And.intro hb4 (show w.heap.size ≤ b6 by omega))
  have hne : b4 ≠ b6 := by omega
  have hne' : b6 ≠ b4 := by omega
  clear h4 hb4 hb6 hz1 HB1
  go_loopw [20] (fun x wr => Hid (AtIni b6 b4 w x wr)) (fun x _ => 4 - (intOf x).toNat)
  case atStart => exact HI
  case round =>
    obtain ⟨i, rfl, hi, h6, h4, hbel⟩ := hrel.out
    clear HI W hrel
    rcases hi with rfl | rfl | rfl | rfl | rfl
    · have c6 := (cell_of_row _ _ 0 _ _ _ h6).trans (show _ = some (Value.int .i64 0) from rfl)
      have f6 := frozen_of_row _ _ 0 _ _ h6
      have HH := Lib.hid (And.intro h6 (And.intro h4 hbel)); clear h6 h4 hbel
      go_wp2_with fail
      go_roundw
      case rel => exact Lib.hid ⟨1, rfl, by omega, cdRow HH.out.1 0 _ (cdI 1) rfl, set_keep HH.out.2.1 hne _, HH.out.2.2.setCell (by show w.heap.size ≤ b6; exact HB.out.2) _⟩
      case measure => simp [intOf]
    · have c6 := (cell_of_row _ _ 1 _ _ _ h6).trans (show _ = some (Value.int .i64 0) from rfl)
      have f6 := frozen_of_row _ _ 1 _ _ h6
      have HH := Lib.hid (And.intro h6 (And.intro h4 hbel)); clear h6 h4 hbel
      go_wp2_with fail
      go_roundw
      case rel => exact Lib.hid ⟨2, rfl, by omega, cdRow HH.out.1 1 _ (cdI 2) rfl, set_keep HH.out.2.1 hne _, HH.out.2.2.setCell (by show w.heap.size ≤ b6; exact HB.out.2) _⟩
      case measure => simp [intOf]
    · have c6 := (cell_of_row _ _ 2 _ _ _ h6).trans (show _ = some (Value.int .i64 0) from rfl)
      have f6 := frozen_of_row _ _ 2 _ _ h6
      have HH := Lib.hid (And.intro h6 (And.intro h4 hbel)); clear h6 h4 hbel
      go_wp2_with fail
      go_roundw
      case rel => exact Lib.hid ⟨3, rfl, by omega, cdRow HH.out.1 2 _ (cdI 3) rfl, set_keep HH.out.2.1 hne _, HH.out.2.2.setCell (by show w.heap.size ≤ b6; exact HB.out.2) _⟩
      case measure => simp [intOf]
    · have c6 := (cell_of_row _ _ 3 _ _ _ h6).trans (show _ = some (Value.int .i64 0) from rfl)
      have f6 := frozen_of_row _ _ 3 _ _ h6
      have HH := Lib.hid (And.intro h6 (And.intro h4 hbel)); clear h6 h4 hbel
      go_wp2_with fail
      go_roundw
      case rel => exact Lib.hid ⟨4, rfl, by omega, cdRow HH.out.1 3 _ (cdI 4) rfl, set_keep HH.out.2.1 hne _, HH.out.2.2.setCell (by show w.heap.size ≤ b6; exact HB.out.2) _⟩
      case measure => simp [intOf]
    · have HI2 : Hid (AtRel l m b6 b4 w (.int .i64 0) wr) := Lib.hid ⟨0, rfl, Nat.zero_le _, h6, h4, hbel⟩
      clear h6 h4 hbel
      go_wp2_with fail
      go_loopw [29] (fun x wr => Hid (AtRel l m b6 b4 w x wr)) (fun x _ => l.length - (intOf x).toNat)
      case atStart => exact HI2
      case round =>
        obtain ⟨i, rfl, hi, h6, h4, hbel⟩ := hrel.out
        clear HI2 hrel
        have l6 := (Array.getElem?_eq_some_iff.1 h6).1
        by_cases hlt : i < l.length
        · obtain ⟨sp, hsp⟩ : ∃ sp, l[i]? = some sp := ⟨_, List.getElem?_eq_getElem hlt⟩
          obtain ⟨g, off, c', hv, _, _, hg, c0, c1, c2, c3, c4⟩ := readSp5 (HR.out.below hbel) i sp hsp
          cases hv
          have hfold := foldl_take_succ m l i sp hsp
          generalize (l.take i).foldl (atStep m) cd0 = C at hfold h6
          have hfm : formedB sp = true := by
            have := HA.out
            unfold allB at this
            rw [Bool.and_eq_true, List.all_eq_true] at this
            exact this.2 sp (List.mem_of_getElem? hsp)
          have hkinds := formed_kinds hfm
          have HH := Lib.hid (And.intro h6 (And.intro h4 (And.intro hbel hfold)))
          clear hfold hsp hfm
          cases hin : inF sp m
          · have HIN := Lib.hid hin; clear hin hkinds h6 h4 hbel
            go_wp2_with fail
            refine (within_any _ _ _ _).mono ?_
            rintro e w3 ⟨rfl, hw⟩
            rw [hw, show decide (sp.f ≤ m ∧ m ≤ sp.u) = false from HIN.out]; clear hw
            go_wp2_with fail
            go_roundw
            case rel =>
              refine Lib.hid ⟨i + 1, by simp, by omega, ?_, mustKeep HH.out.2.1 _, HH.out.2.2.1.alloc HH.out.2.2.1.size _⟩
              rw [HH.out.2.2.2]
              have hst : atStep m C sp = C := by unfold atStep; rw [HIN.out]; rfl
              rw [hst]
              exact mustKeep HH.out.1 _
            case measure => simp [intOf]; omega
          · have HIN := Lib.hid hin; clear hin h4 hbel
            obtain ⟨k, q, n, f, u⟩ := sp
            simp only [] at hkinds c0 c1 c2 c3 c4
            rcases hkinds with ⟨rfl, hq⟩ | rfl | rfl
            · rcases hq with rfl | rfl | rfl | rfl
              · have c6 := (cell_of_row _ _ 0 _ _ _ h6).trans (show _ = some (Value.int .i64 C.c0) from rfl)
                have f6 := frozen_of_row _ _ 0 _ _ h6
                clear h6
                go_wp2_with fail
                refine (within_any _ _ _ _).mono ?_
                rintro e w3 ⟨rfl, hw⟩
                rw [hw, show decide (f ≤ m ∧ m ≤ u) = true from HIN.out]; clear hw
                go_wp2_with fail
                go_roundw
                case rel =>
                  refine Lib.hid ⟨i + 1, by simp, by omega, ?_, mustKeep (set_keep HH.out.2.1 hne _) _, (HH.out.2.2.1.setCell (by show w.heap.size ≤ b6; exact HB.out.2) _).alloc (by simp [World.setCell]; exact HH.out.2.2.1.size) _⟩
                  rw [HH.out.2.2.2]
                  have hst : atStep m C ⟨1, 0, n, f, u⟩ = { C with c0 := n } := by unfold atStep; rw [HIN.out]; rfl
                  rw [hst]
                  exact mustKeep (cdRow HH.out.1 0 (.int .i64 n) { C with c0 := n } rfl) _
                case measure => simp [intOf]; omega
              · have c6 := (cell_of_row _ _ 1 _ _ _ h6).trans (show _ = some (Value.int .i64 C.c1) from rfl)
                have f6 := frozen_of_row _ _ 1 _ _ h6
                clear h6
                go_wp2_with fail
                refine (within_any _ _ _ _).mono ?_
                rintro e w3 ⟨rfl, hw⟩
                rw [hw, show decide (f ≤ m ∧ m ≤ u) = true from HIN.out]; clear hw
                go_wp2_with fail
                go_roundw
                case rel =>
                  refine Lib.hid ⟨i + 1, by simp, by omega, ?_, mustKeep (set_keep HH.out.2.1 hne _) _, (HH.out.2.2.1.setCell (by show w.heap.size ≤ b6; exact HB.out.2) _).alloc (by simp [World.setCell]; exact HH.out.2.2.1.size) _⟩
                  rw [HH.out.2.2.2]
                  have hst : atStep m C ⟨1, 1, n, f, u⟩ = { C with c1 := n } := by unfold atStep; rw [HIN.out]; rfl
                  rw [hst]
                  exact mustKeep (cdRow HH.out.1 1 (.int .i64 n) { C with c1 := n } rfl) _
                case measure => simp [intOf]; omega
              · have c6 := (cell_of_row _ _ 2 _ _ _ h6).trans (show _ = some (Value.int .i64 C.c2) from rfl)
                have f6 := frozen_of_row _ _ 2 _ _ h6
                clear h6
                go_wp2_with fail
                refine (within_any _ _ _ _).mono ?_
                rintro e w3 ⟨rfl, hw⟩
                rw [hw, show decide (f ≤ m ∧ m ≤ u) = true from HIN.out]; clear hw
                go_wp2_with fail
                go_roundw
                case rel =>
                  refine Lib.hid ⟨i + 1, by simp, by omega, ?_, mustKeep (set_keep HH.out.2.1 hne _) _, (HH.out.2.2.1.setCell (by show w.heap.size ≤ b6; exact HB.out.2) _).alloc (by simp [World.setCell]; exact HH.out.2.2.1.size) _⟩
                  rw [HH.out.2.2.2]
                  have hst : atStep m C ⟨1, 2, n, f, u⟩ = { C with c2 := n } := by unfold atStep; rw [HIN.out]; rfl
                  rw [hst]
                  exact mustKeep (cdRow HH.out.1 2 (.int .i64 n) { C with c2 := n } rfl) _
                case measure => simp [intOf]; omega
              · have c6 := (cell_of_row _ _ 3 _ _ _ h6).trans (show _ = some (Value.int .i64 C.c3) from rfl)
                have f6 := frozen_of_row _ _ 3 _ _ h6
                clear h6
                go_wp2_with fail
                refine (within_any _ _ _ _).mono ?_
                rintro e w3 ⟨rfl, hw⟩
                rw [hw, show decide (f ≤ m ∧ m ≤ u) = true from HIN.out]; clear hw
                go_wp2_with fail
                go_roundw
                case rel =>
                  refine Lib.hid ⟨i + 1, by simp, by omega, ?_, mustKeep (set_keep HH.out.2.1 hne _) _, (HH.out.2.2.1.setCell (by show w.heap.size ≤ b6; exact HB.out.2) _).alloc (by simp [World.setCell]; exact HH.out.2.2.1.size) _⟩
                  rw [HH.out.2.2.2]
                  have hst : atStep m C ⟨1, 3, n, f, u⟩ = { C with c3 := n } := by unfold atStep; rw [HIN.out]; rfl
                  rw [hst]
                  exact mustKeep (cdRow HH.out.1 3 (.int .i64 n) { C with c3 := n } rfl) _
                case measure => simp [intOf]; omega
            · have c6 := (cell_of_row _ _ 4 _ _ _ h6).trans (show _ = some (Value.int .i64 C.se) from rfl)
              have f6 := frozen_of_row _ _ 4 _ _ h6
              clear h6
              go_wp2_with fail
              refine (within_any _ _ _ _).mono ?_
              rintro e w3 ⟨rfl, hw⟩
              rw [hw, show decide (f ≤ m ∧ m ≤ u) = true from HIN.out]; clear hw
              go_wp2_with fail
              go_roundw
              case rel =>
                refine Lib.hid ⟨i + 1, by simp, by omega, ?_, mustKeep (set_keep HH.out.2.1 hne _) _, (HH.out.2.2.1.setCell (by show w.heap.size ≤ b6; exact HB.out.2) _).alloc (by simp [World.setCell]; exact HH.out.2.2.1.size) _⟩
                rw [HH.out.2.2.2]
                have hst : atStep m C ⟨2, q, n, f, u⟩ = { C with se := n } := by unfold atStep; rw [HIN.out]; rfl
                rw [hst]
                exact mustKeep (cdRow HH.out.1 4 (.int .i64 n) { C with se := n } rfl) _
              case measure => simp [intOf]; omega
            · have c6 := (cell_of_row _ _ 5 _ _ _ h6).trans (show _ = some (Value.bool C.op) from rfl)
              have f6 := frozen_of_row _ _ 5 _ _ h6
              clear h6
              go_wp2_with fail
              refine (within_any _ _ _ _).mono ?_
              rintro e w3 ⟨rfl, hw⟩
              rw [hw, show decide (f ≤ m ∧ m ≤ u) = true from HIN.out]; clear hw
              go_wp2_with fail
              go_roundw
              case rel =>
                refine Lib.hid ⟨i + 1, by simp, by omega, ?_, mustKeep (set_keep HH.out.2.1 hne _) _, (HH.out.2.2.1.setCell (by show w.heap.size ≤ b6; exact HB.out.2) _).alloc (by simp [World.setCell]; exact HH.out.2.2.1.size) _⟩
                rw [HH.out.2.2.2]
                have hst : atStep m C ⟨3, q, n, f, u⟩ = { C with op := false } := by unfold atStep; rw [HIN.out]; rfl
                rw [hst]
                exact mustKeep (cdRow HH.out.1 5 (.bool false) { C with op := false } rfl) _
              case measure => simp [intOf]; omega
        · have hl : i = l.length := by omega
          subst hl
          rw [List.take_length] at h6
          have hC : l.foldl (atStep m) cd0 = atL l m := rfl
          rw [hC] at h6
          generalize hCC : atL l m = C at h6 ⊢
          have HCC := Lib.hid hCC
          clear hC hCC
          have c0 := (cell_of_row _ _ 0 _ _ _ h6).trans (show _ = some (Value.int .i64 C.c0) from rfl)
          have c1 := (cell_of_row _ _ 1 _ _ _ h6).trans (show _ = some (Value.int .i64 C.c1) from rfl)
          have c2 := (cell_of_row _ _ 2 _ _ _ h6).trans (show _ = some (Value.int .i64 C.c2) from rfl)
          have c3 := (cell_of_row _ _ 3 _ _ _ h6).trans (show _ = some (Value.int .i64 C.c3) from rfl)
          have c4 := (cell_of_row _ _ 4 _ _ _ h6).trans (show _ = some (Value.int .i64 C.se) from rfl)
          have c5 := (cell_of_row _ _ 5 _ _ _ h6).trans (show _ = some (Value.bool C.op) from rfl)
          have d0 := (cell_of_row _ _ 0 _ _ _ h4).trans (show _ = some (Value.int .i64 0) from rfl)
          have d1 := (cell_of_row _ _ 1 _ _ _ h4).trans (show _ = some (Value.int .i64 0) from rfl)
          have d2 := (cell_of_row _ _ 2 _ _ _ h4).trans (show _ = some (Value.int .i64 0) from rfl)
          have d3 := (cell_of_row _ _ 3 _ _ _ h4).trans (show _ = some (Value.int .i64 0) from rfl)
          have d4 := (cell_of_row _ _ 4 _ _ _ h4).trans (show _ = some (Value.int .i64 0) from rfl)
          have d5 := (cell_of_row _ _ 5 _ _ _ h4).trans (show _ = some (Value.bool false) from rfl)
          have f0 := frozen_of_row _ _ 0 _ _ h4
          have f1 := frozen_of_row _ _ 1 _ _ h4
          have f2 := frozen_of_row _ _ 2 _ _ h4
          have f3 := frozen_of_row _ _ 3 _ _ h4
          have f4 := frozen_of_row _ _ 4 _ _ h4
          have f5 := frozen_of_row _ _ 5 _ _ h4
          have HH := Lib.hid (And.intro h4 hbel); clear h6 h4 hbel
          go_wp2_with fail
          refine bodyPost_ret (results_row1 rfl _ _ b4 26 _ (0, 0) _ rfl (heap_set6 _ _ _ _ _ _ _ _ _ _ _ _ _ _ _ HH.out.1) Tryd.underlying26 rfl (by exact info_cd)) rfl ⟨?_, ?_⟩
          · rw [HCC.out]; rfl
          · have hs := HB.out.1
            exact (((((HH.out.2.setCell (by show _ ≤ b4; omega) _).setCell (by show _ ≤ b4; omega) _).setCell (by show _ ≤ b4; omega) _).setCell (by show _ ≤ b4; omega) _).setCell (by show _ ≤ b4; omega) _).setCell (by show _ ≤ b4; omega) _
end Go.Proofs.YtedddaojcknemaaDoor
