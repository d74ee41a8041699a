import Derived.Test.YtedddaojcknemaaDoorProg
import Derived.Test.YtedddaojcknemaaDoorLexPure
import Derived.WalkKit
import Derived.Handy
import Derived.BigQuiet
import Derived.Deep.QuietTactic
import Derived.WalkLawsBesides
import Derived.WalkSpells
import Derived.Lib.Hide
namespace Go.Proofs.YtedddaojcknemaaDoor
open Go.RowKit

/-- The class of the byte at a place; 0 behind the end. -/
def clsAt (s : ByteArray) (i : Int) : Int := if h : i.toNat < s.size then (Lx.cls (s[i.toNat]'h).toNat : Int) else 0

/-- A scanner at block b: its text and the classes of bytes. -/
structure IsScan (w : World) (b : Nat) (s : ByteArray) : Prop where
  text : w.cell? ⟨b, 0, none⟩ = some (.string s)
  cls : ∀ c : Nat, c < 256 → w.cell? ⟨b, 1 + c, none⟩ = some (.int .i64 (Lx.cls c))

theorem at_end (s : ByteArray) (b : Nat) (i : Int) (w : World) (hs : IsScan w b s) (h : (s.size : Int) ≤ i) :
    Calls Tryd.prog 58 #[.pointer (some ⟨b, 0, none⟩), .int .i64 i] w fun e w' => e = .returned (.int .i64 (clsAt s i)) ∧ w = w' := by
  have ht := hs.text
  have hc : clsAt s i = 0 := by unfold clsAt; rw [dif_neg (by omega)]
  rw [hc]; clear hc hs
  go_enter Tryd.func58, Tryd.ntmps58
  go_wp2
  go_ret
  exact ⟨rfl, rfl⟩

theorem at_in (s : ByteArray) (b : Nat) (i : Nat) (w : World) (hs : IsScan w b s) (h : i < s.size) (_hm : s.size ≤ 9223372036854775807) :
    Calls Tryd.prog 58 #[.pointer (some ⟨b, 0, none⟩), .int .i64 i] w fun e w' => e = .returned (.int .i64 (clsAt s i)) ∧ ∃ n, w' = w.drewN n := by
  have ht := hs.text
  have hk := hs.cls s[i].toNat (by have := s[i].toNat_lt; omega)
  have hc : clsAt s i = Lx.cls (s[i].toNat) := by unfold clsAt; rw [dif_pos (by simpa using h)]; rfl
  rw [hc]; clear hc hs
  have hp : ¬ ((s.size : Int) ≤ (i : Int)) := by omega
  have hb : ((s[i].toNat : Nat) : Int) < 256 := by have := s[i].toNat_lt; omega
  have hb0 : (0 : Int) ≤ ((s[i].toNat : Nat) : Int) := by omega
  go_enter Tryd.func58, Tryd.ntmps58
  go_wp2
  go_quiet (fail)
  go_wp2
  go_ret
  exact ⟨rfl, nq, rfl⟩

theorem at_any (s : ByteArray) (b : Nat) (i : Int) (w : World) (hs : IsScan w b s) (h0 : 0 ≤ i) (hm : s.size ≤ 9223372036854775807) :
    Calls Tryd.prog 58 #[.pointer (some ⟨b, 0, none⟩), .int .i64 i] w fun e w' => e = .returned (.int .i64 (clsAt s i)) ∧ ∃ n, w' = w.drewN n := by
  by_cases h : (s.size : Int) ≤ i
  · exact (at_end s b i w hs h).mono fun e w' ⟨h1, h2⟩ => ⟨h1, 0, h2 ▸ rfl⟩
  · obtain ⟨j, rfl⟩ := Int.eq_ofNat_of_zero_le h0
    exact at_in s b j w hs (by omega) hm

/-! The table of classes. -/
def tabCells (f : Nat → Int) : Array Value := ((List.range 256).map fun c => Value.int .i64 (f c)).toArray
def upd (f : Nat → Int) (c : Nat) (v : Int) : Nat → Int := fun x => if x = c then v else f x
def setAll (k : Int) : List UInt8 → (Nat → Int) → Nat → Int
  | [], f => f
  | c :: r, f => setAll k r (upd f c.toNat k)
theorem setAll_snoc (k : Int) (l : List UInt8) (c : UInt8) (f : Nat → Int) : setAll k (l ++ [c]) f = upd (setAll k l f) c.toNat k := by
  induction l generalizing f with
  | nil => rfl
  | cons a r ih => exact ih _
theorem tab_size (f : Nat → Int) : (tabCells f).size = 256 := by simp [tabCells]
theorem tab_get (f : Nat → Int) (c : Nat) (h : c < 256) : (tabCells f)[c]? = some (.int .i64 (f c)) := by simp [tabCells, h]
theorem tab_cell {w : World} {b : Nat} {f : Nat → Int} {t : TypeId} (hb : w.heap[b]? = some (.cells (tabCells f) t (0, 0))) (c : Nat) (h : c < 256) : w.cell? ⟨b, c, none⟩ = some (.int .i64 (f c)) := by
  simp [World.cell?, hb, tab_get f c h]
theorem tab_free {w : World} {b : Nat} {f : Nat → Int} {t : TypeId} (hb : w.heap[b]? = some (.cells (tabCells f) t (0, 0))) (c : Nat) : w.frozen? ⟨b, c, none⟩ = false := by
  simp [World.frozen?, hb]
theorem tab_upd (f : Nat → Int) (c : Nat) (v : Int) (h : c < 256) : (tabCells f).setIfInBounds c (.int .i64 v) = tabCells (upd f c v) := by
  apply Array.ext_getElem?
  intro i
  rw [Array.getElem?_setIfInBounds]
  by_cases hi : i < 256
  · rw [tab_get _ _ hi, tab_get _ _ hi, tab_size]
    by_cases hc : c = i
    · subst hc; simp [upd, h]
    · simp [upd, hc, Ne.symm hc]
  · have h1 : ∀ g, (tabCells g)[i]? = none := fun g => by simp [tabCells]; omega
    rw [h1, h1, if_neg (by omega)]
theorem tab_set {w : World} {b : Nat} {f : Nat → Int} {t : TypeId} (hb : w.heap[b]? = some (.cells (tabCells f) t (0, 0))) (c : Nat) (h : c < 256) (v : Int) :
    (w.setCell ⟨b, c, none⟩ (.int .i64 v)).heap[b]? = some (.cells (tabCells (upd f c v)) t (0, 0)) := by
  simp [World.setCell, Array.getElem?_modify, hb, tab_upd f c v h]
theorem grown_set {w wr : World} {row : Option Nat} (h : w.grownBy wr row) (a : Addr) (v : Value) (ha : some a.block = row) : w.grownBy (wr.setCell a v) row :=
  ⟨h.os, h.tape, h.output, by simpa [World.setCell] using h.size, fun k hk hne => by
    rw [← h.block k hk hne]
    exact Below.heap_setCell wr a v k (fun e => hne (by rw [e]; exact ha))⟩
theorem grown_refl (w : World) (row : Option Nat) : w.grownBy w row := ⟨rfl, rfl, rfl, Nat.le_refl _, fun _ _ _ => rfl⟩
theorem take_snoc' (s : ByteArray) (k : Nat) (h : k < s.size) : s.data.toList.take (k + 1) = s.data.toList.take k ++ [s[k]] := by
  rw [List.take_succ_eq_append_getElem (by simpa using h)]; rfl

theorem set_any (s : ByteArray) (k : Int) (bo : Nat) (f : Nat → Int) (t : TypeId) (w : World) (hm : s.size ≤ 9223372036854775807)
    (hb : w.heap[bo]? = some (.cells (tabCells f) t (0, 0))) :
    Calls Tryd.prog 56 #[.string s, .int .i64 k, .pointer (some ⟨bo, 0, none⟩)] w fun e w' =>
      e = .returned (.tuple #[]) ∧ w'.heap[bo]? = some (.cells (tabCells (setAll k s.data.toList f)) t (0, 0)) ∧ w.grownBy w' (some bo) := by
  have Hb := Lib.hid hb; clear hb
  go_enter Tryd.func56, Tryd.ntmps56
  go_wp2
  go_loopw [5] (fun i wr => ∃ j : Nat, j ≤ s.size ∧ i = .int .i64 j ∧ wr.heap[bo]? = some (.cells (tabCells (setAll k (s.data.toList.take j) f)) t (0, 0)) ∧ w.grownBy wr (some bo))
    (fun i _ => s.size - (intOf i).toNat)
  case atStart => exact ⟨0, Nat.zero_le _, rfl, by simpa [setAll] using Hb.out, grown_refl _ _⟩
  case round =>
    obtain ⟨j, hj, rfl, hbr, hgr⟩ := hrel
    by_cases hlt : j < s.size
    · have hts := take_snoc' s j hlt
      have hb2 : ((s[j].toNat : Nat) : Int) < 256 := by have := s[j].toNat_lt; omega
      have hb0 : (0 : Int) ≤ ((s[j].toNat : Nat) : Int) := by omega
      have hcl := tab_cell hbr s[j].toNat (by omega)
      have hfr := tab_free hbr s[j].toNat
      have hset := tab_set hbr s[j].toNat (by omega) k
      rw [← setAll_snoc, ← hts] at hset
      have HS := Lib.hid hset
      have HG := Lib.hid hgr
      clear hts hset hbr hgr
      go_wp2
      go_roundw
      case rel => exact ⟨j + 1, by omega, by go_num, HS.out, grown_set HG.out _ _ rfl⟩
      case measure => simp [intOf]; omega
    · have HS := Lib.hid hbr
      have HG := Lib.hid hgr
      clear hbr hgr
      go_wp2
      go_end0
      refine ⟨rfl, ?_, HG.out⟩
      have := HS.out
      rwa [List.take_of_length_le (by simp; omega)] at this
end Go.Proofs.YtedddaojcknemaaDoor
