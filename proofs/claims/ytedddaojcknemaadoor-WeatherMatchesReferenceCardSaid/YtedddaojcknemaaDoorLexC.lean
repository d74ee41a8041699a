import Derived.Test.YtedddaojcknemaaDoorLexB
import Derived.Test.YtedddaojcknemaaDoorShelf
namespace Go.Proofs.YtedddaojcknemaaDoor
open Go.RowKit

/-! Drawn worlds. -/
theorem drewN_add (w : World) (m n : Nat) : (w.drewN m).drewN n = w.drewN (m + n) := World.drewN_drewN ..
theorem below_drewN' {B : Nat} {w W : World} (h : Below B w W) (n : Nat) : Below B w (W.drewN n) := ⟨h.os, h.tape, h.output, h.size, h.block⟩
theorem IsScan.drewN {w : World} {b : Nat} {s : ByteArray} (h : IsScan w b s) (n : Nat) : IsScan (w.drewN n) b s := ⟨h.text, h.cls⟩
theorem IsScan.below {w W : World} {b : Nat} {s : ByteArray} (h : IsScan w b s) (hb : Below w.heap.size w W) : IsScan W b s := by
  have hlt := World.block_lt_of_cell? w _ h.text
  exact ⟨(hb.cell (p := ⟨b, 0, none⟩) hlt).trans h.text, fun c hc => (hb.cell (p := ⟨b, 1 + c, none⟩) hlt).trans (h.cls c hc)⟩

theorem clsAt_nat (s : ByteArray) (j : Nat) (h : j < s.size) : clsAt s j = Lx.cls (s[j].toNat) := by unfold clsAt; rw [dif_pos (by simpa using h)]; rfl
theorem drop_cons' (s : ByteArray) (j : Nat) (h : j < s.size) : s.data.toList.drop j = s[j] :: s.data.toList.drop (j + 1) := by
  rw [List.drop_eq_getElem_cons (by simpa using h)]; rfl
theorem drop_end (s : ByteArray) (j : Nat) (h : s.size ≤ j) : s.data.toList.drop j = [] := List.drop_of_length_le (by simpa using h)

/-- Classes as a list of numbers that the variadic call gives. -/
def inKs (zs : List Int) (k : Nat) : Bool := zs.contains (k : Int)
theorem run_yes (zs : List Int) (s : ByteArray) (j : Nat) (h : j < s.size) (hc : zs.contains (clsAt s j) = true) : Lx.run (inKs zs) (s.data.toList.drop j) = Lx.run (inKs zs) (s.data.toList.drop (j + 1)) + 1 := by
  rw [drop_cons' s j h, Lx.run, if_pos]; rw [clsAt_nat s j h] at hc; exact hc
theorem run_no (zs : List Int) (s : ByteArray) (j : Nat) (h : j < s.size) (hc : zs.contains (clsAt s j) = false) : Lx.run (inKs zs) (s.data.toList.drop j) = 0 := by
  rw [drop_cons' s j h, Lx.run, if_neg]; rw [clsAt_nat s j h] at hc; exact fun e => by rw [show inKs zs (Lx.cl s[j]) = zs.contains ((Lx.cls s[j].toNat : Nat) : Int) from rfl, hc] at e; cases e
theorem run_end (zs : List Int) (s : ByteArray) (j : Nat) (h : s.size ≤ j) : Lx.run (inKs zs) (s.data.toList.drop j) = 0 := by rw [drop_end s j h]; rfl

set_option maxHeartbeats 400000 in
theorem while_any (s : ByteArray) (b bk n c : Nat) (zs : List Int) (i : Nat) (w : World) (hs : IsScan w b s) (hm : s.size ≤ 140737488351232) (hzl : n ≤ zs.length) (hn : n ≤ 9223372036854775807)
    (hz : ∀ j, j < zs.length → w.cell? ⟨bk, 0 + j, none⟩ = some (.int .i64 (zs.getD j 0))) (hi : i ≤ s.size) :
    Calls Tryd.prog 57 #[.pointer (some ⟨b, 0, none⟩), .int .i64 i, .slice (some ⟨bk, 0, none⟩) n c] w fun e w' =>
      e = .returned (.int .i64 ((i + Lx.run (inKs (zs.take n)) (s.data.toList.drop i) : Nat) : Int)) ∧ ∃ m, w' = w.drewN m := by
  have Hz := Lib.hid hz; clear hz
  have Hs := Lib.hid hs; clear hs
  go_enter Tryd.func57, Tryd.ntmps57
  go_wp2
  go_loopw [1] (fun x wr => ∃ j m : Nat, i ≤ j ∧ j ≤ s.size ∧ x = .int .i64 j ∧ wr = w.drewN m ∧ Hid (Lx.run (inKs (zs.take n)) (s.data.toList.drop i) + i = Lx.run (inKs (zs.take n)) (s.data.toList.drop j) + j))
    (fun x _ => s.size - (intOf x).toNat)
  case atStart => exact ⟨i, 0, Nat.le_refl _, hi, rfl, rfl, Lib.hid rfl⟩
  case round =>
    obtain ⟨j, m, hij, hj, rfl, rfl, HR⟩ := hrel
    have ht : (w.drewN m).cell? ⟨b, 0, none⟩ = some (.string s) := Hs.out.text
    by_cases hlt : j < s.size
    · go_wp2_with fail
      refine (at_any s b j _ (Hs.out.drewN m) (by omega) (by omega)).mono ?_
      rintro e w1 ⟨rfl, m1, rfl⟩
      rw [drewN_add]
      go_wp2_with fail
      refine (Tryd.slices_Contains_int bk 0 n c zs _ (w.drewN (m + m1)) hzl hn (fun k hk => Hz.out k hk)).mono ?_
      rintro e w1 ⟨rfl, rfl⟩
      cases hc : (zs.take n).contains (clsAt s j)
      · have hno := Lib.hid (run_no _ s j hlt hc); clear hc
        go_wp2
        go_ret
        have e : i + Lx.run (inKs (zs.take n)) (s.data.toList.drop i) = j := by have := HR.out; have := hno.out; omega
        rw [e]
        exact ⟨rfl, _, rfl⟩
      · have hyes := Lib.hid (run_yes _ s j hlt hc); clear hc
        go_wp2
        go_roundw
        case rel => exact ⟨j + 1, m + m1, by omega, by omega, by go_num, rfl, Lib.hid (by have := HR.out; have := hyes.out; omega)⟩
        case measure => simp [intOf]; omega
    · have hno := Lib.hid (run_end (zs.take n) s j (by omega))
      go_wp2
      go_ret
      have e : i + Lx.run (inKs (zs.take n)) (s.data.toList.drop i) = j := by have := HR.out; have := hno.out; omega
      rw [e]
      exact ⟨rfl, _, rfl⟩
end Go.Proofs.YtedddaojcknemaaDoor
