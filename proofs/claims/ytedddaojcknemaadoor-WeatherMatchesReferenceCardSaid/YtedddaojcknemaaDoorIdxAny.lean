import Derived.Test.YtedddaojcknemaaDoorShelf
import Derived.WalkKit
import Derived.Handy
import Derived.BigQuiet
import Derived.Deep.QuietTactic
import Derived.WalkLawsBesides
import Derived.WalkSpells
import Derived.Lib.Hide
import Derived.Lib.OthersKept
import Derived.Lib.IndexAny
import Derived.Laws.Runes
namespace Go.Proofs.YtedddaojcknemaaDoor
open Go.RowKit

theorem below_drewN2 {B : Nat} {w W : World} (h : Below B w W) (n : Nat) : Below B w (W.drewN n) := ⟨h.os, h.tape, h.output, h.size, h.block⟩
/-- A quote and a line feed. -/
def qlf : ByteArray := ⟨#[34, 10]⟩

set_option maxRecDepth 100000 in
set_option maxHeartbeats 2000000 in
theorem indexRune_err (w : World) :
    Calls Tryd.prog 73 #[.string ⟨#[34, 10]⟩, .int .i32 65533] w fun e w' => e = .returned (.int .i64 (-1)) ∧ Below w.heap.size w w' := by
  have n0 : ∀ ty, (Instr.next (.pointer (some ⟨w.heap.size, 0, none⟩)) true ty).run Tryd.prog (w.iter ⟨#[34, 10]⟩ 0) = .ok (.tuple #[.bool true, .int .i64 0, .int .i32 34]) (w.iter ⟨#[34, 10]⟩ 1) := fun ty => run_next_ascii w ⟨#[34, 10]⟩ 0 ty (by decide) (by decide)
  have n1 : ∀ ty, (Instr.next (.pointer (some ⟨w.heap.size, 0, none⟩)) true ty).run Tryd.prog (w.iter ⟨#[34, 10]⟩ 1) = .ok (.tuple #[.bool true, .int .i64 1, .int .i32 10]) (w.iter ⟨#[34, 10]⟩ 2) := fun ty => run_next_ascii w ⟨#[34, 10]⟩ 1 ty (by decide) (by decide)
  have n2 : ∀ ty, (Instr.next (.pointer (some ⟨w.heap.size, 0, none⟩)) true ty).run Tryd.prog (w.iter ⟨#[34, 10]⟩ 2) = .ok (.tuple #[.bool false]) (w.iter ⟨#[34, 10]⟩ 2) := fun ty => run_next_end w ⟨#[34, 10]⟩ 2 ty (by decide)
  go_enter Tryd.func73, Tryd.ntmps73
  go_wp2
  refine wp_loop_rounds 3 ?_
  rw [rounds_succ]
  go_wp2
  rw [rounds_succ]
  go_wp2
  rw [rounds_succ]
  go_wp2
  go_ret
  exact ⟨rfl, (Below.refl _ _).alloc (Nat.le_refl _) _⟩

set_option maxRecDepth 100000 in
set_option maxHeartbeats 2000000 in
theorem indexRune_bad (r : Int) (w : World) (h0 : 128 ≤ r) (h1 : r ≤ 2147483647) (hr : ¬ r = 65533) (hv : Lib.validRune r = false) :
    Calls Tryd.prog 73 #[.string ⟨#[34, 10]⟩, .int .i32 r] w fun e w' => e = .returned (.int .i64 (-1)) ∧ Below w.heap.size w w' := by
  go_enter Tryd.func73, Tryd.ntmps73
  go_wp2_with (go_at_call 89; refine (Tryd.utf8_ValidRune _ _).mono ?_; rintro e w' ⟨rfl, hw⟩; subst hw)
  go_ret
  exact ⟨rfl, Below.refl _ _⟩

set_option maxRecDepth 100000 in
set_option maxHeartbeats 2000000 in
theorem indexRune_good (r : Int) (w : World) (h0 : 128 ≤ r) (h1 : r ≤ 2147483647) (hr : ¬ r = 65533) (hv : Lib.validRune r = true) :
    Calls Tryd.prog 73 #[.string ⟨#[34, 10]⟩, .int .i32 r] w fun e w' => e = .returned (.int .i64 (-1)) ∧ Below w.heap.size w w' := by
  obtain ⟨k1, k2, k3⟩ := encode_facts r (by rw [validRune_eq]; exact hv) h0
  by_cases hsz : (Utf8.encode r).size = 2
  · have hb : ∀ h : 1 < (Utf8.encode r).size, 128 ≤ ((Utf8.encode r)[1]'h).toNat := fun h => by
      have := k3 (by omega)
      simpa [hsz] using this
    have hi := hb (by omega)
    have hne : (((((⟨#[34, 10]⟩ : ByteArray)[1]'(by decide)).toNat : Nat) : Int) != (((Utf8.encode r)[1]'(by omega)).toNat : Int)) = true := by
      rw [bne_iff_ne, show (((⟨#[34, 10]⟩ : ByteArray)[1]'(by decide)).toNat) = 10 from rfl]; omega
    clear k3 hb
    have hw2 : IntKind.i64.wrap 2 = 2 := by decide
    go_enter Tryd.func73, Tryd.ntmps73
    go_wp2_with (go_at_call 89; refine (Tryd.utf8_ValidRune _ _).mono ?_; rintro e w' ⟨rfl, hw⟩; subst hw)
    go_step3
    go_wp2
    refine wp_loop_rounds 1 ?_
    rw [rounds_succ]
    go_wp2
    go_step3
    go_wp2
    go_quiet (fail)
    go_wp2
    obtain ⟨W, hW⟩ : ∃ W, W = w'.drewN nq := ⟨_, rfl⟩
    rw [← hW]
    have HW := Lib.hid hW; clear hW
    go_quiet ((go_at_call 59; exact Calls.quiet_of_same (Tryd.strings_IndexByte _ _ _)))
    have he : Lib.indexByte [] ((Utf8.encode r)[1]'(by omega)) = -1 := rfl
    go_wp2
    rw [Exit.noGoto_ret]
    simp only [Exit.inBlock, Exit.then]
    rw [Exit.noGoto_ret]
    go_ret
    exact ⟨rfl, by rw [HW.out]; exact below_drewN2 (below_drewN2 (Below.refl _ _) _) _⟩
  · clear k3
    go_enter Tryd.func73, Tryd.ntmps73
    go_wp2_with (go_at_call 89; refine (Tryd.utf8_ValidRune _ _).mono ?_; rintro e w' ⟨rfl, hw⟩; subst hw)
    go_step3
    go_wp2
    refine wp_loop_rounds 1 ?_
    rw [rounds_succ]
    go_wp2
    rw [Exit.noGoto_ret]
    go_ret
    exact ⟨rfl, Below.refl _ _⟩

theorem indexRune_high (r : Int) (w : World) (h0 : 128 ≤ r) (h1 : r ≤ 2147483647) :
    Calls Tryd.prog 73 #[.string ⟨#[34, 10]⟩, .int .i32 r] w fun e w' => e = .returned (.int .i64 (-1)) ∧ Below w.heap.size w w' := by
  by_cases hr : r = 65533
  · subst hr; exact indexRune_err w
  · cases hv : Lib.validRune r
    · exact indexRune_bad r w h0 h1 hr hv
    · exact indexRune_good r w h0 h1 hr hv

theorem get_plus (s : ByteArray) (k : Nat) (h : k < s.size) : s.get! k = s[k]'h := by
  simp [ByteArray.get!, getElem!_pos, h]; rfl
/-- The bytes behind a rune's first one are none below 128. -/
theorem decode_conts (s : ByteArray) (i k : Nat) (hk : 1 ≤ k) (hk2 : k < (Utf8.decode s i).2) : ∃ h : i + k < s.size, 128 ≤ (s[i + k]'h).toNat := by
  have key : ∀ j, (decide (i + j < s.size) && (s.get! (i + j)).toNat / 64 == 2) = true → ∃ h : i + j < s.size, 128 ≤ (s[i + j]'h).toNat := by
    intro j hj
    rw [Bool.and_eq_true, decide_eq_true_eq] at hj
    refine ⟨hj.1, ?_⟩
    have := hj.2
    rw [get_plus s _ hj.1] at this
    have h2 : (s[i + j]'hj.1).toNat / 64 = 2 := by simpa using this
    omega
  unfold Utf8.decode at hk2
  simp only [] at hk2
  split at hk2
  · simp at hk2; omega
  · split at hk2
    · rename_i h1
      have hc1 := key 1 (by simp only [Bool.and_eq_true] at h1 ⊢; exact h1.2)
      have : k = 1 := by split at hk2 <;> simp at hk2 <;> omega
      subst this; exact hc1
    · split at hk2
      · rename_i h1
        simp only [Bool.and_eq_true] at h1
        have hc1 := key 1 (by simp only [Bool.and_eq_true]; exact h1.1.2)
        have hc2 := key 2 (by simp only [Bool.and_eq_true]; exact h1.2)
        have : k = 1 ∨ k = 2 := by split at hk2 <;> simp at hk2 <;> omega
        rcases this with rfl | rfl
        · exact hc1
        · exact hc2
      · split at hk2
        · rename_i h1
          simp only [Bool.and_eq_true] at h1
          have hc1 := key 1 (by simp only [Bool.and_eq_true]; exact h1.1.1.2)
          have hc2 := key 2 (by simp only [Bool.and_eq_true]; exact h1.1.2)
          have hc3 := key 3 (by simp only [Bool.and_eq_true]; exact h1.2)
          have : k = 1 ∨ k = 2 ∨ k = 3 := by split at hk2 <;> simp at hk2 <;> omega
          rcases this with rfl | rfl | rfl
          · exact hc1
          · exact hc2
          · exact hc3
        · simp at hk2; omega

theorem noAny_wide (s : ByteArray) (i : Nat) (hi : i < s.size) (hh : 128 ≤ (s[i]'hi).toNat) (h : Lib.NoAny s.data.toList [34, 10] i) : Lib.NoAny s.data.toList [34, 10] (i + (Utf8.decode s i).2) := by
  intro j b hj hb
  by_cases hlt : j < i
  · exact h j b hlt hb
  · have hbig : 128 ≤ b.toNat := by
      obtain ⟨k, rfl⟩ : ∃ k, j = i + k := ⟨j - i, by omega⟩
      rcases Nat.eq_zero_or_pos k with h0 | h0
      · subst h0
        have : s.data.toList[i + 0]? = some (s[i]'hi) := Lib.data_getElem? s i hi
        rw [this] at hb; cases hb; exact hh
      · obtain ⟨h1, h2⟩ := decode_conts s i k h0 (by omega)
        have : s.data.toList[i + k]? = some (s[i + k]'h1) := Lib.data_getElem? s (i + k) h1
        rw [this] at hb; cases hb; exact h2
    have e1 : b ≠ 34 := by rintro rfl; revert hbig; decide
    have e2 : b ≠ 10 := by rintro rfl; revert hbig; decide
    simp [e1, e2]
theorem decode_width_le (s : ByteArray) (i : Nat) (hi : i < s.size) : i + (Utf8.decode s i).2 ≤ s.size := by
  rcases Nat.lt_or_ge 1 (Utf8.decode s i).2 with h | h
  · obtain ⟨h1, _⟩ := decode_conts s i ((Utf8.decode s i).2 - 1) (by omega) (by omega)
    omega
  · omega
end Go.Proofs.YtedddaojcknemaaDoor
