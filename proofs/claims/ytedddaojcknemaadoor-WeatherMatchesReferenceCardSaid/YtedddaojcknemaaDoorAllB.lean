/- weather.Moon, Background, At: walked. -/
import Derived.Test.YtedddaojcknemaaDoorAllA
namespace Go.Proofs.YtedddaojcknemaaDoor
open Go.RowKit

def nightB (n : Int) : Bool := decide (0 ≤ n ∧ n ≤ 399)
def moonL (n : Int) : Int := 1000 * min (n % 30) (30 - n % 30) / 15
def MoonPost (n : Int) (w : World) (e : Ending) (w' : World) : Prop :=
  e = .returned (if nightB n then .tuple #[.int .i64 (moonL n), .int .i64 (n % 32), .int .i64 0] else .tuple #[.int .i64 0, .int .i64 0, .int .i64 1]) ∧ w' = w

set_option maxRecDepth 100000 in
theorem moon_any (n : Int) (w : World) : Calls Tryd.prog 11 #[.int .i64 n] w (MoonPost n w) := by
  unfold MoonPost
  cases hb : nightB n
  · have hb' : decide (0 ≤ n ∧ n ≤ 399) = false := hb
    clear hb
    have HB := Lib.hid hb'; clear hb'
    go_enter Tryd.func11, Tryd.ntmps11
    go_wp2_with fail
    refine (within_any _ _ _ _).mono ?_
    rintro e w' ⟨rfl, hw⟩
    rw [hw, HB.out]; clear hw
    go_wp2_with fail
    go_ret3
    exact ⟨rfl, rfl⟩
  · have hb' : decide (0 ≤ n ∧ n ≤ 399) = true := hb
    have hr : 0 ≤ n ∧ n ≤ 399 := of_decide_eq_true hb'
    clear hb
    have HB := Lib.hid hb'; clear hb'
    have hn1 := hr.1
    have hn2 := hr.2
    clear hr
    go_enter Tryd.func11, Tryd.ntmps11
    go_wp2_with fail
    refine (within_any _ _ _ _).mono ?_
    rintro e w' ⟨rfl, hw⟩
    rw [hw, HB.out]; clear hw
    go_wp2_with fail
    all_goals
      go_ret3
      exact ⟨rfl, rfl⟩

theorem wrap64_id {x : Int} (h1 : -9223372036854775808 ≤ x) (h2 : x ≤ 9223372036854775807) : wrap64 x = x := by
  unfold wrap64; omega
theorem moonL_range (n : Int) : 0 ≤ moonL n ∧ moonL n ≤ 1000 := by unfold moonL; omega
def tileB (n : Int) : Bool := decide (0 ≤ n ∧ n ≤ 511)
def backL (night tile : Int) : Int := moonL night * (16 - min (max (tile % 32 - night % 32) (night % 32 - tile % 32)) (32 - max (tile % 32 - night % 32) (night % 32 - tile % 32))) / 1600
def BackPost (n t : Int) (w : World) (e : Ending) (w' : World) : Prop :=
  e = .returned (if nightB n && tileB t then .tuple #[.int .i64 (backL n t), .int .i64 0] else .tuple #[.int .i64 0, .int .i64 1]) ∧ w' = w

set_option maxRecDepth 100000 in
set_option maxHeartbeats 1000000 in
theorem back_any (n t : Int) (w : World) : Calls Tryd.prog 12 #[.int .i64 n, .int .i64 t] w (BackPost n t w) := by
  unfold BackPost
  cases hb : nightB n
  · have HB := Lib.hid hb; clear hb
    go_enter Tryd.func12, Tryd.ntmps12
    go_wp2_with fail
    refine (moon_any n w).mono ?_
    rintro e w' ⟨he, hw⟩
    rw [HB.out] at he
    obtain rfl := he
    rw [hw]; clear hw
    simp only [Bool.false_eq_true, if_false]
    go_wp2_with fail
    go_ret2
    exact ⟨rfl, rfl⟩
  · have HB := Lib.hid hb; clear hb
    cases ht : tileB t
    · have HT := Lib.hid ht; clear ht
      go_enter Tryd.func12, Tryd.ntmps12
      go_wp2_with fail
      refine (moon_any n w).mono ?_
      rintro e w' ⟨he, hw⟩
      rw [HB.out] at he
      obtain rfl := he
      rw [hw]; clear hw
      simp only [if_true]
      go_wp2_with fail
      refine (within_any _ _ _ _).mono ?_
      rintro e w' ⟨rfl, hw⟩
      rw [hw, show decide (0 ≤ t ∧ t ≤ 511) = false from HT.out]; clear hw
      go_wp2_with fail
      go_ret2
      exact ⟨rfl, rfl⟩
    · have HT := Lib.hid ht; clear ht
      have hn : 0 ≤ n ∧ n ≤ 399 := of_decide_eq_true HB.out
      have ht' : 0 ≤ t ∧ t ≤ 511 := of_decide_eq_true HT.out
      obtain ⟨hn1, hn2⟩ := hn
      obtain ⟨ht1, ht2⟩ := ht'
      go_enter Tryd.func12, Tryd.ntmps12
      go_wp2_with fail
      refine (moon_any n w).mono ?_
      rintro e w' ⟨he, hw⟩
      rw [HB.out] at he
      obtain rfl := he
      rw [hw]; clear hw
      simp only [if_true]
      obtain ⟨b, hbb⟩ : ∃ b, b = moonL n := ⟨_, rfl⟩
      have hbr := moonL_range n
      rw [← hbb] at hbr ⊢
      obtain ⟨c, hc⟩ : ∃ c, c = n % 32 := ⟨_, rfl⟩
      have hcr : 0 ≤ c ∧ c < 32 := by omega
      rw [← hc]
      have HBB := Lib.hid (And.intro hbb hc); clear hbb hc
      obtain ⟨hb1, hb2⟩ := hbr
      obtain ⟨hc1, hc2⟩ := hcr
      go_wp2_with fail
      refine (within_any _ _ _ _).mono ?_
      rintro e w' ⟨rfl, hw⟩
      rw [hw, show decide (0 ≤ t ∧ t ≤ 511) = true from HT.out]; clear hw
      go_wp2_with fail
      all_goals
        go_ret2
        refine ⟨?_, rfl⟩
        obtain ⟨x, hx⟩ : ∃ x, x = 16 - min (max (t % 32 - c) (c - t % 32)) (32 - max (t % 32 - c) (c - t % 32)) := ⟨_, rfl⟩
        have hxr : 0 ≤ x ∧ x ≤ 16 := by omega
        have hp0 : 0 ≤ b * x := Int.mul_nonneg hb1 hxr.1
        have hp1 : b * x ≤ 1000 * 16 := Int.mul_le_mul hb2 hxr.2 hxr.1 (by omega)
        have hw1 : wrap64 (b * x) = b * x := wrap64_id (by omega) (by omega)
        have hw2 : wrap64 ((b * x).tdiv 1600) = b * x / 1600 := by
          rw [Int.tdiv_eq_ediv_of_nonneg hp0]
          exact wrap64_id (by omega) (by omega)
        have hbl : backL n t = b * x / 1600 := by unfold backL; rw [hx, HBB.out.1, HBB.out.2]
        rw [← hx, hw1, hw2, hbl]; rfl
end Go.Proofs.YtedddaojcknemaaDoor
