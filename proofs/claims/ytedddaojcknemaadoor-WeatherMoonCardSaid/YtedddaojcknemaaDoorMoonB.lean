/- The law WeatherMoon: where a night or a tile is none. -/
import Derived.Test.YtedddaojcknemaaDoorMoon
namespace Go.Proofs.YtedddaojcknemaaDoor
open Go.RowKit

def mE (n : Int) : Int := if nightB n then 0 else 1
def bE (n t : Int) : Int := if nightB n && tileB t then 0 else 1
theorem moon_ints (n : Int) (w : World) : Calls Tryd.prog 11 #[.int .i64 n] w fun e w' => (∃ b c, e = .returned (.tuple #[.int .i64 b, .int .i64 c, .int .i64 (mE n)])) ∧ w' = w := by
  refine (moon_any n w).mono ?_
  rintro e w' ⟨he, hw⟩
  refine ⟨?_, hw⟩
  unfold mE
  cases h : nightB n <;> rw [h] at he <;> exact ⟨_, _, he⟩
theorem back_ints (n t : Int) (w : World) : Calls Tryd.prog 12 #[.int .i64 n, .int .i64 t] w fun e w' => (∃ b, e = .returned (.tuple #[.int .i64 b, .int .i64 (bE n t)])) ∧ w' = w := by
  refine (back_any n t w).mono ?_
  rintro e w' ⟨he, hw⟩
  refine ⟨?_, hw⟩
  unfold bE
  cases h : (nightB n && tileB t) <;> rw [h] at he <;> exact ⟨_, he⟩

set_option maxRecDepth 100000 in
set_option maxHeartbeats 4000000 in
theorem moonlaw_0a (a0 a1 a2 a3 : Int) (h : a0 < 0) (w : World) :
    Calls Tryd.prog 4 #[.int .i64 a0, .int .i64 a1, .int .i64 a2, .int .i64 a3] w (LawPost w) := by
  unfold LawPost
  have e0 : mE a0 = 1 := by unfold mE nightB; rw [decide_eq_false (by omega)]; rfl
  obtain ⟨e1, he1⟩ : ∃ e, e = mE a1 := ⟨_, rfl⟩
  obtain ⟨e2, he2⟩ : ∃ e, e = bE a0 a2 := ⟨_, rfl⟩
  obtain ⟨e3, he3⟩ : ∃ e, e = bE a0 a3 := ⟨_, rfl⟩
  have HE := Lib.hid (And.intro e0 (And.intro he1 (And.intro he2 he3)))
  clear e0 he1 he2 he3
  go_enter Tryd.func4, Tryd.ntmps4
  go_wp2_with fail
  refine (head_any w).mono ?_
  rintro e w1 ⟨rfl, hB⟩
  have HB := Lib.hid hB; clear hB
  go_wp2_with fail
  refine (moon_ints a0 w1).mono ?_
  rintro e w' ⟨⟨b, c, rfl⟩, hw⟩
  rw [hw, HE.out.1]; clear hw
  go_wp2_with fail
  refine (moon_ints a1 w1).mono ?_
  rintro e w' ⟨⟨b, c, rfl⟩, hw⟩
  rw [hw, ← HE.out.2.1]; clear hw
  go_wp2_with fail
  refine (back_ints a0 a2 w1).mono ?_
  rintro e w' ⟨⟨b, rfl⟩, hw⟩
  rw [hw, ← HE.out.2.2.1]; clear hw
  go_wp2_with fail
  refine (back_ints a0 a3 w1).mono ?_
  rintro e w' ⟨⟨b, rfl⟩, hw⟩
  rw [hw, ← HE.out.2.2.2]; clear hw
  go_wp2_with fail
  all_goals
    go_ret
    exact ⟨rfl, HB.out⟩

set_option maxRecDepth 100000 in
set_option maxHeartbeats 4000000 in
theorem moonlaw_0b (a0 a1 a2 a3 : Int) (l0 : 0 ≤ a0) (h : 400 ≤ a0) (w : World) :
    Calls Tryd.prog 4 #[.int .i64 a0, .int .i64 a1, .int .i64 a2, .int .i64 a3] w (LawPost w) := by
  unfold LawPost
  have e0 : mE a0 = 1 := by unfold mE nightB; rw [decide_eq_false (by omega)]; rfl
  obtain ⟨e1, he1⟩ : ∃ e, e = mE a1 := ⟨_, rfl⟩
  obtain ⟨e2, he2⟩ : ∃ e, e = bE a0 a2 := ⟨_, rfl⟩
  obtain ⟨e3, he3⟩ : ∃ e, e = bE a0 a3 := ⟨_, rfl⟩
  have HE := Lib.hid (And.intro e0 (And.intro he1 (And.intro he2 he3)))
  clear e0 he1 he2 he3
  go_enter Tryd.func4, Tryd.ntmps4
  go_wp2_with fail
  refine (head_any w).mono ?_
  rintro e w1 ⟨rfl, hB⟩
  have HB := Lib.hid hB; clear hB
  go_wp2_with fail
  refine (moon_ints a0 w1).mono ?_
  rintro e w' ⟨⟨b, c, rfl⟩, hw⟩
  rw [hw, HE.out.1]; clear hw
  go_wp2_with fail
  refine (moon_ints a1 w1).mono ?_
  rintro e w' ⟨⟨b, c, rfl⟩, hw⟩
  rw [hw, ← HE.out.2.1]; clear hw
  go_wp2_with fail
  refine (back_ints a0 a2 w1).mono ?_
  rintro e w' ⟨⟨b, rfl⟩, hw⟩
  rw [hw, ← HE.out.2.2.1]; clear hw
  go_wp2_with fail
  refine (back_ints a0 a3 w1).mono ?_
  rintro e w' ⟨⟨b, rfl⟩, hw⟩
  rw [hw, ← HE.out.2.2.2]; clear hw
  go_wp2_with fail
  all_goals
    go_ret
    exact ⟨rfl, HB.out⟩

set_option maxRecDepth 100000 in
set_option maxHeartbeats 4000000 in
theorem moonlaw_1a (a0 a1 a2 a3 : Int) (l0 : 0 ≤ a0) (u0 : a0 ≤ 399) (h : a1 < 0) (w : World) :
    Calls Tryd.prog 4 #[.int .i64 a0, .int .i64 a1, .int .i64 a2, .int .i64 a3] w (LawPost w) := by
  unfold LawPost
  have e0 : mE a0 = 0 := by unfold mE nightB; rw [decide_eq_true ⟨l0, u0⟩]; rfl
  have e1 : mE a1 = 1 := by unfold mE nightB; rw [decide_eq_false (by omega)]; rfl
  obtain ⟨e2, he2⟩ : ∃ e, e = bE a0 a2 := ⟨_, rfl⟩
  obtain ⟨e3, he3⟩ : ∃ e, e = bE a0 a3 := ⟨_, rfl⟩
  have HE := Lib.hid (And.intro e0 (And.intro e1 (And.intro he2 he3)))
  clear e0 e1 he2 he3
  go_enter Tryd.func4, Tryd.ntmps4
  go_wp2_with fail
  refine (head_any w).mono ?_
  rintro e w1 ⟨rfl, hB⟩
  have HB := Lib.hid hB; clear hB
  go_wp2_with fail
  refine (moon_ints a0 w1).mono ?_
  rintro e w' ⟨⟨b, c, rfl⟩, hw⟩
  rw [hw, HE.out.1]; clear hw
  go_wp2_with fail
  refine (moon_ints a1 w1).mono ?_
  rintro e w' ⟨⟨b, c, rfl⟩, hw⟩
  rw [hw, HE.out.2.1]; clear hw
  go_wp2_with fail
  refine (back_ints a0 a2 w1).mono ?_
  rintro e w' ⟨⟨b, rfl⟩, hw⟩
  rw [hw, ← HE.out.2.2.1]; clear hw
  go_wp2_with fail
  refine (back_ints a0 a3 w1).mono ?_
  rintro e w' ⟨⟨b, rfl⟩, hw⟩
  rw [hw, ← HE.out.2.2.2]; clear hw
  go_wp2_with fail
  all_goals
    go_ret
    exact ⟨rfl, HB.out⟩

set_option maxRecDepth 100000 in
set_option maxHeartbeats 4000000 in
theorem moonlaw_1b (a0 a1 a2 a3 : Int) (l0 : 0 ≤ a0) (u0 : a0 ≤ 399) (l1 : 0 ≤ a1) (h : 400 ≤ a1) (w : World) :
    Calls Tryd.prog 4 #[.int .i64 a0, .int .i64 a1, .int .i64 a2, .int .i64 a3] w (LawPost w) := by
  unfold LawPost
  have e0 : mE a0 = 0 := by unfold mE nightB; rw [decide_eq_true ⟨l0, u0⟩]; rfl
  have e1 : mE a1 = 1 := by unfold mE nightB; rw [decide_eq_false (by omega)]; rfl
  obtain ⟨e2, he2⟩ : ∃ e, e = bE a0 a2 := ⟨_, rfl⟩
  obtain ⟨e3, he3⟩ : ∃ e, e = bE a0 a3 := ⟨_, rfl⟩
  have HE := Lib.hid (And.intro e0 (And.intro e1 (And.intro he2 he3)))
  clear e0 e1 he2 he3
  go_enter Tryd.func4, Tryd.ntmps4
  go_wp2_with fail
  refine (head_any w).mono ?_
  rintro e w1 ⟨rfl, hB⟩
  have HB := Lib.hid hB; clear hB
  go_wp2_with fail
  refine (moon_ints a0 w1).mono ?_
  rintro e w' ⟨⟨b, c, rfl⟩, hw⟩
  rw [hw, HE.out.1]; clear hw
  go_wp2_with fail
  refine (moon_ints a1 w1).mono ?_
  rintro e w' ⟨⟨b, c, rfl⟩, hw⟩
  rw [hw, HE.out.2.1]; clear hw
  go_wp2_with fail
  refine (back_ints a0 a2 w1).mono ?_
  rintro e w' ⟨⟨b, rfl⟩, hw⟩
  rw [hw, ← HE.out.2.2.1]; clear hw
  go_wp2_with fail
  refine (back_ints a0 a3 w1).mono ?_
  rintro e w' ⟨⟨b, rfl⟩, hw⟩
  rw [hw, ← HE.out.2.2.2]; clear hw
  go_wp2_with fail
  all_goals
    go_ret
    exact ⟨rfl, HB.out⟩

set_option maxRecDepth 100000 in
set_option maxHeartbeats 4000000 in
theorem moonlaw_2a (a0 a1 a2 a3 : Int) (l0 : 0 ≤ a0) (u0 : a0 ≤ 399) (l1 : 0 ≤ a1) (u1 : a1 ≤ 399) (h : a2 < 0) (w : World) :
    Calls Tryd.prog 4 #[.int .i64 a0, .int .i64 a1, .int .i64 a2, .int .i64 a3] w (LawPost w) := by
  unfold LawPost
  have e0 : mE a0 = 0 := by unfold mE nightB; rw [decide_eq_true ⟨l0, u0⟩]; rfl
  have e1 : mE a1 = 0 := by unfold mE nightB; rw [decide_eq_true ⟨l1, u1⟩]; rfl
  have e2 : bE a0 a2 = 1 := by unfold bE nightB tileB; rw [decide_eq_true ⟨l0, u0⟩, decide_eq_false (by omega)]; rfl
  obtain ⟨e3, he3⟩ : ∃ e, e = bE a0 a3 := ⟨_, rfl⟩
  have HE := Lib.hid (And.intro e0 (And.intro e1 (And.intro e2 he3)))
  clear e0 e1 e2 he3
  go_enter Tryd.func4, Tryd.ntmps4
  go_wp2_with fail
  refine (head_any w).mono ?_
  rintro e w1 ⟨rfl, hB⟩
  have HB := Lib.hid hB; clear hB
  go_wp2_with fail
  refine (moon_ints a0 w1).mono ?_
  rintro e w' ⟨⟨b, c, rfl⟩, hw⟩
  rw [hw, HE.out.1]; clear hw
  go_wp2_with fail
  refine (moon_ints a1 w1).mono ?_
  rintro e w' ⟨⟨b, c, rfl⟩, hw⟩
  rw [hw, HE.out.2.1]; clear hw
  go_wp2_with fail
  refine (back_ints a0 a2 w1).mono ?_
  rintro e w' ⟨⟨b, rfl⟩, hw⟩
  rw [hw, HE.out.2.2.1]; clear hw
  go_wp2_with fail
  refine (back_ints a0 a3 w1).mono ?_
  rintro e w' ⟨⟨b, rfl⟩, hw⟩
  rw [hw, ← HE.out.2.2.2]; clear hw
  go_wp2_with fail
  all_goals
    go_ret
    exact ⟨rfl, HB.out⟩

set_option maxRecDepth 100000 in
set_option maxHeartbeats 4000000 in
theorem moonlaw_2b (a0 a1 a2 a3 : Int) (l0 : 0 ≤ a0) (u0 : a0 ≤ 399) (l1 : 0 ≤ a1) (u1 : a1 ≤ 399) (l2 : 0 ≤ a2) (h : 512 ≤ a2) (w : World) :
    Calls Tryd.prog 4 #[.int .i64 a0, .int .i64 a1, .int .i64 a2, .int .i64 a3] w (LawPost w) := by
  unfold LawPost
  have e0 : mE a0 = 0 := by unfold mE nightB; rw [decide_eq_true ⟨l0, u0⟩]; rfl
  have e1 : mE a1 = 0 := by unfold mE nightB; rw [decide_eq_true ⟨l1, u1⟩]; rfl
  have e2 : bE a0 a2 = 1 := by unfold bE nightB tileB; rw [decide_eq_true ⟨l0, u0⟩, decide_eq_false (by omega)]; rfl
  obtain ⟨e3, he3⟩ : ∃ e, e = bE a0 a3 := ⟨_, rfl⟩
  have HE := Lib.hid (And.intro e0 (And.intro e1 (And.intro e2 he3)))
  clear e0 e1 e2 he3
  go_enter Tryd.func4, Tryd.ntmps4
  go_wp2_with fail
  refine (head_any w).mono ?_
  rintro e w1 ⟨rfl, hB⟩
  have HB := Lib.hid hB; clear hB
  go_wp2_with fail
  refine (moon_ints a0 w1).mono ?_
  rintro e w' ⟨⟨b, c, rfl⟩, hw⟩
  rw [hw, HE.out.1]; clear hw
  go_wp2_with fail
  refine (moon_ints a1 w1).mono ?_
  rintro e w' ⟨⟨b, c, rfl⟩, hw⟩
  rw [hw, HE.out.2.1]; clear hw
  go_wp2_with fail
  refine (back_ints a0 a2 w1).mono ?_
  rintro e w' ⟨⟨b, rfl⟩, hw⟩
  rw [hw, HE.out.2.2.1]; clear hw
  go_wp2_with fail
  refine (back_ints a0 a3 w1).mono ?_
  rintro e w' ⟨⟨b, rfl⟩, hw⟩
  rw [hw, ← HE.out.2.2.2]; clear hw
  go_wp2_with fail
  all_goals
    go_ret
    exact ⟨rfl, HB.out⟩

set_option maxRecDepth 100000 in
set_option maxHeartbeats 4000000 in
theorem moonlaw_3a (a0 a1 a2 a3 : Int) (l0 : 0 ≤ a0) (u0 : a0 ≤ 399) (l1 : 0 ≤ a1) (u1 : a1 ≤ 399) (l2 : 0 ≤ a2) (u2 : a2 ≤ 511) (h : a3 < 0) (w : World) :
    Calls Tryd.prog 4 #[.int .i64 a0, .int .i64 a1, .int .i64 a2, .int .i64 a3] w (LawPost w) := by
  unfold LawPost
  have e0 : mE a0 = 0 := by unfold mE nightB; rw [decide_eq_true ⟨l0, u0⟩]; rfl
  have e1 : mE a1 = 0 := by unfold mE nightB; rw [decide_eq_true ⟨l1, u1⟩]; rfl
  have e2 : bE a0 a2 = 0 := by unfold bE nightB tileB; rw [decide_eq_true ⟨l0, u0⟩, decide_eq_true ⟨l2, u2⟩]; rfl
  have e3 : bE a0 a3 = 1 := by unfold bE nightB tileB; rw [decide_eq_true ⟨l0, u0⟩, decide_eq_false (by omega)]; rfl
  have HE := Lib.hid (And.intro e0 (And.intro e1 (And.intro e2 e3)))
  clear e0 e1 e2 e3
  go_enter Tryd.func4, Tryd.ntmps4
  go_wp2_with fail
  refine (head_any w).mono ?_
  rintro e w1 ⟨rfl, hB⟩
  have HB := Lib.hid hB; clear hB
  go_wp2_with fail
  refine (moon_ints a0 w1).mono ?_
  rintro e w' ⟨⟨b, c, rfl⟩, hw⟩
  rw [hw, HE.out.1]; clear hw
  go_wp2_with fail
  refine (moon_ints a1 w1).mono ?_
  rintro e w' ⟨⟨b, c, rfl⟩, hw⟩
  rw [hw, HE.out.2.1]; clear hw
  go_wp2_with fail
  refine (back_ints a0 a2 w1).mono ?_
  rintro e w' ⟨⟨b, rfl⟩, hw⟩
  rw [hw, HE.out.2.2.1]; clear hw
  go_wp2_with fail
  refine (back_ints a0 a3 w1).mono ?_
  rintro e w' ⟨⟨b, rfl⟩, hw⟩
  rw [hw, HE.out.2.2.2]; clear hw
  go_wp2_with fail
  all_goals
    go_ret
    exact ⟨rfl, HB.out⟩

set_option maxRecDepth 100000 in
set_option maxHeartbeats 4000000 in
theorem moonlaw_3b (a0 a1 a2 a3 : Int) (l0 : 0 ≤ a0) (u0 : a0 ≤ 399) (l1 : 0 ≤ a1) (u1 : a1 ≤ 399) (l2 : 0 ≤ a2) (u2 : a2 ≤ 511) (l3 : 0 ≤ a3) (h : 512 ≤ a3) (w : World) :
    Calls Tryd.prog 4 #[.int .i64 a0, .int .i64 a1, .int .i64 a2, .int .i64 a3] w (LawPost w) := by
  unfold LawPost
  have e0 : mE a0 = 0 := by unfold mE nightB; rw [decide_eq_true ⟨l0, u0⟩]; rfl
  have e1 : mE a1 = 0 := by unfold mE nightB; rw [decide_eq_true ⟨l1, u1⟩]; rfl
  have e2 : bE a0 a2 = 0 := by unfold bE nightB tileB; rw [decide_eq_true ⟨l0, u0⟩, decide_eq_true ⟨l2, u2⟩]; rfl
  have e3 : bE a0 a3 = 1 := by unfold bE nightB tileB; rw [decide_eq_true ⟨l0, u0⟩, decide_eq_false (by omega)]; rfl
  have HE := Lib.hid (And.intro e0 (And.intro e1 (And.intro e2 e3)))
  clear e0 e1 e2 e3
  go_enter Tryd.func4, Tryd.ntmps4
  go_wp2_with fail
  refine (head_any w).mono ?_
  rintro e w1 ⟨rfl, hB⟩
  have HB := Lib.hid hB; clear hB
  go_wp2_with fail
  refine (moon_ints a0 w1).mono ?_
  rintro e w' ⟨⟨b, c, rfl⟩, hw⟩
  rw [hw, HE.out.1]; clear hw
  go_wp2_with fail
  refine (moon_ints a1 w1).mono ?_
  rintro e w' ⟨⟨b, c, rfl⟩, hw⟩
  rw [hw, HE.out.2.1]; clear hw
  go_wp2_with fail
  refine (back_ints a0 a2 w1).mono ?_
  rintro e w' ⟨⟨b, rfl⟩, hw⟩
  rw [hw, HE.out.2.2.1]; clear hw
  go_wp2_with fail
  refine (back_ints a0 a3 w1).mono ?_
  rintro e w' ⟨⟨b, rfl⟩, hw⟩
  rw [hw, HE.out.2.2.2]; clear hw
  go_wp2_with fail
  all_goals
    go_ret
    exact ⟨rfl, HB.out⟩

theorem moonlaw_any (a0 a1 a2 a3 : Int) (w : World) : Calls Tryd.prog 4 #[.int .i64 a0, .int .i64 a1, .int .i64 a2, .int .i64 a3] w (LawPost w) := by
  by_cases h0 : a0 < 0
  · exact moonlaw_0a a0 a1 a2 a3 h0 w
  by_cases g0 : 400 ≤ a0
  · exact moonlaw_0b a0 a1 a2 a3 (by omega) g0 w
  by_cases h1 : a1 < 0
  · exact moonlaw_1a a0 a1 a2 a3 (by omega) (by omega) h1 w
  by_cases g1 : 400 ≤ a1
  · exact moonlaw_1b a0 a1 a2 a3 (by omega) (by omega) (by omega) g1 w
  by_cases h2 : a2 < 0
  · exact moonlaw_2a a0 a1 a2 a3 (by omega) (by omega) (by omega) (by omega) h2 w
  by_cases g2 : 512 ≤ a2
  · exact moonlaw_2b a0 a1 a2 a3 (by omega) (by omega) (by omega) (by omega) (by omega) g2 w
  by_cases h3 : a3 < 0
  · exact moonlaw_3a a0 a1 a2 a3 (by omega) (by omega) (by omega) (by omega) (by omega) (by omega) h3 w
  by_cases g3 : 512 ≤ a3
  · exact moonlaw_3b a0 a1 a2 a3 (by omega) (by omega) (by omega) (by omega) (by omega) (by omega) (by omega) g3 w
  · exact moonlaw_good a0 a1 a2 a3 (decide_eq_true (by omega)) (decide_eq_true (by omega)) (decide_eq_true (by omega)) (decide_eq_true (by omega)) w
end Go.Proofs.YtedddaojcknemaaDoor
