/- The law WeatherMoon: walked. -/
import Derived.Test.YtedddaojcknemaaDoorHead
namespace Go.Proofs.YtedddaojcknemaaDoor
open Go.RowKit

theorem moon_sum (a b : Int) (h : (a + b) % 30 = 0) : moonL a = moonL b := by
  unfold moonL
  have h1 : min (a % 30) (30 - a % 30) = min (b % 30) (30 - b % 30) := by omega
  rw [h1]
theorem back_zero (n t : Int) (h : (t % 32 - n % 32 + 32) % 32 = 0) : backL n t = moonL n / 100 := by
  unfold backL
  have h0 : (16 - min (max (t % 32 - n % 32) (n % 32 - t % 32)) (32 - max (t % 32 - n % 32) (n % 32 - t % 32))) = 16 := by omega
  rw [h0]
  have hm := moonL_range n
  generalize moonL n = b at hm ⊢
  omega
theorem back_opp (n t : Int) (h : (t % 32 - n % 32 + 32) % 32 = 16) : backL n t = 0 := by
  unfold backL
  have h0 : (16 - min (max (t % 32 - n % 32) (n % 32 - t % 32)) (32 - max (t % 32 - n % 32) (n % 32 - t % 32))) = 0 := by omega
  rw [h0]; simp
theorem back_range (n t : Int) : 0 ≤ backL n t ∧ backL n t ≤ moonL n / 100 := by
  unfold backL
  have hm := moonL_range n
  generalize moonL n = b at hm ⊢
  obtain ⟨x, hx⟩ : ∃ x, x = 16 - min (max (t % 32 - n % 32) (n % 32 - t % 32)) (32 - max (t % 32 - n % 32) (n % 32 - t % 32)) := ⟨_, rfl⟩
  have hxr : 0 ≤ x ∧ x ≤ 16 := by omega
  rw [← hx]
  have hp0 : 0 ≤ b * x := Int.mul_nonneg hm.1 hxr.1
  have hp1 : b * x ≤ b * 16 := Int.mul_le_mul_of_nonneg_left hxr.2 hm.1
  omega
theorem back_same (n t u : Int) (h : ((t % 32 - n % 32 + 32) % 32 + (u % 32 - n % 32 + 32) % 32) % 32 = 0 ∨ (t % 32 - n % 32 + 32) % 32 = (u % 32 - n % 32 + 32) % 32) : backL n t = backL n u := by
  unfold backL
  have h0 : min (max (t % 32 - n % 32) (n % 32 - t % 32)) (32 - max (t % 32 - n % 32) (n % 32 - t % 32)) = min (max (u % 32 - n % 32) (n % 32 - u % 32)) (32 - max (u % 32 - n % 32) (n % 32 - u % 32)) := by omega
  rw [h0]

/-- A result of the law: true, and old memory as it was. -/
def LawPost (w : World) (e : Ending) (w' : World) : Prop := e = .returned (.bool true) ∧ Below w.heap.size w w'

set_option maxRecDepth 100000 in
set_option maxHeartbeats 4000000 in
theorem moonlaw_good (a0 a1 a2 a3 : Int) (h0 : nightB a0 = true) (h1 : nightB a1 = true) (h2 : tileB a2 = true) (h3 : tileB a3 = true) (w : World) :
    Calls Tryd.prog 4 #[.int .i64 a0, .int .i64 a1, .int .i64 a2, .int .i64 a3] w (LawPost w) := by
  unfold LawPost
  have r0 : 0 ≤ a0 ∧ a0 ≤ 399 := of_decide_eq_true h0
  have r1 : 0 ≤ a1 ∧ a1 ≤ 399 := of_decide_eq_true h1
  have r2 : 0 ≤ a2 ∧ a2 ≤ 511 := of_decide_eq_true h2
  have r3 : 0 ≤ a3 ∧ a3 ≤ 511 := of_decide_eq_true h3
  have H0 := Lib.hid h0; have H1 := Lib.hid h1; have H2 := Lib.hid h2; have H3 := Lib.hid h3
  clear h0 h1 h2 h3
  obtain ⟨r01, r02⟩ := r0
  obtain ⟨r11, r12⟩ := r1
  obtain ⟨r21, r22⟩ := r2
  obtain ⟨r31, r32⟩ := r3
  go_enter Tryd.func4, Tryd.ntmps4
  go_wp2_with fail
  refine (head_any w).mono ?_
  rintro e w1 ⟨rfl, hB⟩
  have HB := Lib.hid hB; clear hB
  go_wp2_with fail
  refine (moon_any a0 w1).mono ?_
  unfold MoonPost
  rw [H0.out]
  rintro e w' ⟨rfl, hw⟩
  rw [hw]; clear hw
  simp only [if_true]
  have am := moonL_range a0
  have HS := Lib.hid (moon_sum a0 a1)
  have HZ := Lib.hid (And.intro (back_zero a0 a2) (And.intro (back_opp a0 a2) (And.intro (back_range a0 a2) (back_same a0 a2 a3))))
  obtain ⟨a, ha⟩ : ∃ a, a = moonL a0 := ⟨_, rfl⟩
  rw [← ha] at am HS HZ ⊢
  obtain ⟨c, hc⟩ : ∃ c, c = a0 % 32 := ⟨_, rfl⟩
  have cr : 0 ≤ c ∧ c < 32 := by omega
  rw [← hc] at HZ ⊢
  clear hc ha
  obtain ⟨am1, am2⟩ := am
  obtain ⟨cr1, cr2⟩ := cr
  go_wp2_with fail
  refine (moon_any a1 w1).mono ?_
  unfold MoonPost
  rw [H1.out]
  rintro e w' ⟨rfl, hw⟩
  rw [hw]; clear hw
  simp only [if_true]
  obtain ⟨b, hb⟩ : ∃ b, b = moonL a1 := ⟨_, rfl⟩
  rw [← hb] at HS ⊢
  clear hb
  go_wp2_with fail
  refine (back_any a0 a2 w1).mono ?_
  unfold BackPost
  rw [H0.out, H2.out]
  rintro e w' ⟨rfl, hw⟩
  rw [hw]; clear hw
  simp only [Bool.and_true, if_true]
  obtain ⟨x, hx⟩ : ∃ x, x = backL a0 a2 := ⟨_, rfl⟩
  rw [← hx] at HZ ⊢
  clear hx
  go_wp2_with fail
  refine (back_any a0 a3 w1).mono ?_
  unfold BackPost
  rw [H0.out, H3.out]
  rintro e w' ⟨rfl, hw⟩
  rw [hw]; clear hw
  simp only [Bool.and_true, if_true]
  obtain ⟨y, hy⟩ : ∃ y, y = backL a0 a3 := ⟨_, rfl⟩
  rw [← hy] at HZ ⊢
  clear hy
  go_upto_region 8 with fail
  go_cut [119] (fun v wx => v = .bool false ∧ wx = w1)
  case first =>
    by_cases h30 : (a0 + a1) % 30 = 0
    · have hab : a = b := HS.out h30
      subst hab
      go_wp2_with fail
      go_meet
      refine ⟨congrArg Value.bool ?_, rfl⟩
      simp
      omega
    · go_wp2_with fail
      go_meet
      refine ⟨congrArg Value.bool ?_, rfl⟩
      simp
      omega
  case rest =>
    obtain ⟨rfl, rfl⟩ := hcut
    go_upto_region 12 with fail
    obtain ⟨d, hd⟩ : ∃ d, d = (a2 % 32 - c + 32) % 32 := ⟨_, rfl⟩
    obtain ⟨f, hf⟩ : ∃ f, f = (a3 % 32 - c + 32) % 32 := ⟨_, rfl⟩
    rw [← hd, ← hf] at HZ ⊢
    have hdr : 0 ≤ d ∧ d < 32 := by omega
    have hfr : 0 ≤ f ∧ f < 32 := by omega
    obtain ⟨hd1, hd2⟩ := hdr
    obtain ⟨hf1, hf2⟩ := hfr
    clear hd hf HS
    obtain ⟨hx1, hx2⟩ := HZ.out.2.2.1
    go_cut [16, 20, 157] (fun x' d' v wx => x' = .int .i64 x ∧ d' = .int .i64 d ∧ v = .bool false ∧ wx = wc)
    case first =>
      by_cases h0 : d = 0
      · have hx : x = a / 100 := HZ.out.1 h0
        have HX := Lib.hid (And.intro h0 (And.intro hx hx1))
        clear HZ hx1 hx2
        subst h0
        subst hx
        go_wp2_with fail
        all_goals
          go_meet
          refine ⟨rfl, rfl, congrArg Value.bool ?_, rfl⟩
          have := HX.out.2.2
          simp
          try omega
      · by_cases h16 : d = 16
        · have hx : x = 0 := HZ.out.2.1 h16
          clear HZ hx1 hx2
          subst h16
          subst hx
          go_wp2_with fail
          all_goals
            go_meet
            refine ⟨rfl, rfl, congrArg Value.bool ?_, rfl⟩
            simp
            try omega
        · have hb0 : (d == 0) = false := by simpa using h0
          have hb16 : (d == 16) = false := by simpa using h16
          clear h0 h16
          go_wp2_with fail
          all_goals
            go_meet
            refine ⟨rfl, rfl, congrArg Value.bool ?_, rfl⟩
            simp
            try omega
    case rest =>
      obtain ⟨rfl, rfl, rfl, rfl⟩ := hcut
      clear hx1 hx2
      go_wp2_with fail
      all_goals
        go_ret
        refine ⟨ret_bool ?_, HB.out⟩
        have hz := HZ.out.2.2.2
        simp
        try omega
end Go.Proofs.YtedddaojcknemaaDoor
