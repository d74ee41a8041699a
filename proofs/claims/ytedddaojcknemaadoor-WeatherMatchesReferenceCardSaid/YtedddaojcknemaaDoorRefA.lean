/- The reference's small functions: Is, Spell, Valid, Few: walked. -/
import Derived.Test.YtedddaojcknemaaDoorAllA
import Derived.Test.YtedddaojcknemaaDoorAllB
namespace Go.Proofs.YtedddaojcknemaaDoor
open Go.RowKit

theorem is_any (m : Int) (w : World) : Calls Tryd.prog 41 #[.int .i64 m] w fun e w' => e = .returned (.bool (momB m)) ∧ w' = w := by
  unfold momB
  by_cases h1 : 0 ≤ m
  · by_cases h2 : m ≤ 38399
    · rw [decide_eq_true (And.intro h1 h2)]
      go_enter Tryd.func41, Tryd.ntmps41
      go_wp2_with fail
      go_ret
      exact ⟨rfl, rfl⟩
    · rw [decide_eq_false (fun h => h2 h.2)]
      go_enter Tryd.func41, Tryd.ntmps41
      go_wp2_with fail
      go_ret
      exact ⟨rfl, rfl⟩
  · rw [decide_eq_false (fun h => h1 h.1)]
    go_enter Tryd.func41, Tryd.ntmps41
    go_wp2_with fail
    go_ret
    exact ⟨rfl, rfl⟩

def timeB (f u : Int) : Bool := momB f && momB u && decide (f ≤ u)
theorem formed_split (k q n f u : Int) : formedB ⟨k, q, n, f, u⟩ = (timeB f u && kindOk k q n) := by
  unfold formedB timeB
  cases kindOk k q n <;> cases momB f <;> cases momB u <;> cases decide (f ≤ u) <;> rfl

set_option maxRecDepth 100000 in
set_option maxHeartbeats 2000000 in
theorem rspell_any (s : Sp) (w : World) : Calls Tryd.prog 35 #[spV s] w fun e w' => e = .returned (.bool (formedB s)) ∧ Below w.heap.size w w' := by
  obtain ⟨k, q, n, f, u⟩ := s
  rw [formed_split]
  unfold spV
  simp only []
  go_enter Tryd.func35, Tryd.ntmps35
  go_upto_region 1 with fail
  go_cut [19] from 3 to 19 (fun s19 wx => Hid (s19 = .bool (!timeB f u) ∧ wx = w.alloc (.cells #[.int .i64 k, .int .i64 q, .int .i64 n, .int .i64 f, .int .i64 u] 32)))
  case first =>
    cases hf : momB f
    · have HF := Lib.hid hf; clear hf
      go_wp2_with fail
      refine (is_any f _).mono ?_
      rintro e w' ⟨rfl, hw⟩
      rw [hw, HF.out]; clear hw
      go_wp2_with fail
      go_meet
      exact Lib.hid ⟨by unfold timeB; rw [HF.out]; rfl, rfl⟩
    · have HF := Lib.hid hf; clear hf
      cases hu : momB u
      · have HU := Lib.hid hu; clear hu
        go_wp2_with fail
        refine (is_any f _).mono ?_
        rintro e w' ⟨rfl, hw⟩
        rw [hw, HF.out]; clear hw
        go_wp2_with fail
        refine (is_any u _).mono ?_
        rintro e w' ⟨rfl, hw⟩
        rw [hw, HU.out]; clear hw
        go_wp2_with fail
        go_meet
        exact Lib.hid ⟨by unfold timeB; rw [HF.out, HU.out]; rfl, rfl⟩
      · have HU := Lib.hid hu; clear hu
        by_cases hfu : f ≤ u
        · have HD : Hid (decide (f ≤ u) = true) := Lib.hid (decide_eq_true hfu)
          have hgt : ¬ u < f := by omega
          go_wp2_with fail
          refine (is_any f _).mono ?_
          rintro e w' ⟨rfl, hw⟩
          rw [hw, HF.out]; clear hw
          go_wp2_with fail
          refine (is_any u _).mono ?_
          rintro e w' ⟨rfl, hw⟩
          rw [hw, HU.out]; clear hw
          go_wp2_with fail
          go_meet
          have hd : decide (u < f) = false := decide_eq_false (Int.not_lt.mpr hfu)
          exact Lib.hid ⟨by unfold timeB; rw [HF.out, HU.out, HD.out, hd]; rfl, rfl⟩
        · have HD : Hid (decide (f ≤ u) = false) := Lib.hid (decide_eq_false hfu)
          have hgt : u < f := by omega
          go_wp2_with fail
          refine (is_any f _).mono ?_
          rintro e w' ⟨rfl, hw⟩
          rw [hw, HF.out]; clear hw
          go_wp2_with fail
          refine (is_any u _).mono ?_
          rintro e w' ⟨rfl, hw⟩
          rw [hw, HU.out]; clear hw
          go_wp2_with fail
          go_meet
          exact Lib.hid ⟨by unfold timeB; rw [HF.out, HU.out, HD.out]; rfl, rfl⟩
  case rest =>
    obtain ⟨rfl, rfl⟩ := hcut.out
    clear hcut
    have hB : Below w.heap.size w (w.alloc (.cells #[.int .i64 k, .int .i64 q, .int .i64 n, .int .i64 f, .int .i64 u] 32)) := (Below.refl _ _).alloc (Nat.le_refl _) _
    have HB := Lib.hid hB; clear hB
    cases ht : timeB f u
    · have HT := Lib.hid ht; clear ht
      go_wp2_with fail
      go_ret
      exact ⟨ret_bool (by rw [HT.out]; rfl), HB.out⟩
    · have HT := Lib.hid ht; clear ht
      by_cases h1 : k = 1
      · subst h1
        by_cases a1 : 0 ≤ q
        · by_cases a2 : q ≤ 3
          · by_cases a3 : 0 ≤ n
            · by_cases a4 : n ≤ 1000
              · have HV := Lib.hid (And.intro (And.intro a1 a2) (And.intro a3 a4))
                go_wp2_with fail
                go_ret
                exact ⟨ret_bool (by rw [HT.out]; unfold kindOk val1 val2 val3; rw [if_pos rfl, decide_eq_true HV.out.1, decide_eq_true HV.out.2]; rfl), HB.out⟩
              · go_wp2_with fail
                go_ret
                exact ⟨ret_bool (by rw [HT.out]; unfold kindOk val1 val2 val3; rw [if_pos rfl, decide_eq_false (show ¬ (0 ≤ n ∧ n ≤ 1000) by omega)]; simp), HB.out⟩
            · go_wp2_with fail
              go_ret
              exact ⟨ret_bool (by rw [HT.out]; unfold kindOk val1 val2 val3; rw [if_pos rfl, decide_eq_false (show ¬ (0 ≤ n ∧ n ≤ 1000) by omega)]; simp), HB.out⟩
          · go_wp2_with fail
            go_ret
            exact ⟨ret_bool (by rw [HT.out]; unfold kindOk val1 val2 val3; rw [if_pos rfl, decide_eq_false (show ¬ (0 ≤ q ∧ q ≤ 3) by omega)]; simp), HB.out⟩
        · go_wp2_with fail
          go_ret
          exact ⟨ret_bool (by rw [HT.out]; unfold kindOk val1 val2 val3; rw [if_pos rfl, decide_eq_false (show ¬ (0 ≤ q ∧ q ≤ 3) by omega)]; simp), HB.out⟩
      · have g1 : (k == 1) = false := by simpa using h1
        by_cases h2 : k = 2
        · subst h2
          by_cases a1 : q = 0
          · subst a1
            by_cases a3 : 1 ≤ n
            · by_cases a4 : n ≤ 100
              · go_wp2_with fail
                go_ret
                exact ⟨ret_bool (by rw [HT.out]; unfold kindOk val1 val2 val3; rw [if_neg (by decide), if_pos rfl, decide_eq_true (And.intro a3 a4)]; rfl), HB.out⟩
              · go_wp2_with fail
                go_ret
                exact ⟨ret_bool (by rw [HT.out]; unfold kindOk val1 val2 val3; rw [if_neg (by decide), if_pos rfl, decide_eq_false (show ¬ (1 ≤ n ∧ n ≤ 100) by omega)]; rfl), HB.out⟩
            · go_wp2_with fail
              go_ret
              exact ⟨ret_bool (by rw [HT.out]; unfold kindOk val1 val2 val3; rw [if_neg (by decide), if_pos rfl, decide_eq_false (show ¬ (1 ≤ n ∧ n ≤ 100) by omega)]; rfl), HB.out⟩
          · have g3 : (q == 0) = false := by simpa using a1
            go_wp2_with fail
            go_ret
            exact ⟨ret_bool (by rw [HT.out]; unfold kindOk val1 val2 val3; rw [if_neg (by decide), if_pos rfl, decide_eq_false a1]; rfl), HB.out⟩
        · have g2 : (k == 2) = false := by simpa using h2
          by_cases h3 : k = 3
          · subst h3
            by_cases a1 : q = 0
            · subst a1
              by_cases a2 : n = 0
              · subst a2
                go_wp2_with fail
                go_ret
                exact ⟨ret_bool (by rw [HT.out]; rfl), HB.out⟩
              · have g4 : (n == 0) = false := by simpa using a2
                go_wp2_with fail
                go_ret
                exact ⟨ret_bool (by rw [HT.out]; unfold kindOk val1 val2 val3; rw [if_neg (by decide), if_neg (by decide), if_pos rfl, decide_eq_false a2]; rfl), HB.out⟩
            · have g3 : (q == 0) = false := by simpa using a1
              go_wp2_with fail
              go_ret
              exact ⟨ret_bool (by rw [HT.out]; unfold kindOk val1 val2 val3; rw [if_neg (by decide), if_neg (by decide), if_pos rfl, decide_eq_false a1]; rfl), HB.out⟩
          · have g5 : (k == 3) = false := by simpa using h3
            go_wp2_with fail
            go_ret
            exact ⟨ret_bool (by rw [HT.out]; unfold kindOk val1 val2 val3; rw [if_neg h1, if_neg h2, if_neg h3]; rfl), HB.out⟩

def RValRel (l : List Sp) (w : World) (x : Value) (wr : World) : Prop := ∃ i : Nat, x = .int .i64 i ∧ i ≤ l.length ∧ i ≤ 201 ∧ (l.take i).all formedB = true ∧ Below w.heap.size w wr

set_option maxRecDepth 100000 in
set_option maxHeartbeats 2000000 in
theorem rvalid_any (l : List Sp) (v : Value) (w : World) (hR : ReadRow w 5 v l.length (spFlat l)) :
    Calls Tryd.prog 39 #[v] w fun e w' => e = .returned (.bool (allB l)) ∧ Below w.heap.size w w' := by
  have HR := Lib.hid hR
  obtain ⟨a, c, rfl, hc1, hc2, _⟩ := hR.slice
  clear hR
  go_enter Tryd.func39, Tryd.ntmps39
  go_wp2_with fail
  go_loopw [3] (fun x wr => Hid (RValRel l w x wr)) (fun x _ => l.length - (intOf x).toNat)
  case atStart => exact Lib.hid ⟨0, rfl, Nat.zero_le _, by omega, rfl, Below.refl _ _⟩
  case round =>
    obtain ⟨i, rfl, hi, hi2, hall, hbel⟩ := hrel.out
    have HA := Lib.hid (And.intro hall hbel); clear hall hbel hrel
    by_cases hlt : i < l.length
    · by_cases h201 : i < 201
      · obtain ⟨sp, hsp⟩ : ∃ sp, l[i]? = some sp := ⟨_, List.getElem?_eq_getElem hlt⟩
        obtain ⟨g, off, c', hv, _, _, hg, c0, c1, c2, c3, c4⟩ := readSp5 (HR.out.below HA.out.2) i sp hsp
        cases hv
        have HSP := Lib.hid hsp; clear hsp
        go_wp2_with fail
        have hsc := rspell_any sp wr
        unfold spV at hsc
        refine hsc.mono ?_
        rintro e w2 ⟨rfl, hB2⟩
        clear hsc
        have HB2 : Hid (Below w.heap.size w w2) := Lib.hid (HA.out.2.trans (hB2.mono HA.out.2.size))
        clear hB2
        cases hf : formedB sp
        · have HF := Lib.hid hf; clear hf
          go_wp2_with fail
          go_ret
          refine ⟨ret_bool (Eq.symm ?_), HB2.out⟩
          unfold allB
          rw [Bool.and_eq_false_iff]
          right
          rw [List.all_eq_false]
          exact ⟨sp, List.mem_of_getElem? HSP.out, by rw [HF.out]; simp⟩
        · have HF := Lib.hid hf; clear hf
          go_wp2_with fail
          go_roundw
          case rel =>
            refine Lib.hid ⟨i + 1, by simp, by omega, by omega, ?_, HB2.out⟩
            rw [List.take_add_one, HSP.out, List.all_append, HA.out.1]
            simp [HF.out]
          case measure => simp [intOf]; omega
      · have hbig : ¬ l.length ≤ 200 := by omega
        have hbigI : ¬ (l.length : Int) ≤ 200 := by omega
        go_wp2_with fail
        go_ret
        refine ⟨ret_bool ?_, HA.out.2⟩
        unfold allB
        rw [decide_eq_false hbig]; rfl
    · have hl : i = l.length := by omega
      subst hl
      rw [List.take_length] at HA
      by_cases h2 : l.length ≤ 200
      · have h2I : (l.length : Int) ≤ 200 := by omega
        have HX : Hid (allB l = true) := Lib.hid (by unfold allB; rw [decide_eq_true h2, HA.out.1]; rfl)
        go_wp2_with fail
        go_ret
        exact ⟨ret_bool (by rw [HX.out]), HA.out.2⟩
      · have h2I : ¬ (l.length : Int) ≤ 200 := by omega
        have HX : Hid (allB l = false) := Lib.hid (by unfold allB; rw [decide_eq_false h2]; rfl)
        go_wp2_with fail
        go_ret
        exact ⟨ret_bool (by rw [HX.out]), HA.out.2⟩
end Go.Proofs.YtedddaojcknemaaDoor

namespace Go.Proofs.YtedddaojcknemaaDoor
open Go.RowKit

def fewB (l : List Sp) : Bool := decide (l.length ≤ 20) || (decide (200 ≤ l.length) && decide (l.length ≤ 202))

set_option maxRecDepth 100000 in
theorem few_any (l : List Sp) (v : Value) (w : World) (hR : ReadRow w 5 v l.length (spFlat l)) :
    Calls Tryd.prog 13 #[v] w fun e w' => e = .returned (.bool (fewB l)) ∧ w' = w := by
  obtain ⟨a, c, rfl, hc1, hc2, _⟩ := hR.slice
  clear hR
  unfold fewB
  by_cases h1 : l.length ≤ 20
  · have g1 : (l.length : Int) ≤ 20 := by omega
    rw [decide_eq_true h1]
    go_enter Tryd.func13, Tryd.ntmps13
    go_wp2_with fail
    go_ret
    exact ⟨rfl, rfl⟩
  · have g1 : ¬ (l.length : Int) ≤ 20 := by omega
    rw [decide_eq_false h1]
    by_cases h2 : 200 ≤ l.length
    · have g2 : (200 : Int) ≤ (l.length : Int) := by omega
      rw [decide_eq_true h2]
      by_cases h3 : l.length ≤ 202
      · have g3 : (l.length : Int) ≤ 202 := by omega
        rw [decide_eq_true h3]
        clear h1 h2 h3
        go_enter Tryd.func13, Tryd.ntmps13
        go_wp2_with fail
        go_ret
        exact ⟨rfl, rfl⟩
      · have g3 : ¬ (l.length : Int) ≤ 202 := by omega
        rw [decide_eq_false h3]
        clear h1 h2 h3
        go_enter Tryd.func13, Tryd.ntmps13
        go_wp2_with fail
        go_ret
        exact ⟨rfl, rfl⟩
    · have g2 : ¬ (200 : Int) ≤ (l.length : Int) := by omega
      rw [decide_eq_false h2]
      clear h1 h2
      go_enter Tryd.func13, Tryd.ntmps13
      go_wp2_with fail
      go_ret
      exact ⟨rfl, rfl⟩

set_option maxRecDepth 100000 in
theorem rmoon_any (n : Int) (w : World) : Calls Tryd.prog 19 #[.int .i64 n] w (MoonPost n w) := by
  unfold MoonPost nightB
  by_cases h1 : 0 ≤ n
  · by_cases h2 : n ≤ 399
    · rw [decide_eq_true (And.intro h1 h2)]
      simp only [if_true]
      go_enter Tryd.func19, Tryd.ntmps19
      go_wp2_with fail
      all_goals
        go_ret3
        exact ⟨rfl, rfl⟩
    · rw [decide_eq_false (fun h => h2 h.2)]
      simp only [Bool.false_eq_true, if_false]
      go_enter Tryd.func19, Tryd.ntmps19
      go_wp2_with fail
      go_ret3
      exact ⟨rfl, rfl⟩
  · rw [decide_eq_false (fun h => h1 h.1)]
    simp only [Bool.false_eq_true, if_false]
    go_enter Tryd.func19, Tryd.ntmps19
    go_wp2_with fail
    go_ret3
    exact ⟨rfl, rfl⟩

set_option maxRecDepth 100000 in
set_option maxHeartbeats 1000000 in
theorem rback_any (n t : Int) (w : World) : Calls Tryd.prog 20 #[.int .i64 n, .int .i64 t] w (BackPost n t w) := by
  unfold BackPost
  cases hb : nightB n
  · have HB := Lib.hid hb; clear hb
    go_enter Tryd.func20, Tryd.ntmps20
    go_wp2_with fail
    refine (rmoon_any n w).mono ?_
    rintro e w' ⟨he, hw⟩
    rw [HB.out] at he
    obtain rfl := he
    rw [hw]; clear hw
    simp only [Bool.false_eq_true, if_false]
    go_wp2_with fail
    go_ret2
    exact ⟨rfl, rfl⟩
  · have HB := Lib.hid hb; clear hb
    by_cases t1 : 0 ≤ t
    · by_cases t2 : t ≤ 511
      · have HT : Hid (tileB t = true) := Lib.hid (decide_eq_true (And.intro t1 t2))
        rw [HT.out]
        have hn : 0 ≤ n ∧ n ≤ 399 := of_decide_eq_true HB.out
        obtain ⟨hn1, hn2⟩ := hn
        go_enter Tryd.func20, Tryd.ntmps20
        go_wp2_with fail
        refine (rmoon_any n w).mono ?_
        rintro e w' ⟨he, hw⟩
        rw [HB.out] at he
        obtain rfl := he
        rw [hw]; clear hw
        simp only [if_true]
        obtain ⟨b, hbb⟩ : ∃ b, b = moonL n := ⟨_, rfl⟩
        have hbr := moonL_range n
        rw [← hbb] at hbr ⊢
        obtain ⟨c, hc⟩ : ∃ c, c = n % 32 := ⟨_, rfl⟩
        have hcr : 0 ≤ c ∧ c < 32 := by omega
        rw [← hc]
        have HBB := Lib.hid (And.intro hbb hc); clear hbb hc
        obtain ⟨hb1, hb2⟩ := hbr
        obtain ⟨hc1, hc2⟩ := hcr
        go_wp2_with fail
        all_goals
          go_ret2
          refine ⟨?_, rfl⟩
          obtain ⟨x, hx⟩ : ∃ x, x = 16 - min ((t - c) % 32) (32 - (t - c) % 32) := ⟨_, rfl⟩
          have hxr : 0 ≤ x ∧ x ≤ 16 := by omega
          have hxe : x = 16 - min (max (t % 32 - c) (c - t % 32)) (32 - max (t % 32 - c) (c - t % 32)) := by omega
          have hp0 : 0 ≤ b * x := Int.mul_nonneg hb1 hxr.1
          have hp1 : b * x ≤ 1000 * 16 := Int.mul_le_mul hb2 hxr.2 hxr.1 (by omega)
          have hw1 : wrap64 (b * x) = b * x := wrap64_id (by omega) (by omega)
          have hw2 : wrap64 ((b * x).tdiv 1600) = b * x / 1600 := by
            rw [Int.tdiv_eq_ediv_of_nonneg hp0]
            exact wrap64_id (by omega) (by omega)
          have hbl : backL n t = b * x / 1600 := by unfold backL; rw [hxe, HBB.out.1, HBB.out.2]
          rw [← hx, hw1, hw2, hbl]; rfl
      · have HT : Hid (tileB t = false) := Lib.hid (decide_eq_false (fun h => t2 h.2))
        rw [HT.out]
        go_enter Tryd.func20, Tryd.ntmps20
        go_wp2_with fail
        refine (rmoon_any n w).mono ?_
        rintro e w' ⟨he, hw⟩
        rw [HB.out] at he
        obtain rfl := he
        rw [hw]; clear hw
        simp only [if_true]
        go_wp2_with fail
        go_ret2
        exact ⟨rfl, rfl⟩
    · have HT : Hid (tileB t = false) := Lib.hid (decide_eq_false (fun h => t1 h.1))
      rw [HT.out]
      go_enter Tryd.func20, Tryd.ntmps20
      go_wp2_with fail
      refine (rmoon_any n w).mono ?_
      rintro e w' ⟨he, hw⟩
      rw [HB.out] at he
      obtain rfl := he
      rw [hw]; clear hw
      simp only [if_true]
      go_wp2_with fail
      go_ret2
      exact ⟨rfl, rfl⟩
end Go.Proofs.YtedddaojcknemaaDoor
