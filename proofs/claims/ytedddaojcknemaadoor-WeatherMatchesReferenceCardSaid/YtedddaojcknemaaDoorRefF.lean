/- The reference's lexer, letters, digits, words: walked. -/
import Derived.Test.YtedddaojcknemaaDoorLexPure
import Derived.Test.YtedddaojcknemaaDoorWeaB
namespace Go.Proofs.YtedddaojcknemaaDoor
open Go.RowKit

set_option maxRecDepth 100000 in
theorem rdigit_any (c : Nat) (w : World) : Calls Tryd.prog 66 #[.int .u8 c] w fun e w' => e = .returned (.bool (Lx.isDigit c)) ∧ w' = w := by
  by_cases h1 : (48 : Int) ≤ c
  · by_cases h2 : (c : Int) ≤ 57
    · have HX : Hid (Lx.isDigit c = true) := Lib.hid (by unfold Lx.isDigit; simp; omega)
      go_enter Tryd.func66, Tryd.ntmps66
      go_wp2_with fail
      go_ret
      exact ⟨ret_bool (by rw [HX.out]), rfl⟩
    · have HX : Hid (Lx.isDigit c = false) := Lib.hid (by unfold Lx.isDigit; simp; omega)
      go_enter Tryd.func66, Tryd.ntmps66
      go_wp2_with fail
      go_ret
      exact ⟨ret_bool (by rw [HX.out]), rfl⟩
  · have HX : Hid (Lx.isDigit c = false) := Lib.hid (by unfold Lx.isDigit; simp; omega)
    go_enter Tryd.func66, Tryd.ntmps66
    go_wp2_with fail
    go_ret
    exact ⟨ret_bool (by rw [HX.out]), rfl⟩

set_option maxRecDepth 100000 in
theorem rletter_any (c : Nat) (w : World) : Calls Tryd.prog 64 #[.int .u8 c] w fun e w' => e = .returned (.bool (Lx.isLetter c)) ∧ w' = w := by
  by_cases h1 : (65 : Int) ≤ c
  · by_cases h2 : (c : Int) ≤ 90
    · have HX : Hid (Lx.isLetter c = true) := Lib.hid (by unfold Lx.isLetter; simp; omega)
      have h3 : ¬ (97 : Int) ≤ c := by omega
      go_enter Tryd.func64, Tryd.ntmps64
      go_wp2_with fail
      go_ret
      exact ⟨ret_bool (by rw [HX.out]), rfl⟩
    · by_cases h3 : (97 : Int) ≤ c
      · by_cases h4 : (c : Int) ≤ 122
        · have HX : Hid (Lx.isLetter c = true) := Lib.hid (by unfold Lx.isLetter; simp; omega)
          go_enter Tryd.func64, Tryd.ntmps64
          go_wp2_with fail
          go_ret
          exact ⟨ret_bool (by rw [HX.out]), rfl⟩
        · have HX : Hid (Lx.isLetter c = false) := Lib.hid (by unfold Lx.isLetter; simp; omega)
          go_enter Tryd.func64, Tryd.ntmps64
          go_wp2_with fail
          go_ret
          exact ⟨ret_bool (by rw [HX.out]), rfl⟩
      · have HX : Hid (Lx.isLetter c = false) := Lib.hid (by unfold Lx.isLetter; simp; omega)
        go_enter Tryd.func64, Tryd.ntmps64
        go_wp2_with fail
        go_ret
        exact ⟨ret_bool (by rw [HX.out]), rfl⟩
  · have HX : Hid (Lx.isLetter c = false) := Lib.hid (by unfold Lx.isLetter; simp; omega)
    have h3 : ¬ (97 : Int) ≤ c := by omega
    go_enter Tryd.func64, Tryd.ntmps64
    go_wp2_with fail
    go_ret
    exact ⟨ret_bool (by rw [HX.out]), rfl⟩

def wordB (c : Nat) : Bool := Lx.isLetter c || Lx.isDigit c || c == 95
set_option maxRecDepth 100000 in
theorem rword_gen (c : Nat) (x y : Bool) (w : World) (hl : ∀ W, Calls Tryd.prog 64 #[.int .u8 c] W fun e w' => e = .returned (.bool x) ∧ w' = W)
    (hd : ∀ W, Calls Tryd.prog 66 #[.int .u8 c] W fun e w' => e = .returned (.bool y) ∧ w' = W) :
    Calls Tryd.prog 65 #[.int .u8 c] w fun e w' => e = .returned (.bool (x || y || ((c : Int) == 95))) ∧ w' = w := by
  have HL := Lib.hid hl; have HD := Lib.hid hd; clear hl hd
  go_enter Tryd.func65, Tryd.ntmps65
  go_wp2_with fail
  refine (HL.out w).mono ?_
  rintro e w' ⟨rfl, hw⟩
  rw [hw]; clear hw
  cases x
  · go_wp2_with fail
    refine (HD.out w).mono ?_
    rintro e w' ⟨rfl, hw⟩
    rw [hw]; clear hw
    cases y
    · go_wp2_with fail
      go_ret
      exact ⟨ret_bool (by simp), rfl⟩
    · go_wp2_with fail
      go_ret
      exact ⟨ret_bool rfl, rfl⟩
  · go_wp2_with fail
    go_ret
    exact ⟨ret_bool rfl, rfl⟩
theorem rword_any (c : Nat) (w : World) : Calls Tryd.prog 65 #[.int .u8 c] w fun e w' => e = .returned (.bool (wordB c)) ∧ w' = w := by
  refine (rword_gen c _ _ w (fun W => rletter_any c W) (fun W => rdigit_any c W)).mono ?_
  rintro e w' ⟨rfl, hw⟩
  refine ⟨?_, hw⟩
  unfold wordB
  have h : ((c : Int) == 95) = (c == 95) := by
    by_cases h : c = 95
    · subst h; rfl
    · rw [beq_eq_false_iff_ne.2 h, beq_eq_false_iff_ne.2 (by omega)]
  rw [h]
end Go.Proofs.YtedddaojcknemaaDoor

namespace Go.Proofs.YtedddaojcknemaaDoor
open Go.RowKit

set_option maxRecDepth 100000 in
theorem rhas_any (s : List UInt8) (hs : s.length ≤ 100) (c : Nat) (w : World) : Calls Tryd.prog 63 #[.string ⟨s.toArray⟩, .int .u8 c] w fun e w' => e = .returned (.bool (s.any fun d => d.toNat == c)) ∧ w' = w := by
  go_enter Tryd.func63, Tryd.ntmps63
  go_wp2_with fail
  go_loopw [5] (fun x wr => Hid (∃ i : Nat, x = .int .i64 i ∧ i ≤ s.length ∧ ((s.take i).any fun d => d.toNat == c) = false ∧ wr = w)) (fun x _ => s.length - (intOf x).toNat)
  case atStart => exact Lib.hid ⟨0, rfl, Nat.zero_le _, rfl, rfl⟩
  case round =>
    obtain ⟨i, rfl, hi, hn, hw⟩ := hrel.out
    have HN := Lib.hid (And.intro hn hw); clear hn hw hrel
    by_cases hlt : i < s.length
    · go_wp2_with fail
      · rename_i h
        go_ret
        refine ⟨ret_bool (Eq.symm ?_), HN.out.2⟩
        rw [List.any_eq_true]
        exact ⟨s[i], List.getElem_mem hlt, by
          have h' := eq_of_beq h
          have h2 : (⟨s.toArray⟩ : ByteArray)[i] = s[i] := by simp [ByteArray.getElem_eq_getElem_data]
          rw [h2] at h'
          simpa using (by omega : s[i].toNat = c)⟩
      · rename_i h
        go_roundw
        case rel =>
          refine Lib.hid ⟨i + 1, by simp, by omega, ?_, HN.out.2⟩
          rw [List.take_add_one, List.getElem?_eq_getElem hlt, List.any_append, HN.out.1]
          have h2 : (⟨s.toArray⟩ : ByteArray)[i] = s[i] := by simp [ByteArray.getElem_eq_getElem_data]
          rw [h2] at h
          have h3 : s[i].toNat ≠ c := by
            intro hh
            rw [hh] at h
            simp at h
          simpa using h3
        case measure => simp [intOf]; omega
    · have hl : i = s.length := by omega
      subst hl
      go_wp2_with fail
      go_ret
      refine ⟨ret_bool ?_, HN.out.2⟩
      have := HN.out.1
      rw [List.take_length] at this
      rw [this]
end Go.Proofs.YtedddaojcknemaaDoor

namespace Go.Proofs.YtedddaojcknemaaDoor
open Go.RowKit

set_option maxRecDepth 100000 in
theorem rwidth_any (k n a : Int) (s : List UInt8) (hs : s.length ≤ 1000000) (w : World) : Calls Tryd.prog 53 #[.agg #[.int .i64 k, .string ⟨s.toArray⟩, .int .i64 n, .int .i64 a]] w fun e w' => e = .returned (.int .i64 (if k = 3 then (s.length : Int) + 2 else s.length)) ∧ Below w.heap.size w w' := by
  by_cases h : k = 3
  · subst h
    rw [if_pos rfl]
    go_enter Tryd.func53, Tryd.ntmps53
    go_wp2_with fail
    go_ret
    exact ⟨rfl, (Below.refl _ _).alloc (Nat.le_refl _) _⟩
  · rw [if_neg h]
    have hb : (k == 3) = false := by simpa using h
    go_enter Tryd.func53, Tryd.ntmps53
    go_wp2_with fail
    go_ret
    exact ⟨rfl, (Below.refl _ _).alloc (Nat.le_refl _) _⟩
end Go.Proofs.YtedddaojcknemaaDoor

namespace Go.Proofs.YtedddaojcknemaaDoor
open Go.RowKit

def RGapRel (s : List UInt8) (i0 : Nat) (x : Value) : Prop := ∃ i : Nat, x = .int .i64 i ∧ i ≤ s.length ∧ Lx.gap false (s.drop i) = Lx.gap false (s.drop i0)
theorem drop_at {s : List UInt8} {i : Nat} (h : i < s.length) : s.drop i = s[i] :: s.drop (i + 1) := by simp
theorem blank_any : (fun d : UInt8 => ([32, 9, 10] : List UInt8).any fun e => e.toNat == d.toNat) = fun d => decide (Lx.cl d = 1) := by
  funext d
  have : ∀ n : Fin 256, (([32, 9, 10] : List UInt8).any fun e => e.toNat == n.val) = decide (Lx.cls n.val = 1) := by decide +kernel
  exact this ⟨d.toNat, d.toNat_lt⟩

set_option maxRecDepth 100000 in
set_option maxHeartbeats 1000000 in
theorem rgap_any (s : List UInt8) (hs : s.length ≤ 1000000) (i0 : Nat) (hi0 : i0 ≤ s.length) (w : World) : Calls Tryd.prog 51 #[.string ⟨s.toArray⟩, .int .i64 i0] w fun e w' => (∃ i : Nat, e = .returned (.int .i64 i) ∧ i ≤ s.length ∧ s.drop i = Lx.gap false (s.drop i0)) ∧ w' = w := by
  go_enter Tryd.func51, Tryd.ntmps51
  go_wp2_with fail
  go_loopw [1] (fun x wr => Hid (RGapRel s i0 x ∧ wr = w)) (fun x _ => s.length - (intOf x).toNat)
  case atStart => exact Lib.hid ⟨⟨i0, rfl, hi0, rfl⟩, rfl⟩
  case round =>
    obtain ⟨⟨i, rfl, hi, hg⟩, hw⟩ := hrel.out
    have HG := Lib.hid (And.intro hg hw); clear hg hw hrel
    by_cases hlt : i < s.length
    · have hd := drop_at hlt
      have hda : (⟨s.toArray⟩ : ByteArray)[i] = s[i] := by simp [ByteArray.getElem_eq_getElem_data]
      generalize s[i] = d at hd hda
      go_wp2_with fail
      refine (rhas_any [32, 9, 10] (by simp) d.toNat wr).mono ?_
      rintro e w' ⟨rfl, hw⟩
      rw [hw]; clear hw
      have hb : (([32, 9, 10] : List UInt8).any fun e => e.toNat == d.toNat) = decide (Lx.cl d = 1) := congrFun blank_any d
      rw [hb]; clear hb
      by_cases h1 : Lx.cl d = 1
      · rw [decide_eq_true h1]
        have hg : Lx.gap false (s.drop (i + 1)) = Lx.gap false (s.drop i) := by rw [hd]; simp [Lx.gap, h1]
        have HE := Lib.hid hg; clear hg hd h1
        go_wp2_with fail
        go_roundw
        case rel => exact Lib.hid ⟨⟨i + 1, by simp, by omega, HE.out.trans HG.out.1⟩, HG.out.2⟩
        case measure => simp [intOf]; omega
      · rw [decide_eq_false h1]
        by_cases h2 : (d.toNat : Int) = 35
        · have hst : Hid (Lx.gap true (s.drop i) = Lx.gap false (s.drop i0)) := Lib.hid (by
            rw [← HG.out.1, hd]
            have hd35 : d = 35 := UInt8.toNat_inj.1 (by show d.toNat = 35; omega)
            subst hd35
            simp [Lx.gap, Lx.cl, Lx.cls, Lx.isLetter, Lx.isDigit, Lx.isBlank])
          have h35 : ((d.toNat : Int) == 35) = true := by simpa using h2
          have HD : Hid (s.drop i = d :: s.drop (i + 1) ∧ (d.toNat : Int) = 35) := Lib.hid ⟨hd, h2⟩
          clear hd h1 h2
          go_wp2_with fail
          clear hda h35
          go_loopw [1] (fun x wx => Hid ((∃ j : Nat, x = .int .i64 j ∧ i ≤ j ∧ j ≤ s.length ∧ Lx.gap true (s.drop j) = Lx.gap false (s.drop i0)) ∧ wx = wr)) (fun x _ => s.length - (intOf x).toNat)
          case atStart => exact Lib.hid ⟨⟨i, rfl, Nat.le_refl _, hi, hst.out⟩, rfl⟩
          case round =>
            obtain ⟨⟨j, rfl, hij, hj, hgj⟩, hwx⟩ := hrel.out
            have HJ := Lib.hid (And.intro hgj hwx); clear hgj hwx hrel
            by_cases hlj : j < s.length
            · have hdj := drop_at hlj
              have hdaj : (⟨s.toArray⟩ : ByteArray)[j] = s[j] := by simp [ByteArray.getElem_eq_getElem_data]
              generalize s[j] = c at hdj hdaj
              by_cases hc : (c.toNat : Int) = 10
              · have hcb : ((c.toNat : Int) != 10) = false := by simpa using hc
                have hlt2 : i < j := by
                  rcases Nat.lt_or_eq_of_le hij with h | h
                  · exact h
                  · subst h
                    have := HD.out.1.symm.trans hdj
                    simp at this
                    have := HD.out.2
                    simp_all
                have hrl : Hid (Lx.gap false (s.drop j) = Lx.gap false (s.drop i0)) := Lib.hid (by
                  rw [← HJ.out.1, hdj]
                  have hc10 : c = 10 := UInt8.toNat_inj.1 (by show c.toNat = 10; omega)
                  subst hc10
                  simp [Lx.gap, Lx.cl, Lx.cls, Lx.isLetter, Lx.isDigit, Lx.isBlank])
                clear hc hdj
                go_wp2_with fail
                go_roundw
                case rel => exact Lib.hid ⟨⟨j, rfl, by omega, hrl.out⟩, HJ.out.2.trans HG.out.2⟩
                case measure => simp [intOf]; omega
              · have hcb : ((c.toNat : Int) != 10) = true := by simpa using hc
                have hrl : Hid (Lx.gap true (s.drop (j + 1)) = Lx.gap false (s.drop i0)) := Lib.hid (by
                  rw [← HJ.out.1, hdj]
                  have hc10 : c ≠ 10 := by intro h; subst h; simp at hc
                  simp [Lx.gap, hc10])
                clear hc hdj
                go_wp2_with fail
                go_roundw
                case rel => exact Lib.hid ⟨⟨j + 1, by simp, by omega, by omega, hrl.out⟩, HJ.out.2⟩
                case measure => simp [intOf]; omega
            · have hl : j = s.length := by omega
              subst hl
              have hlt2 : i < s.length := hlt
              go_wp2_with fail
              go_roundw
              case rel => exact Lib.hid ⟨⟨_, rfl, Nat.le_refl _, by rw [← HJ.out.1]; simp [Lx.gap]⟩, HJ.out.2.trans HG.out.2⟩
              case measure => simp [intOf]; omega
        · have h2' : ((d.toNat : Int) == 35) = false := by simpa using h2
          have hst : Hid (s.drop i = Lx.gap false (s.drop i0)) := Lib.hid (by
            rw [← HG.out.1, hd]
            have hc2 : Lx.cl d ≠ 2 := by
              have : ∀ n : Fin 256, Lx.cls n.val = 2 → n.val = 35 := by decide +kernel
              intro h
              exact h2 (by have := this ⟨d.toNat, d.toNat_lt⟩ h; simp at this; omega)
            simp [Lx.gap, h1, hc2])
          go_wp2_with fail
          go_ret
          exact ⟨⟨i, rfl, hi, hst.out⟩, HG.out.2⟩
    · have hl : i = s.length := by omega
      subst hl
      go_wp2_with fail
      go_ret
      exact ⟨⟨_, rfl, Nat.le_refl _, by rw [← HG.out.1]; simp [Lx.gap]⟩, HG.out.2⟩
end Go.Proofs.YtedddaojcknemaaDoor
