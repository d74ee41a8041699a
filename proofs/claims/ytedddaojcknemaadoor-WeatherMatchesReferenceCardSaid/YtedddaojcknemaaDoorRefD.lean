/- The reference's Digits: walked. -/
import Derived.Test.YtedddaojcknemaaDoorRefA
import Derived.Test.YtedddaojcknemaaDoorTxtA
import Derived.Test.YtedddaojcknemaaDoorTxtC
import Derived.Test.YtedddaojcknemaaDoorQuietB
namespace Go.Proofs.YtedddaojcknemaaDoor
open Go.RowKit

def DigRel (n : Nat) (a b c : Value) : Prop := ∃ (k i : Nat) (out : List UInt8), a = .int .i64 k ∧ b = .string ⟨out.toArray⟩ ∧ c = .int .i64 i ∧ k + i ≤ 100001 ∧ out.length ≤ i ∧ k ≤ n ∧
  ((i = 0 ∧ k = n ∧ out = []) ∨ (1 ≤ i ∧ Lib.decDigits n = (if k = 0 then [] else Lib.decDigits k) ++ out))

theorem dec_step (k : Nat) (out : List UInt8) : (if k / 10 = 0 then [] else Lib.decDigits (k / 10)) ++ (UInt8.ofNat (48 + k % 10) :: out) = Lib.decDigits k ++ out := by
  by_cases h : k < 10
  · rw [if_pos (by omega), show k % 10 = k by omega, Lib.decDigits_one h]; rfl
  · have e : Lib.decDigits k = Lib.decDigits (k / 10) ++ [UInt8.ofNat (48 + k % 10)] := by rw [Lib.decDigits, dif_neg h]
    rw [if_neg (by omega), e]; simp
theorem dig_fin : ∀ r : Fin 10, (⟨#[48, 49, 50, 51, 52, 53, 54, 55, 56, 57]⟩ : ByteArray).extract r.val (r.val + 1) = ⟨#[UInt8.ofNat (48 + r.val)]⟩ := by decide +kernel
theorem dig_cat (k : Nat) (out : List UInt8) : (⟨#[48, 49, 50, 51, 52, 53, 54, 55, 56, 57]⟩ : ByteArray).extract (k % 10) (k % 10 + 1) ++ ⟨out.toArray⟩ = ⟨(UInt8.ofNat (48 + k % 10) :: out).toArray⟩ := by
  rw [dig_fin ⟨k % 10, by omega⟩]
  apply ByteArray.ext
  simp
theorem DigRel.next {n k i : Nat} {out : List UInt8} (hki : k + i ≤ 100001) (hol : out.length ≤ i) (hkn : k ≤ n) (hgo : i = 0 ∨ 0 < k)
    (hd : (i = 0 ∧ k = n ∧ out = []) ∨ (1 ≤ i ∧ Lib.decDigits n = (if k = 0 then [] else Lib.decDigits k) ++ out)) :
    DigRel n (.int .i64 ((k : Int) / 10)) (.string ((⟨#[48, 49, 50, 51, 52, 53, 54, 55, 56, 57]⟩ : ByteArray).extract (k % 10) (k % 10 + 1) ++ ⟨out.toArray⟩)) (.int .i64 ((i : Int) + 1)) := by
  refine ⟨k / 10, i + 1, UInt8.ofNat (48 + k % 10) :: out, by simp, by rw [dig_cat], by simp, by omega, by simp; omega, by omega, .inr ⟨by omega, ?_⟩⟩
  rw [dec_step]
  rcases hd with ⟨_, rfl, rfl⟩ | ⟨h1, h2⟩
  · simp
  · rw [h2, if_neg (by omega)]

set_option maxRecDepth 100000 in
set_option maxHeartbeats 1000000 in
theorem digits_any (n : Nat) (h1 : n ≤ 100000) (w : World) : Calls Tryd.prog 40 #[.int .i64 n] w fun e w' => e = .returned (.string ⟨(Lib.decDigits n).toArray⟩) ∧ w' = w := by
  go_enter Tryd.func40, Tryd.ntmps40
  go_wp2_with fail
  go_loopw [0, 3, 4] (fun a b c wr => Hid (DigRel n a b c ∧ wr = w)) (fun a _ c _ => 2 * (intOf a).toNat + (1 - (intOf c).toNat))
  case atStart => exact Lib.hid ⟨⟨n, 0, [], rfl, rfl, rfl, by omega, by simp, by omega, .inl ⟨rfl, rfl, rfl⟩⟩, rfl⟩
  case round =>
    obtain ⟨⟨k, i, out, rfl, rfl, rfl, hki, hol, hkn, hd⟩, hw⟩ := hrel.out
    have HW := Lib.hid hw; clear hw hrel
    have HD := Lib.hid hd; clear hd
    by_cases hgo : i = 0 ∨ 0 < k
    · have HGO := Lib.hid hgo
      rcases hgo with rfl | hk
      · go_wp2_with fail
        go_roundw
        case rel => exact Lib.hid ⟨DigRel.next hki hol hkn HGO.out HD.out, HW.out⟩
        case measure => simp [intOf]; omega
      · by_cases h0 : i = 0
        · subst h0
          go_wp2_with fail
          go_roundw
          case rel => exact Lib.hid ⟨DigRel.next hki hol hkn HGO.out HD.out, HW.out⟩
          case measure => simp [intOf]; omega
        · have hne : (i == 0) = false := by simpa using h0
          go_wp2_with fail
          go_roundw
          case rel => exact Lib.hid ⟨DigRel.next hki hol hkn HGO.out HD.out, HW.out⟩
          case measure => simp [intOf]; omega
    · have hk0 : k = 0 := by omega
      have hi0 : i ≠ 0 := by omega
      have hne : (i == 0) = false := by simpa using hi0
      subst hk0
      clear hgo
      go_wp2_with fail
      go_ret
      refine ⟨?_, HW.out⟩
      rcases HD.out with ⟨h, _⟩ | ⟨_, h⟩
      · exact absurd h hi0
      · rw [h]; rfl
end Go.Proofs.YtedddaojcknemaaDoor

namespace Go.Proofs.YtedddaojcknemaaDoor
open Go.RowKit Go.Sort

theorem ditoa_any (n : Int) (h0 : 0 ≤ n) (h1 : n ≤ 100000) (w : World) : Calls Tryd.prog 40 #[.int .i64 n] w fun e w' => e = .returned (.string ⟨(Lib.itoa n).toArray⟩) ∧ w' = w := by
  have h := digits_any n.toNat (by omega) w
  rw [show ((n.toNat : Nat) : Int) = n by omega] at h
  unfold Lib.itoa
  rw [if_neg (by omega)]
  exact h

theorem ditoaB (n : Int) (h0 : 0 ≤ n) (h1 : n ≤ 100000) {w0 : World} : ∀ W, Below w0.heap.size w0 W → Calls Tryd.prog 40 #[.int .i64 n] W fun e w' => e = .returned (.string ⟨(Lib.itoa n).toArray⟩) ∧ Below W.heap.size W w' := by
  intro W _
  refine (ditoa_any n h0 h1 W).mono ?_
  rintro e w' ⟨rfl, rfl⟩
  exact ⟨rfl, Below.refl _ _⟩

def RTxtRel (l : List Sp) (w : World) (x y : Value) (wr : World) : Prop := ∃ i : Nat, x = .string ⟨(Tx.textL (l.take i)).toArray⟩ ∧ y = .int .i64 i ∧ i ≤ l.length ∧ Below w.heap.size w wr

set_option maxRecDepth 100000 in
set_option maxHeartbeats 4000000 in
theorem rtext_ok (l : List Sp) (v : Value) (w : World) (hR : ReadRow w 5 v l.length (spFlat l)) (hall : allB l = true) :
    Calls Tryd.prog 17 #[v] w fun e w' => e = .returned (.tuple #[.string ⟨(Tx.textL l).toArray⟩, .int .i64 0]) ∧ Below w.heap.size w w' := by
  have HR := Lib.hid hR
  obtain ⟨a, c, rfl, hc1, hc2, _⟩ := hR.slice
  have HA := Lib.hid hall
  have hl200 : l.length ≤ 200 := by unfold allB at hall; simp at hall; exact hall.1
  clear hR hall
  go_enter Tryd.func17, Tryd.ntmps17
  go_wp2_with fail
  refine (rvalid_any l _ _ HR.out).mono ?_
  rintro e w1 ⟨rfl, B1⟩
  rw [HA.out]
  have HB := Lib.hid B1; clear B1
  go_wp2_with fail
  go_loopw [4, 5] (fun x y wr => Hid (RTxtRel l w x y wr)) (fun _ y _ => l.length - (intOf y).toNat)
  case atStart => exact Lib.hid ⟨0, rfl, rfl, Nat.zero_le _, HB.out⟩
  case round =>
    obtain ⟨i, rfl, rfl, hi, hbel⟩ := hrel.out
    clear hrel
    by_cases hlt : i < l.length
    · obtain ⟨sp, hsp⟩ : ∃ sp, l[i]? = some sp := ⟨_, List.getElem?_eq_getElem hlt⟩
      obtain ⟨g, off, c', hv, _, _, hg, c0, c1, c2, c3, c4⟩ := readSp5 (HR.out.below hbel) i sp hsp
      cases hv
      have HSP := Lib.hid hsp; clear hsp
      have HBEL := Lib.hid hbel; clear hbel
      have hfm : formedB sp = true := by
        have := HA.out
        unfold allB at this
        rw [Bool.and_eq_true, List.all_eq_true] at this
        exact this.2 sp (List.mem_of_getElem? HSP.out)
      have hroom : (Tx.textL (l.take i)).length ≤ 10000 := by
        have h := Tx.text_size (l.take i) (by
          have := HA.out
          unfold allB at this
          rw [Bool.and_eq_true, List.all_eq_true] at this
          rw [List.all_eq_true]
          exact fun x hx => this.2 x (List.mem_of_mem_take hx))
        have : (l.take i).length ≤ 200 := by rw [List.length_take]; omega
        omega
      have HN := Lib.hid (Tx.formed_nums hfm)
      clear hfm
      have hsucc := textL_succ HSP.out
      generalize Tx.textL (l.take i) = T at hroom hsucc ⊢
      have HS := Lib.hid hsucc; clear hsucc
      obtain ⟨k, q, n, f, u⟩ := sp
      have hk := HN.out
      simp only [] at hk c0 c1 c2 c3 c4
      obtain ⟨hk, hf0, hf1, hu0, hu1, _⟩ := hk
      have hfl := Tx.itoa_len f hf0 (by omega)
      have hul := Tx.itoa_len u hu0 (by omega)
      rcases hk with ⟨rfl, q0, q1, n0, n1⟩ | ⟨rfl, rfl, n0, n1⟩ | ⟨rfl, rfl, rfl⟩
      · have hql := Tx.itoa_len q q0 (by omega)
        have hnl := Tx.itoa_len n n0 (by omega)
        have m1 : ¬ 9223372036854775807 < T.length + 6 := by omega
        have m2 : ¬ 9223372036854775807 < T.length + 6 + (Lib.itoa q).length := by omega
        have m3 : ¬ 9223372036854775807 < T.length + 6 + (Lib.itoa q).length + 1 := by omega
        have m4 : ¬ 9223372036854775807 < T.length + 6 + (Lib.itoa q).length + 1 + (Lib.itoa n).length := by omega
        have p1 : ¬ 9223372036854775807 < T.length + 6 + (Lib.itoa q).length + 1 + (Lib.itoa n).length + 6 := by omega
        have p2 : ¬ 9223372036854775807 < T.length + 6 + (Lib.itoa q).length + 1 + (Lib.itoa n).length + 6 + (Lib.itoa f).length := by omega
        have p3 : ¬ 9223372036854775807 < T.length + 6 + (Lib.itoa q).length + 1 + (Lib.itoa n).length + 6 + (Lib.itoa f).length + 7 := by omega
        have p4 : ¬ 9223372036854775807 < T.length + 6 + (Lib.itoa q).length + 1 + (Lib.itoa n).length + 6 + (Lib.itoa f).length + 7 + (Lib.itoa u).length := by omega
        have p5 : ¬ 9223372036854775807 < T.length + 6 + (Lib.itoa q).length + 1 + (Lib.itoa n).length + 6 + (Lib.itoa f).length + 7 + (Lib.itoa u).length + 2 := by omega
        go_upto_region 10 with fail
        have cQ := quietB (ditoaB q q0 (by omega)) (w := wr)
        have cN := quietB (ditoaB n n0 (by omega)) (w := wr)
        have k1 := cell_regrown c1
        have k2 := cell_regrown c2
        refine wp_region_quiet_below (by kernel_rfl) (by kernel_rfl) ?_
        repeat (go_big_quiet_step (first | (with_reducible exact cQ _ _) | (with_reducible exact cN _ _)))
        refine wpQuiet_nil ?_
        intro _ hw'
        obtain ⟨⟨dq, osq⟩, hw''⟩ := hw'
        subst hw''
        have HBY := Lib.hid (HBEL.out.trans ((below_regrown wr dq osq).mono HBEL.out.size))
        generalize grow (redrawn wr dq) osq = Y at HBY ⊢
        clear cQ cN k1 k2 c0 c1 c2 c3 c4
        obtain ⟨g2, off2, c2', hv, _, _, hg2, c0, c1, c2, c3, c4⟩ := readSp5 (HR.out.below HBY.out) i _ HSP.out
        cases hv
        simp only [] at c3 c4
        go_upto_region 13 with fail
        have cF := quietB (ditoaB f hf0 (by omega)) (w := Y)
        have cU := quietB (ditoaB u hu0 (by omega)) (w := Y)
        have k3 := cell_regrown c3
        have k4 := cell_regrown c4
        refine wp_region_quiet_below (by kernel_rfl) (by kernel_rfl) ?_
        repeat (go_big_quiet_step (first | (with_reducible exact cF _ _) | (with_reducible exact cU _ _)))
        refine wpQuiet_nil ?_
        intro _ hw'
        obtain ⟨⟨dr, osr⟩, hw''⟩ := hw'
        subst hw''
        have HBZ := Lib.hid ((HBY.out).trans ((below_regrown Y dr osr).mono (HBY.out).size))
        generalize grow (redrawn Y dr) osr = Z at HBZ ⊢
        clear cF cU k3 k4
        go_wp2_with fail
        go_roundw
        case rel =>
          refine Lib.hid ⟨i + 1, congrArg Value.string ?_, by simp, by omega, HBZ.out⟩
          rw [HS.out]
          apply ByteArray.ext
          simp [Tx.spText, Tx.endText, Tx.wordOf, Tx.numsText]
        case measure => simp [intOf]; omega
      · have hnl := Tx.itoa_len n (by omega) (by omega)
        have m1 : ¬ 9223372036854775807 < T.length + 7 := by omega
        have m2 : ¬ 9223372036854775807 < T.length + 7 + (Lib.itoa n).length := by omega
        have p1 : ¬ 9223372036854775807 < T.length + 7 + (Lib.itoa n).length + 6 := by omega
        have p2 : ¬ 9223372036854775807 < T.length + 7 + (Lib.itoa n).length + 6 + (Lib.itoa f).length := by omega
        have p3 : ¬ 9223372036854775807 < T.length + 7 + (Lib.itoa n).length + 6 + (Lib.itoa f).length + 7 := by omega
        have p4 : ¬ 9223372036854775807 < T.length + 7 + (Lib.itoa n).length + 6 + (Lib.itoa f).length + 7 + (Lib.itoa u).length := by omega
        have p5 : ¬ 9223372036854775807 < T.length + 7 + (Lib.itoa n).length + 6 + (Lib.itoa f).length + 7 + (Lib.itoa u).length + 2 := by omega
        go_wp2_with fail
        refine (ditoa_any n (by omega) (by omega) _).mono ?_
        rintro e w' ⟨rfl, hw⟩
        rw [hw]; clear hw
        go_upto_region 13 with fail
        have cF := quietB (ditoaB f hf0 (by omega)) (w := wr)
        have cU := quietB (ditoaB u hu0 (by omega)) (w := wr)
        have k3 := cell_regrown c3
        have k4 := cell_regrown c4
        refine wp_region_quiet_below (by kernel_rfl) (by kernel_rfl) ?_
        repeat (go_big_quiet_step (first | (with_reducible exact cF _ _) | (with_reducible exact cU _ _)))
        refine wpQuiet_nil ?_
        intro _ hw'
        obtain ⟨⟨dr, osr⟩, hw''⟩ := hw'
        subst hw''
        have HBZ := Lib.hid ((HBEL.out).trans ((below_regrown wr dr osr).mono (HBEL.out).size))
        generalize grow (redrawn wr dr) osr = Z at HBZ ⊢
        clear cF cU k3 k4
        go_wp2_with fail
        go_roundw
        case rel =>
          refine Lib.hid ⟨i + 1, congrArg Value.string ?_, by simp, by omega, HBZ.out⟩
          rw [HS.out]
          apply ByteArray.ext
          simp [Tx.spText, Tx.endText, Tx.wordOf, Tx.numsText]
        case measure => simp [intOf]; omega
      · have m1 : ¬ 9223372036854775807 < T.length + 6 := by omega
        have p1 : ¬ 9223372036854775807 < T.length + 6 + 6 := by omega
        have p2 : ¬ 9223372036854775807 < T.length + 6 + 6 + (Lib.itoa f).length := by omega
        have p3 : ¬ 9223372036854775807 < T.length + 6 + 6 + (Lib.itoa f).length + 7 := by omega
        have p4 : ¬ 9223372036854775807 < T.length + 6 + 6 + (Lib.itoa f).length + 7 + (Lib.itoa u).length := by omega
        have p5 : ¬ 9223372036854775807 < T.length + 6 + 6 + (Lib.itoa f).length + 7 + (Lib.itoa u).length + 2 := by omega
        go_upto_region 13 with fail
        have cF := quietB (ditoaB f hf0 (by omega)) (w := wr)
        have cU := quietB (ditoaB u hu0 (by omega)) (w := wr)
        have k3 := cell_regrown c3
        have k4 := cell_regrown c4
        refine wp_region_quiet_below (by kernel_rfl) (by kernel_rfl) ?_
        repeat (go_big_quiet_step (first | (with_reducible exact cF _ _) | (with_reducible exact cU _ _)))
        refine wpQuiet_nil ?_
        intro _ hw'
        obtain ⟨⟨dr, osr⟩, hw''⟩ := hw'
        subst hw''
        have HBZ := Lib.hid ((HBEL.out).trans ((below_regrown wr dr osr).mono (HBEL.out).size))
        generalize grow (redrawn wr dr) osr = Z at HBZ ⊢
        clear cF cU k3 k4
        go_wp2_with fail
        go_roundw
        case rel =>
          refine Lib.hid ⟨i + 1, congrArg Value.string ?_, by simp, by omega, HBZ.out⟩
          rw [HS.out]
          apply ByteArray.ext
          simp [Tx.spText, Tx.endText, Tx.wordOf, Tx.numsText]
        case measure => simp [intOf]; omega
    · have hil : i = l.length := by omega
      subst hil
      have HBEL := Lib.hid hbel; clear hbel
      go_wp2_with fail
      go_ret2
      rw [List.take_length]
      exact ⟨rfl, HBEL.out⟩

set_option maxRecDepth 100000 in
theorem rtext_bad (l : List Sp) (v : Value) (w : World) (hR : ReadRow w 5 v l.length (spFlat l)) (hall : allB l = false) :
    Calls Tryd.prog 17 #[v] w fun e w' => e = .returned (.tuple #[.string ⟨#[]⟩, .int .i64 1]) ∧ Below w.heap.size w w' := by
  have HR := Lib.hid hR
  obtain ⟨a, c, rfl, hc1, hc2, _⟩ := hR.slice
  have HA := Lib.hid hall
  clear hR hall
  go_enter Tryd.func17, Tryd.ntmps17
  go_wp2_with fail
  refine (rvalid_any l _ _ HR.out).mono ?_
  rintro e w1 ⟨rfl, B1⟩
  rw [HA.out]
  have HB := Lib.hid B1; clear B1
  go_wp2_with fail
  go_ret2
  exact ⟨rfl, HB.out⟩

theorem rtext_any (l : List Sp) (v : Value) (w : World) (hR : ReadRow w 5 v l.length (spFlat l)) :
    Calls Tryd.prog 17 #[v] w fun e w' => e = .returned (.tuple #[.string ⟨(txtB l).toArray⟩, .int .i64 (txtE l)]) ∧ Below w.heap.size w w' := by
  unfold txtB txtE
  cases h : allB l
  · exact rtext_bad l v w hR h
  · exact rtext_ok l v w hR h
end Go.Proofs.YtedddaojcknemaaDoor
