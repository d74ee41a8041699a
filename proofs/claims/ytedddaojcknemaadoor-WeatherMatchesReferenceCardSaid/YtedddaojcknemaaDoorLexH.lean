import Derived.Test.YtedddaojcknemaaDoorLexG
import Derived.Test.YtedddaojcknemaaDoorIdxAnyB
namespace Go.Proofs.YtedddaojcknemaaDoor
open Go.RowKit

theorem close_idx (l : List UInt8) : Lib.indexAny l [34, 10] = match Lx.close l with | none => -1 | some n => (n : Int) := by
  induction l with
  | nil => rfl
  | cons c r ih =>
    unfold Lib.indexAny Lx.close
    by_cases h : c = 34 ∨ c = 10
    · rw [if_pos h, if_pos (by rcases h with rfl | rfl <;> decide)]; rfl
    · rw [if_neg h, if_neg (by simpa using h), ih]
      cases Lx.close r with
      | none => rfl
      | some n => simp only [Option.map_some]; rw [if_neg (by simp)]; rfl
theorem close_at (l : List UInt8) (n : Nat) (h : Lx.close l = some n) : ∃ c, l[n]? = some c ∧ (c = 34 ∨ c = 10) := by
  induction l generalizing n with
  | nil => simp [Lx.close] at h
  | cons c r ih =>
    unfold Lx.close at h
    split at h
    · rename_i hc; cases h; exact ⟨c, rfl, hc⟩
    · cases hr : Lx.close r with
      | none => rw [hr] at h; cases h
      | some m => rw [hr] at h; cases h; obtain ⟨d, h1, h2⟩ := ih m hr; exact ⟨d, by simpa using h1, h2⟩
theorem head_drop (l : List UInt8) (n : Nat) : (l.drop n).head? = l[n]? := by simp [List.head?_drop]

theorem next_str_eq (s : ByteArray) (i : Nat) (hi : i < s.size) (hc : clsAt s i = 6) : Lx.next 2 3 4 6 (s.data.toList.drop i) =
    match Lx.close (s.data.toList.drop (i + 1)) with
    | none => .fail 6
    | some n => if (s.data.toList.drop (i + 1))[n]? = some 10 then .fail 6 else if n > 400 then .fail 2 else .tok 3 ((s.data.toList.drop (i + 1)).take n) 0 (n + 2) := by
  have hk := head_cl s i hi 6 hc
  rw [drop_cons' s i hi]
  unfold Lx.next
  simp only [hk]
  rw [if_neg (by decide), if_neg (by decide), if_pos trivial]
  cases Lx.close (s.data.toList.drop (i + 1)) with
  | none => rfl
  | some n => simp only [head_drop]

theorem nextV_fail (s : ByteArray) (i : Nat) (e : Int) (h : Lx.next 2 3 4 6 (s.data.toList.drop i) = .fail e) : nextV s i = .tuple #[tok0, .int .i64 0, .int .i64 e] := by unfold nextV; rw [h]
theorem nextV_tok (s : ByteArray) (i : Nat) (k : Int) (t : List UInt8) (n : Int) (wd : Nat) (h : Lx.next 2 3 4 6 (s.data.toList.drop i) = .tok k t n wd) :
    nextV s i = .tuple #[tokV k t n i, .int .i64 ((i + wd : Nat) : Int), .int .i64 0] := by unfold nextV; rw [h]

theorem extract_extract_lit (s : ByteArray) (a n : Nat) : (s.extract a s.size).extract 0 n = ⟨((s.data.toList.drop a).take n).toArray⟩ := by
  have h := extract_lit (s.extract a s.size) 0 n
  rw [Nat.zero_add] at h
  rw [h, Lib.extract_to_end, List.drop_zero]

set_option maxRecDepth 100000 in
set_option maxHeartbeats 2000000 in
theorem next_str (s : ByteArray) (b : Nat) (i : Nat) (w : World) (hs : IsScan w b s) (hm : s.size ≤ 20000) (hi : i < s.size) (hc : clsAt s i = 6) :
    Calls Tryd.prog 44 #[.pointer (some ⟨b, 0, none⟩), .int .i64 i] w fun e w' =>
      e = .returned (nextV s i) ∧ Below w.heap.size w w' := by
  have Hs := Lib.hid hs; clear hs
  have HE := Lib.hid (next_str_eq s i hi hc)
  go_enter Tryd.func44, Tryd.ntmps44
  go_wp2_with fail
  refine (at_any s b i _ (Hs.out.alloc _) (by omega) (by omega)).mono ?_
  rintro e w1 ⟨rfl, m, rfl⟩
  rw [hc]
  have HC := Lib.hid hc; clear hc
  have ht := ((Hs.out.alloc (.cells #[.int .i64 0, .string ⟨#[]⟩, .int .i64 0, .int .i64 0] 50)).drewN m).text
  go_wp2_with fail
  refine (indexAny_any (s.extract (i + 1) s.size) _ (by simp; omega)).mono ?_
  rintro e w5 ⟨rfl, B5⟩
  rw [Lib.extract_to_end, close_idx]
  have HT5 := Lib.hid ((B5.block w.heap.size (by simp)).trans (heap_alloc_new w (.cells #[.int .i64 0, .string ⟨#[]⟩, .int .i64 0, .int .i64 0] 50)))
  have c0 := cell_of_row _ _ 0 _ _ _ HT5.out
  have c1 := cell_of_row _ _ 1 _ _ _ HT5.out
  have c2 := cell_of_row _ _ 2 _ _ _ HT5.out
  have c3 := cell_of_row _ _ 3 _ _ _ HT5.out
  have f0 := frozen_of_row _ _ 0 _ _ HT5.out
  have f1 := frozen_of_row _ _ 1 _ _ HT5.out
  have f2 := frozen_of_row _ _ 2 _ _ HT5.out
  have f3 := frozen_of_row _ _ 3 _ _ HT5.out
  have ht5 : w5.cell? ⟨b, 0, none⟩ = some (.string s) := (B5.cell (p := ⟨b, 0, none⟩) (World.block_lt_of_cell? _ _ ht)).trans ht
  have HBB : Hid (Below w.heap.size w w5) := Lib.hid ((below_drewN' ((Below.refl _ _).alloc (Nat.le_refl _) _) m).trans (B5.mono (by simp)))
  clear B5
  cases hcl : Lx.close (s.data.toList.drop (i + 1)) with
  | none =>
    have HV := Lib.hid (nextV_fail s i 6 (by rw [HE.out, hcl]))
    clear hcl
    simp only []
    go_wp2_with fail
    refine bodyPost_ret (results_row2 rfl _ _ w.heap.size 50 _ (0, 0) _ rfl (heap_set4 _ _ _ _ _ _ _ _ _ _ _ HT5.out) Tryd.underlying50 rfl (by exact info_tok)) rfl ⟨?_, ?_⟩
    · rw [HV.out]; rfl
    · repeat' (first | (with_reducible exact HBB.out) | (with_reducible refine Below.setCell ?_ ?_ _) | (with_reducible exact Nat.le_refl _))
  | some n =>
    obtain ⟨c, h1, h2⟩ := close_at _ n hcl
    have hnl : n < (s.data.toList.drop (i + 1)).length := (List.getElem?_eq_some_iff.1 h1).1
    have hnl2 : i + 1 + n < s.size := by simp at hnl; have : s.data.size = s.size := rfl; omega
    have hxx : (s.extract (i + 1) s.size)[n]'(by simp; omega) = c := by
      have e1 := Lib.data_getElem? (s.extract (i + 1) s.size) n (by simp; omega)
      rw [Lib.extract_to_end, h1] at e1
      exact (Option.some.inj e1).symm
    simp only []
    rcases h2 with rfl | rfl
    · -- closed by a quote
      by_cases h4 : n > 400
      · have HV := Lib.hid (nextV_fail s i 2 (by rw [HE.out, hcl]; simp only [h1]; rw [if_neg (by decide), if_pos h4]))
        clear hcl h1
        go_wp2_with fail
        refine bodyPost_ret (results_row2 rfl _ _ w.heap.size 50 _ (0, 0) _ rfl (heap_set4 _ _ _ _ _ _ _ _ _ _ _ HT5.out) Tryd.underlying50 rfl (by exact info_tok)) rfl ⟨?_, ?_⟩
        · rw [HV.out]; rfl
        · repeat' (first | (with_reducible exact HBB.out) | (with_reducible refine Below.setCell ?_ ?_ _) | (with_reducible exact Nat.le_refl _))
      · have HV := Lib.hid (nextV_tok s i 3 _ 0 (n + 2) (by rw [HE.out, hcl]; simp only [h1]; rw [if_neg (by decide), if_neg h4]))
        clear hcl h1
        go_wp2_with fail
        refine bodyPost_ret (results_row2 rfl _ _ w.heap.size 50 _ (0, 0) _ rfl (heap_set4 _ _ _ _ _ _ _ _ _ _ _ HT5.out) Tryd.underlying50 rfl (by exact info_tok)) rfl ⟨?_, ?_⟩
        · rw [HV.out, extract_extract_lit, show ((i + (n + 2) : Nat) : Int) = (i : Int) + n + 2 by omega]; rfl
        · repeat' (first | (with_reducible exact HBB.out) | (with_reducible refine Below.setCell ?_ ?_ _) | (with_reducible exact Nat.le_refl _))
    · have HV := Lib.hid (nextV_fail s i 6 (by rw [HE.out, hcl]; simp only [h1]; rw [if_pos trivial]))
      clear hcl h1
      go_wp2_with fail
      refine bodyPost_ret (results_row2 rfl _ _ w.heap.size 50 _ (0, 0) _ rfl (heap_set4 _ _ _ _ _ _ _ _ _ _ _ HT5.out) Tryd.underlying50 rfl (by exact info_tok)) rfl ⟨?_, ?_⟩
      · rw [HV.out]; rfl
      · repeat' (first | (with_reducible exact HBB.out) | (with_reducible refine Below.setCell ?_ ?_ _) | (with_reducible exact Nat.le_refl _))

theorem next_sym_eq (s : ByteArray) (i : Nat) (hi : i < s.size) (hc : clsAt s i = 9) : Lx.next 2 3 4 6 (s.data.toList.drop i) = .tok 4 ((s.data.toList.drop i).take 1) 0 1 := by
  have hk := head_cl s i hi 9 hc
  rw [drop_cons' s i hi]
  unfold Lx.next
  simp only [hk]
  rw [if_neg (by decide), if_neg (by decide), if_neg (by decide), if_neg (by decide), if_pos trivial]
  rfl
theorem next_mark_eq (s : ByteArray) (i : Nat) (k : Nat) (hi : i < s.size) (hc : clsAt s i = (k : Int)) (hk2 : k = 7 ∨ k = 8) : Lx.next 2 3 4 6 (s.data.toList.drop i) =
    if Lib.hasPrefix (s.data.toList.drop (i + 1)) [61] = true then .tok 4 ((s.data.toList.drop i).take 2) 0 2 else if k = 7 then .fail 3 else .tok 4 ((s.data.toList.drop i).take 1) 0 1 := by
  have hk := head_cl s i hi k hc
  rw [drop_cons' s i hi]
  unfold Lx.next
  simp only [hk]
  rw [if_neg (by omega), if_neg (by omega), if_neg (by omega), if_pos hk2]
  have e : (Lib.hasPrefix (s.data.toList.drop (i + 1)) [61] = true) = ((s.data.toList.drop (i + 1)).head? = some 61) := by
    cases s.data.toList.drop (i + 1) with
    | nil => simp [Lib.hasPrefix, List.isPrefixOf]
    | cons a t =>
      have e2 : (61 == a) = (a == 61) := by rw [Bool.eq_iff_iff]; simp only [beq_iff_eq]; exact ⟨fun h => h.symm, fun h => h.symm⟩
      simp [Lib.hasPrefix, List.isPrefixOf, e2]
  simp only [e]
  rfl
theorem next_other_eq (s : ByteArray) (i : Nat) (k : Nat) (hi : i < s.size) (hc : clsAt s i = (k : Int)) (hk2 : k = 0 ∨ k = 1 ∨ k = 2 ∨ k = 5) : Lx.next 2 3 4 6 (s.data.toList.drop i) = .fail 3 := by
  have hk := head_cl s i hi k hc
  rw [drop_cons' s i hi]
  unfold Lx.next
  simp only [hk]
  rw [if_neg (by omega), if_neg (by omega), if_neg (by omega), if_neg (by omega), if_neg (by omega)]

set_option maxRecDepth 100000 in
set_option maxHeartbeats 2000000 in
theorem next_sym (s : ByteArray) (b : Nat) (i : Nat) (w : World) (hs : IsScan w b s) (hm : s.size ≤ 20000) (hi : i < s.size) (hc : clsAt s i = 9) :
    Calls Tryd.prog 44 #[.pointer (some ⟨b, 0, none⟩), .int .i64 i] w fun e w' =>
      e = .returned (nextV s i) ∧ Below w.heap.size w w' := by
  have Hs := Lib.hid hs; clear hs
  have HV := Lib.hid (nextV_tok s i 4 _ 0 1 (next_sym_eq s i hi hc))
  have hx := extract_lit s i 1
  have HX := Lib.hid hx; clear hx
  go_enter Tryd.func44, Tryd.ntmps44
  go_wp2_with fail
  refine (at_any s b i _ (Hs.out.alloc _) (by omega) (by omega)).mono ?_
  rintro e w1 ⟨rfl, m, rfl⟩
  rw [hc]
  clear hc
  have ht := ((Hs.out.alloc (.cells #[.int .i64 0, .string ⟨#[]⟩, .int .i64 0, .int .i64 0] 50)).drewN m).text
  go_wp2_with fail
  rw [HV.out]
  refine bodyPost_ret (v := .tuple #[tokV 4 ((s.data.toList.drop i).take 1) 0 i, .int .i64 ((i + 1 : Nat) : Int), .int .i64 0]) ?_ rfl ⟨rfl, ?_⟩
  · unfold tokV; rw [← HX.out]; simp [results, Tryd.results44, go_sem]
  · repeat' (first | (with_reducible exact Below.refl _ _) | (with_reducible refine Below.setCell ?_ ?_ _) | (with_reducible refine below_drewN' ?_ _) | (with_reducible refine Below.alloc ?_ ?_ _) | (with_reducible exact Nat.le_refl _) | (simp; done) | (simp; omega))

set_option maxRecDepth 100000 in
set_option maxHeartbeats 2000000 in
theorem next_mark (s : ByteArray) (b : Nat) (i : Nat) (w : World) (k : Nat) (hs : IsScan w b s) (hm : s.size ≤ 20000) (hi : i < s.size) (hc : clsAt s i = (k : Int)) (hk : k = 7 ∨ k = 8) :
    Calls Tryd.prog 44 #[.pointer (some ⟨b, 0, none⟩), .int .i64 i] w fun e w' =>
      e = .returned (nextV s i) ∧ Below w.heap.size w w' := by
  have Hs := Lib.hid hs; clear hs
  have HE := Lib.hid (next_mark_eq s i k hi hc hk)
  have hx := extract_lit s i 1
  have HX := Lib.hid hx; clear hx
  have hx := extract_lit s i 2
  have HX2 := Lib.hid hx; clear hx
  rcases hk with rfl | rfl
  all_goals
    go_enter Tryd.func44, Tryd.ntmps44
    go_wp2_with fail
    refine (at_any s b i _ (Hs.out.alloc _) (by omega) (by omega)).mono ?_
    rintro e w1 ⟨rfl, m, rfl⟩
    rw [hc]
    clear hc
    have ht := ((Hs.out.alloc (.cells #[.int .i64 0, .string ⟨#[]⟩, .int .i64 0, .int .i64 0] 50)).drewN m).text
    go_wp2_with fail
    refine (Tryd.strings_HasPrefix (s.extract (i + 1) s.size) ⟨#[61]⟩ _).mono ?_
    rintro e w1 ⟨rfl, hw⟩
    rw [hw, Lib.extract_to_end, show (⟨#[61]⟩ : ByteArray).data.toList = [61] from rfl]
    clear hw
    cases hp : Lib.hasPrefix (s.data.toList.drop (i + 1)) [61]
  · have HV := Lib.hid (nextV_fail s i 3 (by rw [HE.out, hp]; rfl))
    clear hp
    go_wp2_with fail
    rw [HV.out]
    refine bodyPost_ret (v := .tuple #[tok0, .int .i64 0, .int .i64 3]) (by simp [results, Tryd.results44, go_sem, tok0]) rfl ⟨rfl, ?_⟩
    repeat' (first | (with_reducible exact Below.refl _ _) | (with_reducible refine Below.setCell ?_ ?_ _) | (with_reducible refine below_drewN' ?_ _) | (with_reducible refine Below.alloc ?_ ?_ _) | (with_reducible exact Nat.le_refl _) | (simp; done) | (simp; omega))
  · have HV := Lib.hid (nextV_tok s i 4 _ 0 2 (by rw [HE.out, hp]; rfl))
    have hi2 : i + 2 ≤ s.size := by
      apply Decidable.byContradiction; intro hn
      rw [drop_end s (i + 1) (by omega)] at hp; cases hp
    clear hp
    go_wp2_with fail
    rw [HV.out]
    refine bodyPost_ret (v := .tuple #[tokV 4 ((s.data.toList.drop i).take 2) 0 i, .int .i64 ((i + 2 : Nat) : Int), .int .i64 0]) ?_ rfl ⟨rfl, ?_⟩
    · unfold tokV; rw [← HX2.out]; simp [results, Tryd.results44, go_sem]
    · repeat' (first | (with_reducible exact Below.refl _ _) | (with_reducible refine Below.setCell ?_ ?_ _) | (with_reducible refine below_drewN' ?_ _) | (with_reducible refine Below.alloc ?_ ?_ _) | (with_reducible exact Nat.le_refl _) | (simp; done) | (simp; omega))
  · have HV := Lib.hid (nextV_tok s i 4 _ 0 1 (by rw [HE.out, hp]; rfl))
    clear hp
    go_wp2_with fail
    rw [HV.out]
    refine bodyPost_ret (v := .tuple #[tokV 4 ((s.data.toList.drop i).take 1) 0 i, .int .i64 ((i + 1 : Nat) : Int), .int .i64 0]) ?_ rfl ⟨rfl, ?_⟩
    · unfold tokV; rw [← HX.out]; simp [results, Tryd.results44, go_sem]
    · repeat' (first | (with_reducible exact Below.refl _ _) | (with_reducible refine Below.setCell ?_ ?_ _) | (with_reducible refine below_drewN' ?_ _) | (with_reducible refine Below.alloc ?_ ?_ _) | (with_reducible exact Nat.le_refl _) | (simp; done) | (simp; omega))
  · have HV := Lib.hid (nextV_tok s i 4 _ 0 2 (by rw [HE.out, hp]; rfl))
    have hi2 : i + 2 ≤ s.size := by
      apply Decidable.byContradiction; intro hn
      rw [drop_end s (i + 1) (by omega)] at hp; cases hp
    clear hp
    go_wp2_with fail
    rw [HV.out]
    refine bodyPost_ret (v := .tuple #[tokV 4 ((s.data.toList.drop i).take 2) 0 i, .int .i64 ((i + 2 : Nat) : Int), .int .i64 0]) ?_ rfl ⟨rfl, ?_⟩
    · unfold tokV; rw [← HX2.out]; simp [results, Tryd.results44, go_sem]
    · repeat' (first | (with_reducible exact Below.refl _ _) | (with_reducible refine Below.setCell ?_ ?_ _) | (with_reducible refine below_drewN' ?_ _) | (with_reducible refine Below.alloc ?_ ?_ _) | (with_reducible exact Nat.le_refl _) | (simp; done) | (simp; omega))

set_option maxRecDepth 100000 in
set_option maxHeartbeats 2000000 in
theorem next_other (s : ByteArray) (b : Nat) (i : Nat) (w : World) (k : Nat) (hs : IsScan w b s) (hm : s.size ≤ 20000) (hi : i < s.size) (hc : clsAt s i = (k : Int)) (hk : k = 0 ∨ k = 1 ∨ k = 2 ∨ k = 5) :
    Calls Tryd.prog 44 #[.pointer (some ⟨b, 0, none⟩), .int .i64 i] w fun e w' =>
      e = .returned (nextV s i) ∧ Below w.heap.size w w' := by
  have Hs := Lib.hid hs; clear hs
  have HV := Lib.hid (nextV_fail s i 3 (next_other_eq s i k hi hc hk))
  rcases hk with rfl | rfl | rfl | rfl
  all_goals
    go_enter Tryd.func44, Tryd.ntmps44
    go_wp2_with fail
    refine (at_any s b i _ (Hs.out.alloc _) (by omega) (by omega)).mono ?_
    rintro e w1 ⟨rfl, m, rfl⟩
    rw [hc]
    clear hc
    go_wp2_with fail
    rw [HV.out]
    refine bodyPost_ret (v := .tuple #[tok0, .int .i64 0, .int .i64 3]) (by simp [results, Tryd.results44, go_sem, tok0]) rfl ⟨rfl, ?_⟩
    repeat' (first | (with_reducible exact Below.refl _ _) | (with_reducible refine Below.setCell ?_ ?_ _) | (with_reducible refine below_drewN' ?_ _) | (with_reducible refine Below.alloc ?_ ?_ _) | (with_reducible exact Nat.le_refl _) | (simp; done) | (simp; omega))

theorem cls_lt (c : Nat) (h : c < 256) : Lx.cls c < 10 := by
  have : ∀ c : Nat, c < 256 → Lx.cls c < 10 := by decide +kernel
  exact this c h

/-- The token at a place. -/
theorem next_any (s : ByteArray) (b : Nat) (i : Nat) (w : World) (hs : IsScan w b s) (hm : s.size ≤ 20000) (hi : i < s.size) :
    Calls Tryd.prog 44 #[.pointer (some ⟨b, 0, none⟩), .int .i64 i] w fun e w' =>
      e = .returned (nextV s i) ∧ Below w.heap.size w w' := by
  have hlt := cls_lt (s[i].toNat) (by have := s[i].toNat_lt; omega)
  obtain ⟨k, hk⟩ : ∃ k, k = Lx.cls (s[i].toNat) := ⟨_, rfl⟩
  have hc : clsAt s i = (k : Int) := by rw [clsAt_nat s i hi, hk]
  rw [← hk] at hlt
  match k, hlt, hc with
  | 0, _, hc => exact next_other s b i w 0 hs hm hi hc (by omega)
  | 1, _, hc => exact next_other s b i w 1 hs hm hi hc (by omega)
  | 2, _, hc => exact next_other s b i w 2 hs hm hi hc (by omega)
  | 3, _, hc => exact next_name s b i w hs (by omega) hi hc
  | 4, _, hc => exact next_num s b i w hs (by omega) hi hc
  | 5, _, hc => exact next_other s b i w 5 hs hm hi hc (by omega)
  | 6, _, hc => exact next_str s b i w hs hm hi hc
  | 7, _, hc => exact next_mark s b i w 7 hs hm hi hc (by omega)
  | 8, _, hc => exact next_mark s b i w 8 hs hm hi hc (by omega)
  | 9, _, hc => exact next_sym s b i w hs hm hi hc
end Go.Proofs.YtedddaojcknemaaDoor
