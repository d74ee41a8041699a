import Derived.Test.YtedddaojcknemaaDoorLexC
import Derived.Test.YtedddaojcknemaaDoorLexGap
import Derived.Lib.IndexBytes
namespace Go.Proofs.YtedddaojcknemaaDoor
open Go.RowKit

theorem IsScan.alloc {w : World} {b : Nat} {s : ByteArray} (h : IsScan w b s) (o : Obj) : IsScan (w.alloc o) b s := h.below ((Below.refl _ _).alloc (Nat.le_refl _) o)

theorem ret_int {k : IntKind} {a b : Int} (h : a = b) : Ending.returned (.int k a) = .returned (.int k b) := by rw [h]
/-- where the gaps that begin at i end. -/
def gapEnd (s : ByteArray) (i : Nat) : Nat := s.size - (Lx.gap false (s.data.toList.drop i)).length
theorem gapEnd_same (s : ByteArray) (i j : Nat) (h : Lx.gap false (s.data.toList.drop i) = Lx.gap false (s.data.toList.drop j)) : gapEnd s i = gapEnd s j := by unfold gapEnd; rw [h]
theorem gapEnd_here (s : ByteArray) (j : Nat) (hj : j ≤ s.size) (h : Lx.gap false (s.data.toList.drop j) = s.data.toList.drop j) : gapEnd s j = j := by
  unfold gapEnd; rw [h]; simp; omega
theorem gapEnd_all (s : ByteArray) (j : Nat) (h : Lx.gap false (s.data.toList.drop j) = []) : gapEnd s j = s.size := by
  unfold gapEnd; rw [h]; simp
theorem inKs_one : inKs [1] = fun k => k == 1 := by
  funext k
  simp only [inKs, List.contains_cons, List.contains_nil, Bool.or_false]
  by_cases h : k = 1
  · subst h; rfl
  · rw [show (k == 1) = false by simpa using h]; simp; omega

/-- Behind the blanks. -/
def blanks (s : ByteArray) (j : Nat) : Nat := j + Lx.run (fun k => k == 1) (s.data.toList.drop j)
theorem blanks_le (s : ByteArray) (j : Nat) (hj : j ≤ s.size) : j ≤ blanks s j ∧ blanks s j ≤ s.size := by
  unfold blanks
  have := Lx.run_le (fun k => k == 1) (s.data.toList.drop j)
  simp at this
  omega
theorem blanks_gap (s : ByteArray) (j : Nat) : Lx.gap false (s.data.toList.drop (blanks s j)) = Lx.gap false (s.data.toList.drop j) := by
  unfold blanks
  rw [← List.drop_drop, Lx.gap_blanks]
theorem blanks_stop (s : ByteArray) (j : Nat) (h : blanks s j < s.size) : clsAt s (blanks s j) ≠ 1 := by
  rw [clsAt_nat s _ h]
  have h1 : (s.data.toList.drop j).drop (Lx.run (fun k => k == 1) (s.data.toList.drop j)) = s[blanks s j] :: s.data.toList.drop (blanks s j + 1) := by
    rw [List.drop_drop]; exact drop_cons' s _ h
  have := Lx.run_stops _ _ _ _ h1
  intro e
  have h2 : Lx.cl (s[blanks s j]) = 1 := by unfold Lx.cl; omega
  simp [h2] at this

theorem stop_here (s : ByteArray) (j : Nat) (hj : j ≤ s.size) (h1 : j < s.size → clsAt s j ≠ 1) (h2 : clsAt s j ≠ 2) : gapEnd s j = j := by
  apply gapEnd_here s j hj
  by_cases h : j < s.size
  · rw [drop_cons' s j h]
    have h1' := h1 h
    rw [clsAt_nat s j h] at h1' h2
    exact Lx.gap_else _ _ (by unfold Lx.cl; omega) (by unfold Lx.cl; omega)
  · rw [drop_end s j (by omega)]; rfl
theorem clsAt_end (s : ByteArray) (j : Nat) (h : s.size ≤ j) : clsAt s j = 0 := by unfold clsAt; rw [dif_neg (by simpa using h)]
theorem hash_in (s : ByteArray) (j : Nat) (h : clsAt s j = 2) : j < s.size := by
  apply Decidable.byContradiction; intro hn; rw [clsAt_end s j (by omega)] at h; cases h
theorem hash_none (s : ByteArray) (j : Nat) (h : clsAt s j = 2) (hi : Lib.indexByte (s.data.toList.drop j) 10 = -1) : gapEnd s j = s.size := by
  have hl := hash_in s j h
  apply gapEnd_all
  rw [drop_cons' s j hl] at hi ⊢
  rw [clsAt_nat s j hl] at h
  rw [Lx.gap_hash _ _ (by unfold Lx.cl; omega)]
  exact Lx.gap_comment_none _ hi
theorem hash_some (s : ByteArray) (j n : Nat) (h : clsAt s j = 2) (hi : Lib.indexByte (s.data.toList.drop j) 10 = n) :
    Lx.gap false (s.data.toList.drop j) = Lx.gap false (s.data.toList.drop (j + n)) ∧ j + n < s.size ∧ 0 < n := by
  have hl := hash_in s j h
  have e := drop_cons' s j hl
  rw [clsAt_nat s j hl] at h
  have hh : Lx.cl s[j] = 2 := by unfold Lx.cl; omega
  have hc : s[j] ≠ 10 := by intro e; rw [e] at hh; revert hh; decide
  have hg := Lx.gap_comment_some _ _ hi
  have hlen : (s.data.toList.drop j).length = s.size - j := by simp
  refine ⟨?_, by omega, ?_⟩
  · rw [← List.drop_drop, ← hg.1, e]; exact Lx.gap_hash _ _ hh
  · rcases Nat.eq_zero_or_pos n with h0 | h0
    · subst h0
      rw [e] at hi
      unfold Lib.indexByte at hi
      rw [show (s[j] == 10) = false by simpa using hc] at hi
      simp only [Bool.false_eq_true, if_false] at hi
      have := Lib.indexByte_ge (s.data.toList.drop (j+1)) 10
      split at hi
      · omega
      · rename_i h3; have : Lib.indexByte (s.data.toList.drop (j+1)) 10 ≠ -1 := by simpa using h3
        omega
    · exact h0

/-- What the loop over gaps carries. -/
def GapRel (s : ByteArray) (b i : Nat) (w : World) (x : Value) (wr : World) : Prop :=
  ∃ j : Nat, i ≤ j ∧ j ≤ s.size ∧ x = .int .i64 j ∧ gapEnd s i = gapEnd s j ∧ (j < s.size → clsAt s j ≠ 1) ∧ Below w.heap.size w wr ∧ IsScan wr b s

theorem cell_lit1 (w : World) (v : Value) (t : TypeId) (zs : List Int) (hz : zs = [1]) (hv : v = .int .i64 1) : ∀ j, j < zs.length → (w.alloc (.cells #[v] t)).cell? ⟨w.heap.size, 0 + j, none⟩ = some (.int .i64 (zs.getD j 0)) := by
  subst hz; subst hv
  intro j hj
  have : j = 0 := by simpa using hj
  subst this
  exact (cell_of_row _ _ 0 _ _ _ (heap_alloc_new w _)).trans rfl

set_option maxHeartbeats 1000000 in
theorem gap_any (s : ByteArray) (b : Nat) (i : Nat) (w : World) (hs : IsScan w b s) (hm : s.size ≤ 140737488351232) (hi : i ≤ s.size) :
    Calls Tryd.prog 43 #[.pointer (some ⟨b, 0, none⟩), .int .i64 i] w fun e w' =>
      e = .returned (.int .i64 (gapEnd s i : Nat)) ∧ Below w.heap.size w w' := by
  have Hs := Lib.hid hs; clear hs
  go_enter Tryd.func43, Tryd.ntmps43
  go_wp2_with fail
  refine (while_any s b w.heap.size 1 1 [1] i _ (Hs.out.alloc _) hm (by simp) (by omega) (cell_lit1 _ _ _ _ rfl rfl) hi).mono ?_
  rintro e w1 ⟨rfl, m, rfl⟩
  rw [show (i + Lx.run (inKs (List.take 1 [1])) (s.data.toList.drop i)) = blanks s i by unfold blanks; rw [← inKs_one]; rfl]
  have hb1 := blanks_le s i hi
  go_wp2_with fail
  go_loopw [1, 5] (fun x _ wr => Hid (GapRel s b i w x wr)) (fun x _ _ => s.size - (intOf x).toNat)
  case atStart =>
    exact Lib.hid ⟨blanks s i, hb1.1, hb1.2, rfl, (gapEnd_same s _ _ (blanks_gap s i)).symm, fun h => blanks_stop s i h, below_drewN' ((Below.refl _ _).alloc (Nat.le_refl _) _) _, (Hs.out.alloc _).drewN _⟩
  case round =>
    obtain ⟨j, hij, hj, rfl, hge, hst, hbel, hsc⟩ := hrel.out
    have HGE := Lib.hid hge; have HST := Lib.hid hst; have HB := Lib.hid hbel; have HSC := Lib.hid hsc
    clear hge hst hbel hsc hrel
    go_wp2_with fail
    refine (at_any s b j _ HSC.out (by omega) (by omega)).mono ?_
    rintro e w1 ⟨rfl, m1, rfl⟩
    by_cases hh : clsAt s j = 2
    · have hlt := hash_in s j hh
      have ht : (wr.drewN m1).cell? ⟨b, 0, none⟩ = some (.string s) := HSC.out.text
      have hhb : (clsAt s (j : Int) == 2) = true := by simp [hh]
      have HH := Lib.hid hh; clear hh
      go_wp2_with fail
      refine (Tryd.strings_IndexByte (s.extract j s.size) 10 _).mono ?_
      rintro e w2 ⟨rfl, rfl⟩
      rw [Lib.extract_to_end]
      by_cases hneg : Lib.indexByte (s.data.toList.drop j) 10 = -1
      · have hN := Lib.hid hneg
        rw [show Lib.indexByte (List.drop j s.data.toList) (Int.toNat 10).toUInt8 = -1 from hneg]
        clear hneg
        go_wp2_with fail
        go_ret
        exact ⟨ret_int (by rw [HGE.out, hash_none s j HH.out hN.out]), below_drewN' HB.out _⟩
      · have hge0 := Lib.indexByte_ge (s.data.toList.drop j) 10
        obtain ⟨n, hn⟩ := Int.eq_ofNat_of_zero_le (show 0 ≤ Lib.indexByte (s.data.toList.drop j) 10 by omega)
        rw [show Lib.indexByte (List.drop j s.data.toList) (Int.toNat 10).toUInt8 = (n : Int) from hn]
        obtain ⟨k1, k2, k3⟩ := hash_some s j n HH.out hn
        have K1 := Lib.hid k1
        clear hn hge0 hneg k1
        go_wp2_with fail
        refine (while_any s b (wr.drewN m1).heap.size 1 1 [1] (j + n) _ ((HSC.out.drewN m1).alloc _) hm (by simp) (by omega) (cell_lit1 _ _ _ _ rfl rfl) (by omega)).mono ?_
        rintro e w1 ⟨rfl, m2, rfl⟩
        rw [show (j + n + Lx.run (inKs (List.take 1 [1])) (s.data.toList.drop (j + n))) = blanks s (j + n) by unfold blanks; rw [← inKs_one]; rfl]
        have hb2 := blanks_le s (j + n) (by omega)
        go_wp2_with fail
        go_roundw
        case rel =>
          exact Lib.hid ⟨blanks s (j + n), by omega, hb2.2, rfl, by rw [HGE.out]; exact gapEnd_same s _ _ (K1.out.trans (blanks_gap s _).symm), fun h => blanks_stop s _ h,
            below_drewN' ((below_drewN' HB.out _).alloc HB.out.size _) _, ((HSC.out.drewN _).alloc _).drewN _⟩
        case measure => simp [intOf]; omega
    · have hhb : (clsAt s (j : Int) == 2) = false := by simpa using hh
      have HH := Lib.hid hh; clear hh
      go_wp2_with fail
      go_ret
      exact ⟨ret_int (by rw [HGE.out, stop_here s j hj HST.out HH.out]), below_drewN' HB.out _⟩
end Go.Proofs.YtedddaojcknemaaDoor
