import Derived.Test.YtedddaojcknemaaDoorLexF
namespace Go.Proofs.YtedddaojcknemaaDoor
open Go.RowKit

/-! A struct of four cells stored into its block, and handed back beside two temporaries. -/
theorem heap_set4 (W : World) (g : Nat) (t : TypeId) (o0 o1 o2 o3 a0 a1 a2 a3 : Value) (hb : W.heap[g]? = some (.cells #[o0, o1, o2, o3] t (0, 0))) :
    ((((W.setCell ⟨g, 0, none⟩ a0).setCell ⟨g, 1, none⟩ a1).setCell ⟨g, 2, none⟩ a2).setCell ⟨g, 3, none⟩ a3).heap[g]? = some (.cells #[a0, a1, a2, a3] t (0, 0)) := by
  have h0 := heap_setCell_same W g 0 _ t a0 hb
  have h1 := heap_setCell_same _ g 1 _ t a1 h0
  have h2 := heap_setCell_same _ g 2 _ t a2 h1
  have h3 := heap_setCell_same _ g 3 _ t a3 h2
  exact h3
theorem results_row2 {P : Program} {fn : Func} {p x y : Tmp} {ty : TypeId} (h : fn.results = #[.cell p ty, .tmp x, .tmp y]) (tmps : Array Value) (w : World) (g : Nat) (t : TypeId) (cs : Array Value) (fr : Nat × Nat) (d : TypeDesc)
    (hp : tmps.getD p undef = .pointer (some ⟨g, 0, none⟩)) (hg : w.heap[g]? = some (.cells cs t fr))
    (hu : P.underlying ty = some d) (hd : (match d with | .struct _ | .array _ _ => true | _ => false) = true) (hi : (P.info? ty).map (·.size) = some cs.size) :
    (results fn tmps).run P w = .ok (.tuple #[.agg cs, tmps.getD x undef, tmps.getD y undef]) w := by
  have hp' : tmps[p]?.getD undef = .pointer (some ⟨g, 0, none⟩) := by simpa using hp
  simp [results, h, hp', asAddr, run_loadVar_row w g t ty cs fr d hg hu hd hi]
theorem info_tok : (Tryd.prog.info? 50).map (·.size) = some 4 := by kernel_rfl
/-- The length of the run of digits at i. -/
def numW (s : ByteArray) (i : Nat) : Nat := Lx.run (fun k => k == 4) (s.data.toList.drop i)
theorem numW_le (s : ByteArray) (i : Nat) (_hi : i < s.size) : numW s i ≤ s.size - i := by
  have := Lx.run_le (fun k => k == 4) (s.data.toList.drop i)
  simpa [numW] using this
theorem numW_pos (s : ByteArray) (i : Nat) (hi : i < s.size) (hc : clsAt s i = 4) : 0 < numW s i := by
  have hk := head_cl s i hi 4 hc
  unfold numW
  rw [drop_cons' s i hi, Lx.run, if_pos (by rw [hk]; rfl)]; omega
theorem after_cls (s : ByteArray) (j : Nat) : Lx.headCl (s.data.toList.drop j) = (clsAt s j).toNat := by
  by_cases h : j < s.size
  · rw [drop_cons' s j h, clsAt_nat s j h]; rfl
  · rw [drop_end s j (by omega), clsAt_end s j (by omega)]; rfl
theorem clsAt_ge (s : ByteArray) (j : Int) : 0 ≤ clsAt s j := by unfold clsAt; split <;> omega

def numBad (s : ByteArray) (i : Nat) : Bool := decide (13 < numW s i) || clsAt s ((i + numW s i : Nat) : Int) == 3 || clsAt s ((i + numW s i : Nat) : Int) == 5
theorem next_num_eq (s : ByteArray) (i : Nat) (hi : i < s.size) (hc : clsAt s i = 4) : Lx.next 2 3 4 6 (s.data.toList.drop i) =
    if numBad s i = true then .fail 4 else .tok 2 ((s.data.toList.drop i).take (numW s i)) (Lx.digits ((s.data.toList.drop i).take (numW s i)) 0) (numW s i) := by
  have e := drop_cons' s i hi
  have hk := head_cl s i hi 4 hc
  have ha := after_cls s (i + numW s i)
  have hg := clsAt_ge s ((i + numW s i : Nat) : Int)
  rw [← List.drop_drop] at ha
  generalize hx : clsAt s ((i + numW s i : Nat) : Int) = x at ha hg
  have hb : numBad s i = (decide (13 < numW s i) || x == 3 || x == 5) := by unfold numBad; rw [hx]
  rw [hb]
  have t3 : (x == 3) = (x.toNat == 3) := by rw [Bool.eq_iff_iff]; simp; omega
  have t5 : (x == 5) = (x.toNat == 5) := by rw [Bool.eq_iff_iff]; simp; omega
  rw [t3, t5, ← ha]
  unfold numW
  rw [e]
  unfold Lx.next
  simp only [hk]
  rw [if_neg (by decide), if_pos trivial]

theorem nextV_num_bad (s : ByteArray) (i : Nat) (hi : i < s.size) (hc : clsAt s i = 4) (h : numBad s i = true) : nextV s i = .tuple #[tok0, .int .i64 0, .int .i64 4] := by
  unfold nextV; rw [next_num_eq s i hi hc, if_pos h]
theorem nextV_num (s : ByteArray) (i : Nat) (hi : i < s.size) (hc : clsAt s i = 4) (h : numBad s i = false) :
    nextV s i = .tuple #[tokV 2 ((s.data.toList.drop i).take (numW s i)) (Lx.digits ((s.data.toList.drop i).take (numW s i)) 0) i, .int .i64 ((i + numW s i : Nat) : Int), .int .i64 0] := by
  unfold nextV; rw [next_num_eq s i hi hc, if_neg (by simp [h])]

set_option maxRecDepth 100000 in
set_option maxHeartbeats 1000000 in
theorem next_num (s : ByteArray) (b : Nat) (i : Nat) (w : World) (hs : IsScan w b s) (hm : s.size ≤ 140737488351232) (hi : i < s.size) (hc : clsAt s i = 4) :
    Calls Tryd.prog 44 #[.pointer (some ⟨b, 0, none⟩), .int .i64 i] w fun e w' =>
      e = .returned (nextV s i) ∧ Below w.heap.size w w' := by
  have Hs := Lib.hid hs; clear hs
  go_enter Tryd.func44, Tryd.ntmps44
  go_wp2_with fail
  refine (at_any s b i _ (Hs.out.alloc _) (by omega) (by omega)).mono ?_
  rintro e w1 ⟨rfl, m, rfl⟩
  rw [hc]
  have HC := Lib.hid hc; clear hc
  go_wp2_with fail
  refine (while_any s b (w.heap.size + 1) 1 1 [4] i _ ((((Hs.out.alloc _).drewN m)).alloc _) hm (by simp) (by omega) (cells_lit _ _ _ _ _ (by simp) rfl) (by omega)).mono ?_
  rintro e w1 ⟨rfl, m2, rfl⟩
  rw [show List.take 1 [(4 : Int)] = [4] from rfl, inKs_digit, show Lx.run (fun k => k == 4) (s.data.toList.drop i) = numW s i from rfl]
  have hle := numW_le s i hi
  have hpos := numW_pos s i hi HC.out
  obtain ⟨r, hr⟩ : ∃ r, r = numW s i := ⟨_, rfl⟩
  rw [← hr] at hle hpos ⊢
  have HR := Lib.hid hr; clear hr
  go_wp2_with fail
  rw [show (i : Int) + (r : Int) = ((i + r : Nat) : Int) by omega]
  refine (at_any s b ((i + r : Nat) : Int) _ (((((Hs.out.alloc _).drewN m)).alloc _).drewN m2) (by omega) (by omega)).mono ?_
  rintro e w1 ⟨rfl, m3, rfl⟩
  obtain ⟨x, hx⟩ : ∃ x, x = clsAt s ((i + r : Nat) : Int) := ⟨_, rfl⟩
  rw [← hx]
  have hbad : numBad s i = (decide (13 < r) || x == 3 || x == 5) := by unfold numBad; rw [← HR.out, ← hx]
  have HB := Lib.hid hbad; clear hbad
  have HX := Lib.hid hx; clear hx
  have ht := (((Hs.out.alloc (.cells #[.int .i64 0, .string ⟨#[]⟩, .int .i64 0, .int .i64 0] 50)).drewN m).alloc (.cells #[.int .i64 4] 3)).text
  cases hb : numBad s i
  · have hb2 := hb
    rw [HB.out] at hb2
    simp only [Bool.or_eq_false_iff, decide_eq_false_iff_not] at hb2
    obtain ⟨⟨h13, h3⟩, h5⟩ := hb2
    have HV := Lib.hid (nextV_num s i hi HC.out hb)
    have HA := Lib.hid (atoi_digits ((s.data.toList.drop i).take r) (by intro e; have := congrArg List.length e; simp at this; have hz : s.data.size = s.size := rfl; omega) (by intro c hcm; have := run_all (fun k => k == 4) (s.data.toList.drop i) c (by rw [HR.out] at hcm; exact hcm); simpa using this))
    clear hb
    have hsz : (s.extract i (i + r)).size ≤ 18 := by simp; omega
    have hxt := extract_lit s i r
    have HXT := Lib.hid hxt; clear hxt
    go_wp2_with fail
    refine (Tryd.strconv_Atoi (s.extract i (i + r)) _ hsz (by rw [HXT.out]; exact HA.out) _).mono ?_
    rintro e w5 ⟨rfl, t, hw5⟩
    have B5 := Lib.bytesWorld_below (((((w.alloc (.cells #[.int .i64 0, .string ⟨#[]⟩, .int .i64 0, .int .i64 0] 50)).drewN m).alloc (.cells #[.int .i64 4] 3)).drewN m2).drewN m3) 5 t
    rw [drewN_add, ← hw5] at B5
    clear hw5
    have HT5 := Lib.hid ((B5.block w.heap.size (by simp; omega)).trans (heap_alloc2_old w (.cells #[.int .i64 0, .string ⟨#[]⟩, .int .i64 0, .int .i64 0] 50) (.cells #[.int .i64 4] 3)))
    have c0 := cell_of_row _ _ 0 _ _ _ HT5.out
    have c1 := cell_of_row _ _ 1 _ _ _ HT5.out
    have c2 := cell_of_row _ _ 2 _ _ _ HT5.out
    have c3 := cell_of_row _ _ 3 _ _ _ HT5.out
    have f0 := frozen_of_row _ _ 0 _ _ HT5.out
    have f1 := frozen_of_row _ _ 1 _ _ HT5.out
    have f2 := frozen_of_row _ _ 2 _ _ HT5.out
    have f3 := frozen_of_row _ _ 3 _ _ HT5.out
    have ht5 : w5.cell? ⟨b, 0, none⟩ = some (.string s) := (B5.cell (p := ⟨b, 0, none⟩) (World.block_lt_of_cell? _ _ ht)).trans ht
    have HB5 := Lib.hid B5; clear B5
    go_wp2_with fail
    refine bodyPost_ret (results_row2 rfl _ _ w.heap.size 50 _ (0, 0) _ rfl (heap_set4 _ _ _ _ _ _ _ _ _ _ _ HT5.out) Tryd.underlying50 rfl (by exact info_tok)) rfl ⟨?_, ?_⟩
    · rw [HV.out, ← HR.out, HXT.out, Int.natCast_add]; rfl
    · have HBB : Below w.heap.size w w5 := Below.trans (by repeat' (first | (with_reducible exact Below.refl _ _) | (with_reducible refine below_drewN' ?_ _) | (with_reducible refine Below.alloc ?_ ?_ _) | (with_reducible exact Nat.le_refl _) | (simp; done) | (simp; omega))) (HB5.out.mono (by simp; omega))
      repeat' (first | (with_reducible exact HBB) | (with_reducible refine Below.setCell ?_ ?_ _) | (with_reducible exact Nat.le_refl _))
  · have HV := Lib.hid (nextV_num_bad s i hi HC.out hb)
    have hb2 := hb
    rw [HB.out] at hb2
    clear hb
    by_cases h13 : 13 < r
    · clear hb2
      go_wp2_with fail
      refine bodyPost_ret (v := .tuple #[tok0, .int .i64 0, .int .i64 4]) (by simp [results, Tryd.results44, go_sem, tok0]) rfl ⟨by rw [HV.out], ?_⟩
      repeat' (first | (with_reducible exact Below.refl _ _) | (with_reducible refine Below.setCell ?_ ?_ _) | (with_reducible refine below_drewN' ?_ _) | (with_reducible refine Below.alloc ?_ ?_ _) | (with_reducible exact Nat.le_refl _) | (simp; done) | (simp; omega))
    · cases h3 : x == 3
      · have h5 : (x == 5) = true := by rw [h3, decide_eq_false h13] at hb2; simpa using hb2
        clear hb2
        go_wp2_with fail
        refine bodyPost_ret (v := .tuple #[tok0, .int .i64 0, .int .i64 4]) (by simp [results, Tryd.results44, go_sem, tok0]) rfl ⟨by rw [HV.out], ?_⟩
        repeat' (first | (with_reducible exact Below.refl _ _) | (with_reducible refine Below.setCell ?_ ?_ _) | (with_reducible refine below_drewN' ?_ _) | (with_reducible refine Below.alloc ?_ ?_ _) | (with_reducible exact Nat.le_refl _) | (simp; done) | (simp; omega))
      · clear hb2
        go_wp2_with fail
        refine bodyPost_ret (v := .tuple #[tok0, .int .i64 0, .int .i64 4]) (by simp [results, Tryd.results44, go_sem, tok0]) rfl ⟨by rw [HV.out], ?_⟩
        repeat' (first | (with_reducible exact Below.refl _ _) | (with_reducible refine Below.setCell ?_ ?_ _) | (with_reducible refine below_drewN' ?_ _) | (with_reducible refine Below.alloc ?_ ?_ _) | (with_reducible exact Nat.le_refl _) | (simp; done) | (simp; omega))
end Go.Proofs.YtedddaojcknemaaDoor
