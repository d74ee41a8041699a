import Derived.Test.YtedddaojcknemaaDoorLexD
import Derived.Lib.Strings
import Derived.Deep.OwnRows
namespace Go.Proofs.YtedddaojcknemaaDoor
open Go.RowKit

theorem cells_lit (w : World) (bk : Nat) (zs : List Int) (t : TypeId) (vs : Array Value) (hb : w.heap.size = bk) (hv : vs = (zs.map (Value.int .i64)).toArray) : ∀ j, j < zs.length → (w.alloc (.cells vs t)).cell? ⟨bk, 0 + j, none⟩ = some (.int .i64 (zs.getD j 0)) := by
  subst hv; subst hb
  intro j hj
  rw [cell_of_row _ _ _ _ _ _ (heap_alloc_new w _)]
  simp [hj]

theorem inKs_word : inKs [3, 4, 5] = Lx.word := by
  funext k
  simp only [inKs, List.contains_cons, List.contains_nil, Bool.or_false, Lx.word]
  rw [show (((k : Int) == 3) = (k == 3)) by rw [Bool.eq_iff_iff]; simp; omega, show (((k : Int) == 4) = (k == 4)) by rw [Bool.eq_iff_iff]; simp; omega, show (((k : Int) == 5) = (k == 5)) by rw [Bool.eq_iff_iff]; simp; omega, Bool.or_assoc]
theorem inKs_digit : inKs [4] = (fun k => k == 4) := by
  funext k
  simp only [inKs, List.contains_cons, List.contains_nil, Bool.or_false]
  rw [Bool.eq_iff_iff]; simp; omega

/-- A token as Go's value. -/
def tokV (k : Int) (t : List UInt8) (n a : Int) : Value := .agg #[.int .i64 k, .string ⟨t.toArray⟩, .int .i64 n, .int .i64 a]
def tok0 : Value := .agg #[.int .i64 0, .string ⟨#[]⟩, .int .i64 0, .int .i64 0]
/-- What next returns. -/
def nextV (s : ByteArray) (i : Nat) : Value :=
  match Lx.next 2 3 4 6 (s.data.toList.drop i) with
  | .tok k t n wd => .tuple #[tokV k t n i, .int .i64 ((i + wd : Nat) : Int), .int .i64 0]
  | .fail e => .tuple #[tok0, .int .i64 0, .int .i64 e]

theorem extract_lit (s : ByteArray) (a n : Nat) : s.extract a (a + n) = ⟨((s.data.toList.drop a).take n).toArray⟩ := by
  apply ByteArray.ext
  have h := Lib.extract_data s a (a + n)
  rw [show a + n - a = n by omega] at h
  rw [← h]

theorem head_cl (s : ByteArray) (i : Nat) (hi : i < s.size) (k : Nat) (hc : clsAt s i = (k : Int)) : Lx.cl s[i] = k := by
  rw [clsAt_nat s i hi] at hc; unfold Lx.cl; omega

theorem nextV_name_long (s : ByteArray) (i : Nat) (hi : i < s.size) (hc : clsAt s i = 3) (h : 24 < Lx.run Lx.word (s.data.toList.drop i)) : nextV s i = .tuple #[tok0, .int .i64 0, .int .i64 2] := by
  have e := drop_cons' s i hi
  have hk := head_cl s i hi 3 hc
  unfold nextV
  have : Lx.next 2 3 4 6 (s.data.toList.drop i) = .fail 2 := by
    rw [e] at h ⊢; unfold Lx.next; simp only [hk, if_true]; rw [if_pos h]
  rw [this]
theorem nextV_name (s : ByteArray) (i : Nat) (hi : i < s.size) (hc : clsAt s i = 3) (h : ¬ 24 < Lx.run Lx.word (s.data.toList.drop i)) :
    nextV s i = .tuple #[tokV 1 ((s.data.toList.drop i).take (Lx.run Lx.word (s.data.toList.drop i))) 0 i, .int .i64 ((i + Lx.run Lx.word (s.data.toList.drop i) : Nat) : Int), .int .i64 0] := by
  have e := drop_cons' s i hi
  have hk := head_cl s i hi 3 hc
  unfold nextV
  have : Lx.next 2 3 4 6 (s.data.toList.drop i) = .tok 1 ((s.data.toList.drop i).take (Lx.run Lx.word (s.data.toList.drop i))) 0 (Lx.run Lx.word (s.data.toList.drop i)) := by
    rw [e] at h ⊢; unfold Lx.next; simp only [hk, if_true]; rw [if_neg h]
  rw [this]

set_option maxRecDepth 100000 in
set_option maxHeartbeats 1000000 in
theorem next_name (s : ByteArray) (b : Nat) (i : Nat) (w : World) (hs : IsScan w b s) (hm : s.size ≤ 140737488351232) (hi : i < s.size) (hc : clsAt s i = 3) :
    Calls Tryd.prog 44 #[.pointer (some ⟨b, 0, none⟩), .int .i64 i] w fun e w' =>
      e = .returned (nextV s i) ∧ Below w.heap.size w w' := by
  have Hs := Lib.hid hs; clear hs
  go_enter Tryd.func44, Tryd.ntmps44
  go_wp2_with fail
  refine (at_any s b i _ (Hs.out.alloc _) (by omega) (by omega)).mono ?_
  rintro e w1 ⟨rfl, m, rfl⟩
  rw [hc]
  have HC := Lib.hid hc; clear hc
  go_wp2_with fail
  refine (while_any s b (w.heap.size + 1) 3 3 [3, 4, 5] i _ ((((Hs.out.alloc _).drewN m)).alloc _) hm (by simp) (by omega) (cells_lit _ _ _ _ _ (by simp) rfl) (by omega)).mono ?_
  rintro e w1 ⟨rfl, m2, rfl⟩
  rw [show List.take 3 [(3 : Int), 4, 5] = [3, 4, 5] from rfl, inKs_word]
  have hle := Lx.run_le Lx.word (s.data.toList.drop i)
  simp only [List.length_drop, Array.length_toList] at hle
  have hsz : s.data.size = s.size := rfl
  rw [hsz] at hle
  obtain ⟨r, hr⟩ : ∃ r, r = Lx.run Lx.word (s.data.toList.drop i) := ⟨_, rfl⟩
  rw [← hr] at hle ⊢
  have HR := Lib.hid hr; clear hr hsz
  have ht : (((w.alloc (.cells #[.int .i64 0, .string ⟨#[]⟩, .int .i64 0, .int .i64 0] 50)).drewN m).alloc (.cells #[.int .i64 3, .int .i64 4, .int .i64 5] 3)).cell? ⟨b, 0, none⟩ = some (.string s) := (((Hs.out.alloc _).drewN m).alloc _).text
  go_wp2_with fail
  · have hv := nextV_name_long s i hi HC.out (by rw [← HR.out]; omega)
    rw [hv]
    refine bodyPost_ret (v := .tuple #[tok0, .int .i64 0, .int .i64 2]) (by simp [results, Tryd.results44, go_sem, tok0]) rfl ⟨rfl, ?_⟩
    repeat' (first | (with_reducible exact Below.refl _ _) | (with_reducible refine Below.setCell ?_ ?_ _) | (with_reducible refine below_drewN' ?_ _) | (with_reducible refine Below.alloc ?_ ?_ _) | (with_reducible exact Nat.le_refl _) | (simp; done) | (simp; omega))
  · have hv := nextV_name s i hi HC.out (by rw [← HR.out]; omega)
    rw [← HR.out] at hv
    rw [hv]
    have hx := extract_lit s i r
    refine bodyPost_ret (v := .tuple #[tokV 1 ((s.data.toList.drop i).take r) 0 i, .int .i64 ((i + r : Nat) : Int), .int .i64 0]) ?_ rfl ⟨rfl, ?_⟩
    · unfold tokV; rw [← hx]; simp [results, Tryd.results44, go_sem]
    · repeat' (first | (with_reducible exact Below.refl _ _) | (with_reducible refine Below.setCell ?_ ?_ _) | (with_reducible refine below_drewN' ?_ _) | (with_reducible refine Below.alloc ?_ ?_ _) | (with_reducible exact Nat.le_refl _) | (simp; done) | (simp; omega))
end Go.Proofs.YtedddaojcknemaaDoor
