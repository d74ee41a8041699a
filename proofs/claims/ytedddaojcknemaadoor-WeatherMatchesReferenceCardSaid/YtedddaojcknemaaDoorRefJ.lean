/- The reference's lexer, next: walked. -/
import Derived.Test.YtedddaojcknemaaDoorRefF
import Derived.Test.YtedddaojcknemaaDoorLexH
namespace Go.Proofs.YtedddaojcknemaaDoor
open Go.RowKit

def rnextV (s : ByteArray) (i : Nat) : Value := match Lx.next 2 3 4 6 (s.data.toList.drop i) with
  | .fail e => .tuple #[tok0, .int .i64 e]
  | .tok k t n _ => .tuple #[tokV k t n i, .int .i64 0]
theorem rnextV_fail (s : ByteArray) (i : Nat) (e : Int) (h : Lx.next 2 3 4 6 (s.data.toList.drop i) = .fail e) : rnextV s i = .tuple #[tok0, .int .i64 e] := by unfold rnextV; rw [h]
theorem rnextV_tok (s : ByteArray) (i : Nat) (k : Int) (t : List UInt8) (n : Int) (wd : Nat) (h : Lx.next 2 3 4 6 (s.data.toList.drop i) = .tok k t n wd) :
    rnextV s i = .tuple #[tokV k t n i, .int .i64 0] := by unfold rnextV; rw [h]

theorem letter_cl (c : UInt8) : Lx.isLetter c.toNat = decide (Lx.cl c = 3) := by
  have : ∀ n : Fin 256, Lx.isLetter n.val = decide (Lx.cls n.val = 3) := by decide +kernel
  exact this ⟨c.toNat, c.toNat_lt⟩
theorem digit_cl (c : UInt8) : Lx.isDigit c.toNat = decide (Lx.cl c = 4) := by
  have : ∀ n : Fin 256, Lx.isDigit n.val = decide (Lx.cls n.val = 4) := by decide +kernel
  exact this ⟨c.toNat, c.toNat_lt⟩
theorem word_cl (c : UInt8) : wordB c.toNat = Lx.word (Lx.cl c) := by
  have : ∀ n : Fin 256, wordB n.val = Lx.word (Lx.cls n.val) := by decide +kernel
  exact this ⟨c.toNat, c.toNat_lt⟩
theorem quote_cl (c : UInt8) : ((c.toNat : Int) == 34) = decide (Lx.cl c = 6) := by
  have : ∀ n : Fin 256, ((n.val : Int) == 34) = decide (Lx.cls n.val = 6) := by decide +kernel
  exact this ⟨c.toNat, c.toNat_lt⟩
theorem mark_cl (c : UInt8) : (([33, 60, 61, 62] : List UInt8).any fun e => e.toNat == c.toNat) = decide (Lx.cl c = 7 ∨ Lx.cl c = 8) := by
  have : ∀ n : Fin 256, (([33, 60, 61, 62] : List UInt8).any fun e => e.toNat == n.val) = decide (Lx.cls n.val = 7 ∨ Lx.cls n.val = 8) := by decide +kernel
  exact this ⟨c.toNat, c.toNat_lt⟩
theorem sym_cl (c : UInt8) : (([59, 44, 46, 58, 40, 41, 91, 93, 123, 125, 61, 60, 62, 43, 45, 42, 47] : List UInt8).any fun e => e.toNat == c.toNat) = decide (Lx.cl c = 8 ∨ Lx.cl c = 9) := by
  have : ∀ n : Fin 256, (([59, 44, 46, 58, 40, 41, 91, 93, 123, 125, 61, 60, 62, 43, 45, 42, 47] : List UInt8).any fun e => e.toNat == n.val) = decide (Lx.cls n.val = 8 ∨ Lx.cls n.val = 9) := by decide +kernel
  exact this ⟨c.toNat, c.toNat_lt⟩

/-- The two blocks that next makes: the result's, and t's. -/
structure NW (w W : World) (b4 b7 : Nat) (i : Nat) : Prop where
  h4 : W.heap[b4]? = some (.cells #[.int .i64 0, .string ⟨#[]⟩, .int .i64 0, .int .i64 0] 50 (0, 0))
  h7 : W.heap[b7]? = some (.cells #[.int .i64 0, .string ⟨#[]⟩, .int .i64 0, .int .i64 i] 50 (0, 0))
  hb : Below w.heap.size w W
  lt : w.heap.size = b4 ∧ b4 < b7

theorem run_step (p : Nat → Bool) (s : ByteArray) (j : Nat) (h : j < s.size) (hp : p (Lx.cl s[j]) = true) : Lx.run p (s.data.toList.drop j) = Lx.run p (s.data.toList.drop (j + 1)) + 1 := by
  rw [drop_cons' s j h, Lx.run, if_pos hp]
theorem run_stop (p : Nat → Bool) (s : ByteArray) (j : Nat) (h : j < s.size) (hp : p (Lx.cl s[j]) = false) : Lx.run p (s.data.toList.drop j) = 0 := by
  rw [drop_cons' s j h, Lx.run, if_neg (by simp [hp])]
theorem run_none (p : Nat → Bool) (s : ByteArray) (j : Nat) (h : s.size ≤ j) : Lx.run p (s.data.toList.drop j) = 0 := by rw [drop_end s j h]; rfl

theorem next_name_eq (s : ByteArray) (i : Nat) (hi : i < s.size) (hc : Lx.cl s[i] = 3) : Lx.next 2 3 4 6 (s.data.toList.drop i) =
    if Lx.run Lx.word (s.data.toList.drop i) > 24 then .fail 2 else .tok 1 ((s.data.toList.drop i).take (Lx.run Lx.word (s.data.toList.drop i))) 0 (Lx.run Lx.word (s.data.toList.drop i)) := by
  rw [drop_cons' s i hi]
  unfold Lx.next
  simp only [hc]
  rw [if_pos trivial]
theorem results_one {P : Program} {fn : Func} {p x : Tmp} {ty : TypeId} (h : fn.results = #[.cell p ty, .tmp x]) (tmps : Array Value) (w : World) (g : Nat) (t : TypeId) (cs : Array Value) (fr : Nat × Nat) (d : TypeDesc)
    (hp : tmps.getD p undef = .pointer (some ⟨g, 0, none⟩)) (hg : w.heap[g]? = some (.cells cs t fr))
    (hu : P.underlying ty = some d) (hd : (match d with | .struct _ | .array _ _ => true | _ => false) = true) (hi : (P.info? ty).map (·.size) = some cs.size) :
    (results fn tmps).run P w = .ok (.tuple #[.agg cs, tmps.getD x undef]) w := by
  have hp' : tmps[p]?.getD undef = .pointer (some ⟨g, 0, none⟩) := by simpa using hp
  simp [results, h, hp', asAddr, run_loadVar_row w g t ty cs fr d hg hu hd hi]
theorem keepSet {w : World} {b k i : Nat} {o : Obj} (h : w.heap[k]? = some o) (hk : k ≠ b) (v : Value) : (w.setCell ⟨b, i, none⟩ v).heap[k]? = some o := (heap_setCell_other w ⟨b, i, none⟩ k v hk).trans h
theorem set4_below {w W : World} {b : Nat} (h : Below w.heap.size w W) (hb : w.heap.size ≤ b) (v0 v1 v2 v3 : Value) :
    Below w.heap.size w ((((W.setCell ⟨b, 0, none⟩ v0).setCell ⟨b, 1, none⟩ v1).setCell ⟨b, 2, none⟩ v2).setCell ⟨b, 3, none⟩ v3) :=
  (((h.setCell (by exact hb) _).setCell (by exact hb) _).setCell (by exact hb) _).setCell (by exact hb) _
theorem nw_start (w : World) (i : Nat) : NW w ((w.alloc (.cells #[.int .i64 0, .string ⟨#[]⟩, .int .i64 0, .int .i64 0] 50)).alloc (.cells #[.int .i64 0, .string ⟨#[]⟩, .int .i64 0, .int .i64 i] 50)) w.heap.size (w.heap.size + 1) i where
  h4 := heap_alloc2_old w _ _
  h7 := by have := heap_alloc_new (w.alloc (.cells #[.int .i64 0, .string ⟨#[]⟩, .int .i64 0, .int .i64 0] 50)) (.cells #[.int .i64 0, .string ⟨#[]⟩, .int .i64 0, .int .i64 i] 50); simpa using this
  hb := ((Below.refl _ _).alloc (Nat.le_refl _) _).alloc (by simp) _
  lt := ⟨rfl, by omega⟩

set_option maxRecDepth 100000 in
set_option maxHeartbeats 4000000 in
theorem rnext_name (s : ByteArray) (i : Nat) (w : World) (hm : s.size ≤ 20000) (hi : i < s.size) (hc : Lx.cl s[i] = 3) :
    Calls Tryd.prog 52 #[.string s, .int .i64 i] w fun e w' => e = .returned (rnextV s i) ∧ Below w.heap.size w w' := by
  have hL : Lx.isLetter s[i].toNat = true := by rw [letter_cl, decide_eq_true hc]
  have HL := Lib.hid hL; clear hL
  have HS := Lib.hid (run_step Lx.word s i hi (by rw [hc]; rfl))
  have HC := Lib.hid hc; clear hc
  go_enter Tryd.func52, Tryd.ntmps52
  go_wp2_with fail
  refine (rletter_any _ _).mono ?_
  rintro e w' ⟨rfl, hw⟩
  rw [hw, HL.out]; clear hw
  go_wp2_with fail
  have HN := Lib.hid (nw_start w i)
  generalize (w.alloc (.cells #[.int .i64 0, .string ⟨#[]⟩, .int .i64 0, .int .i64 0] 50)).alloc (.cells #[.int .i64 0, .string ⟨#[]⟩, .int .i64 0, .int .i64 i] 50) = W at HN ⊢
  obtain ⟨b4, hb4⟩ : ∃ b, b = w.heap.size := ⟨_, rfl⟩
  obtain ⟨b7, hb7⟩ : ∃ b, b = w.heap.size + 1 := ⟨_, rfl⟩
  rw [← hb7, ← hb4] at HN ⊢
  clear hb4 hb7
  go_loopw [6] (fun x wr => Hid ((∃ j : Nat, x = .int .i64 j ∧ i < j ∧ j ≤ s.size ∧ Lx.run Lx.word (s.data.toList.drop j) + (j - i) = Lx.run Lx.word (s.data.toList.drop i)) ∧ wr = W)) (fun x _ => s.size - (intOf x).toNat)
  case atStart => exact Lib.hid ⟨⟨i + 1, by simp, by omega, by omega, by have := HS.out; omega⟩, rfl⟩
  case round =>
    obtain ⟨⟨j, rfl, hij, hj, hr⟩, hw⟩ := hrel.out
    have HR := Lib.hid hr
    have HW := Lib.hid hw
    clear hr hw hrel
    by_cases hgo : j < s.size ∧ ∀ h : j < s.size, Lx.word (Lx.cl s[j]) = true
    · obtain ⟨hlt, hwd⟩ := hgo
      have HD := Lib.hid (hwd hlt); clear hwd
      go_wp2_with fail
      refine (rword_any _ _).mono ?_
      rintro e w' ⟨rfl, hw⟩
      rw [hw, word_cl, HD.out]; clear hw
      go_wp2_with fail
      go_roundw
      case rel => exact Lib.hid ⟨⟨j + 1, by simp, by omega, by omega, by have := run_step Lx.word s j hlt HD.out; have := HR.out; omega⟩, HW.out⟩
      case measure => simp [intOf]; omega
    · have hstop : Hid (Lx.run Lx.word (s.data.toList.drop i) = j - i) := Lib.hid (by
        have h0 := HR.out
        by_cases hlt : j < s.size
        · cases hwd : Lx.word (Lx.cl s[j])
          · have := run_stop Lx.word s j hlt hwd; omega
          · exact absurd ⟨hlt, fun _ => hwd⟩ hgo
        · have := run_none Lx.word s j (by omega); omega)
      obtain ⟨h4, h7, hbel, he, hlt47⟩ := HN.out
      have hne : b4 ≠ b7 := by omega
      have hne' : b7 ≠ b4 := by omega
      rw [← HW.out] at h4 h7 hbel
      have q4 := keepSet h4 hne (i := 0) (.int .i64 1)
      have g0 := (cell_of_row _ _ 0 _ _ _ h4).trans (show _ = some (Value.int .i64 0) from rfl)
      have g1 := (cell_of_row _ _ 1 _ _ _ h4).trans (show _ = some (Value.string ⟨#[]⟩) from rfl)
      have g2 := (cell_of_row _ _ 2 _ _ _ h4).trans (show _ = some (Value.int .i64 0) from rfl)
      have g3 := (cell_of_row _ _ 3 _ _ _ h4).trans (show _ = some (Value.int .i64 0) from rfl)
      have e0 := frozen_of_row _ _ 0 _ _ h4
      have e1 := frozen_of_row _ _ 1 _ _ h4
      have e2 := frozen_of_row _ _ 2 _ _ h4
      have e3 := frozen_of_row _ _ 3 _ _ h4
      have c0 := (cell_of_row _ _ 0 _ _ _ h7).trans (show _ = some (Value.int .i64 0) from rfl)
      have c1 := (cell_of_row _ _ 1 _ _ _ h7).trans (show _ = some (Value.string ⟨#[]⟩) from rfl)
      have c2 := (cell_of_row _ _ 2 _ _ _ h7).trans (show _ = some (Value.int .i64 0) from rfl)
      have c3 := (cell_of_row _ _ 3 _ _ _ h7).trans (show _ = some (Value.int .i64 i) from rfl)
      have f0 := frozen_of_row _ _ 0 _ _ h7
      have f1 := frozen_of_row _ _ 1 _ _ h7
      have f2 := frozen_of_row _ _ 2 _ _ h7
      have f3 := frozen_of_row _ _ 3 _ _ h7
      have HB := Lib.hid (And.intro q4 (And.intro hbel he)); clear q4 h4 h7 hbel he
      have le4 : Hid (w.heap.size ≤ b4 ∧ w.heap.size ≤ b7) := Lib.hid (by have := HB.out.2.2; omega)
      by_cases h24 : (24 : Int) < (j : Int) - i
      · have HV := Lib.hid (rnextV_fail s i 2 (by rw [next_name_eq s i hi HC.out, hstop.out, if_pos (by omega)]))
        by_cases hlt : j < s.size
        · have hwd : Lx.word (Lx.cl s[j]) = false := by
            cases h : Lx.word (Lx.cl s[j])
            · rfl
            · exact absurd ⟨hlt, fun _ => h⟩ hgo
          have HD := Lib.hid hwd; clear hwd hgo
          go_wp2_with fail
          refine (rword_any _ _).mono ?_
          rintro e w' ⟨rfl, hw⟩
          rw [hw, word_cl, HD.out]; clear hw
          go_wp2_with fail
          refine bodyPost_ret (results_one rfl _ _ b4 50 _ (0, 0) _ rfl (heap_set4 _ _ _ _ _ _ _ _ _ _ _ HB.out.1) Tryd.underlying50 rfl (by exact info_tok)) rfl ⟨by rw [HV.out]; rfl, set4_below (HB.out.2.1.setCell (by exact le4.out.2) _) le4.out.1 _ _ _ _⟩
        · clear hgo
          go_wp2_with fail
          refine bodyPost_ret (results_one rfl _ _ b4 50 _ (0, 0) _ rfl (heap_set4 _ _ _ _ _ _ _ _ _ _ _ HB.out.1) Tryd.underlying50 rfl (by exact info_tok)) rfl ⟨by rw [HV.out]; rfl, set4_below (HB.out.2.1.setCell (by exact le4.out.2) _) le4.out.1 _ _ _ _⟩
      · have HV := Lib.hid (rnextV_tok s i 1 _ 0 _ ((next_name_eq s i hi HC.out).trans (by rw [hstop.out, if_neg (by omega)])))
        have hx := extract_lit s i (j - i)
        rw [show i + (j - i) = j by omega] at hx
        have HX := Lib.hid hx; clear hx
        have q4 := keepSet HB.out.1 hne (i := 1) (.string (s.extract i j))
        have HQ := Lib.hid q4; clear q4
        have hij2 : (i : Int) ≤ j := by omega
        by_cases hlt : j < s.size
        · have hwd : Lx.word (Lx.cl s[j]) = false := by
            cases h : Lx.word (Lx.cl s[j])
            · rfl
            · exact absurd ⟨hlt, fun _ => h⟩ hgo
          have HD := Lib.hid hwd; clear hwd hgo
          go_wp2_with fail
          refine (rword_any _ _).mono ?_
          rintro e w' ⟨rfl, hw⟩
          rw [hw, word_cl, HD.out]; clear hw
          go_wp2_with fail
          refine bodyPost_ret (results_one rfl _ _ b4 50 _ (0, 0) _ rfl (heap_set4 _ _ _ _ _ _ _ _ _ _ _ HQ.out) Tryd.underlying50 rfl (by exact info_tok)) rfl ⟨by rw [HV.out, HX.out]; rfl, set4_below ((HB.out.2.1.setCell (by exact le4.out.2) _).setCell (by exact le4.out.2) _) le4.out.1 _ _ _ _⟩
        · clear hgo
          go_wp2_with fail
          refine bodyPost_ret (results_one rfl _ _ b4 50 _ (0, 0) _ rfl (heap_set4 _ _ _ _ _ _ _ _ _ _ _ HQ.out) Tryd.underlying50 rfl (by exact info_tok)) rfl ⟨by rw [HV.out, HX.out]; rfl, set4_below ((HB.out.2.1.setCell (by exact le4.out.2) _).setCell (by exact le4.out.2) _) le4.out.1 _ _ _ _⟩
end Go.Proofs.YtedddaojcknemaaDoor

namespace Go.Proofs.YtedddaojcknemaaDoor
open Go.RowKit

theorem digit_cl2 (c : UInt8) : Lx.isDigit c.toNat = (Lx.cl c == 4) := by
  have : ∀ n : Fin 256, Lx.isDigit n.val = (Lx.cls n.val == 4) := by decide +kernel
  exact this ⟨c.toNat, c.toNat_lt⟩
theorem word_not4 (c : UInt8) (h : Lx.cl c ≠ 4) : Lx.word (Lx.cl c) = (Lx.cl c == 3 || Lx.cl c == 5) := by
  have h' : (Lx.cl c == 4) = false := by simpa using h
  unfold Lx.word; rw [h']; cases Lx.cl c == 3 <;> rfl
/-- The length of the run of digits. -/
def digW (s : ByteArray) (i : Nat) : Nat := Lx.run (fun k => k == 4) (s.data.toList.drop i)
theorem next_num_eq2 (s : ByteArray) (i : Nat) (hi : i < s.size) (hc : Lx.cl s[i] = 4) : Lx.next 2 3 4 6 (s.data.toList.drop i) =
    if digW s i > 13 || Lx.headCl (s.data.toList.drop (i + digW s i)) == 3 || Lx.headCl (s.data.toList.drop (i + digW s i)) == 5 then .fail 4 else .tok 2 ((s.data.toList.drop i).take (digW s i)) (Lx.digits ((s.data.toList.drop i).take (digW s i)) 0) (digW s i) := by
  rw [← List.drop_drop]
  unfold digW
  rw [drop_cons' s i hi]
  unfold Lx.next
  simp only [hc]
  rw [if_neg (by decide), if_pos trivial]
theorem digits_snoc (l : List UInt8) (c : UInt8) (n : Int) : Lx.digits (l ++ [c]) n = 10 * Lx.digits l n + ((c.toNat : Int) - 48) := by
  induction l generalizing n with
  | nil => rfl
  | cons a t ih => simp only [List.cons_append, Lx.digits]; exact ih _
/-- What has been read of a number. -/
def numTo (s : ByteArray) (i k : Nat) : Int := Lx.digits ((s.data.toList.drop i).take (k - i)) 0
theorem numTo_succ (s : ByteArray) (i k : Nat) (hk : i ≤ k) (hs : k < s.size) : numTo s i (k + 1) = 10 * numTo s i k + ((s[k].toNat : Int) - 48) := by
  unfold numTo
  have h : (s.data.toList.drop i).take (k + 1 - i) = (s.data.toList.drop i).take (k - i) ++ [s[k]] := by
    rw [show k + 1 - i = (k - i) + 1 by omega, List.take_add_one, List.getElem?_drop, show i + (k - i) = k by omega]
    have hz : s.data.toList[k]? = some s[k] := by
      have hsz : s.data.size = s.size := rfl
      rw [List.getElem?_eq_getElem (by simpa using hs)]; rfl
    rw [hz]; rfl
  rw [h, digits_snoc]
theorem numTo_bound (s : ByteArray) (i k : Nat) (h : k - i ≤ digW s i) (h13 : k - i ≤ 13) : 0 ≤ numTo s i k ∧ numTo s i k ≤ 10000000000000 := by
  have hall : ∀ c ∈ (s.data.toList.drop i).take (k - i), Lx.cl c = 4 := by
    intro c hc
    have hsub : c ∈ (s.data.toList.drop i).take (digW s i) := by
      have : (s.data.toList.drop i).take (k - i) = ((s.data.toList.drop i).take (digW s i)).take (k - i) := by rw [List.take_take, Nat.min_eq_left h]
      rw [this] at hc
      exact List.mem_of_mem_take hc
    have := run_all (fun k => k == 4) (s.data.toList.drop i) c hsub
    simpa using this
  have := digits_le _ hall 0 (Int.le_refl _)
  have hl : ((s.data.toList.drop i).take (k - i)).length ≤ 13 := by rw [List.length_take]; omega
  refine ⟨this.1, ?_⟩
  have hp : (10 : Int) ^ ((s.data.toList.drop i).take (k - i)).length ≤ 10 ^ 13 := by
    have := Nat.pow_le_pow_right (show 0 < 10 by omega) hl
    exact_mod_cast this
  have h2 := this.2
  unfold numTo
  omega
theorem dig_at (s : ByteArray) (i k : Nat) (hik : i ≤ k) (hk : k < i + digW s i) (hs : k < s.size) : Lx.cl s[k] = 4 := by
  have hmem : s[k] ∈ (s.data.toList.drop i).take (digW s i) := by
    rw [List.mem_iff_getElem?]
    refine ⟨k - i, ?_⟩
    rw [List.getElem?_take_of_lt (by omega), List.getElem?_drop, show i + (k - i) = k by omega]
    rw [List.getElem?_eq_getElem (by simpa using hs)]; rfl
  have := run_all (fun k => k == 4) (s.data.toList.drop i) _ hmem
  simpa using this

/-- What the summing loop carries. -/
def SumRel (s : ByteArray) (i j b4 b7 : Nat) (w : World) (x : Value) (wr : World) : Prop :=
  ∃ k : Nat, x = .int .i64 k ∧ i ≤ k ∧ k ≤ j ∧ wr.heap[b4]? = some (.cells #[.int .i64 0, .string ⟨#[]⟩, .int .i64 0, .int .i64 0] 50 (0, 0)) ∧
    wr.heap[b7]? = some (.cells #[.int .i64 2, .string ⟨#[]⟩, .int .i64 (numTo s i k), .int .i64 i] 50 (0, 0)) ∧ Below w.heap.size w wr

set_option maxRecDepth 100000 in
set_option maxHeartbeats 8000000 in
theorem rnext_num (s : ByteArray) (i : Nat) (w : World) (hm : s.size ≤ 20000) (hi : i < s.size) (hc : Lx.cl s[i] = 4) :
    Calls Tryd.prog 52 #[.string s, .int .i64 i] w fun e w' => e = .returned (rnextV s i) ∧ Below w.heap.size w w' := by
  have hL : Lx.isLetter s[i].toNat = false := by rw [letter_cl, decide_eq_false (by rw [hc]; decide)]
  have hG : Lx.isDigit s[i].toNat = true := by rw [digit_cl2, hc]; rfl
  have HL := Lib.hid (And.intro hL hG); clear hL hG
  have HS := Lib.hid (run_step (fun k => k == 4) s i hi (by rw [hc]; rfl))
  have HC := Lib.hid hc; clear hc
  go_enter Tryd.func52, Tryd.ntmps52
  go_wp2_with fail
  refine (rletter_any _ _).mono ?_
  rintro e w' ⟨rfl, hw⟩
  rw [hw, HL.out.1]; clear hw
  go_wp2_with fail
  refine (rdigit_any _ _).mono ?_
  rintro e w' ⟨rfl, hw⟩
  rw [hw, HL.out.2]; clear hw
  go_wp2_with fail
  have HN := Lib.hid (nw_start w i)
  generalize (w.alloc (.cells #[.int .i64 0, .string ⟨#[]⟩, .int .i64 0, .int .i64 0] 50)).alloc (.cells #[.int .i64 0, .string ⟨#[]⟩, .int .i64 0, .int .i64 i] 50) = W at HN ⊢
  obtain ⟨b4, hb4⟩ : ∃ b, b = w.heap.size := ⟨_, rfl⟩
  obtain ⟨b7, hb7⟩ : ∃ b, b = w.heap.size + 1 := ⟨_, rfl⟩
  rw [← hb7, ← hb4] at HN ⊢
  clear hb4 hb7
  go_loopw [6] (fun x wr => Hid ((∃ j : Nat, x = .int .i64 j ∧ i < j ∧ j ≤ s.size ∧ Lx.run (fun k => k == 4) (s.data.toList.drop j) + (j - i) = digW s i) ∧ wr = W)) (fun x _ => s.size - (intOf x).toNat)
  case atStart => exact Lib.hid ⟨⟨i + 1, by simp, by omega, by omega, by have := HS.out; unfold digW; omega⟩, rfl⟩
  case round =>
    obtain ⟨⟨j, rfl, hij, hj, hr⟩, hw⟩ := hrel.out
    have HR := Lib.hid hr
    have HW := Lib.hid hw
    clear hr hw hrel
    by_cases hgo : j < s.size ∧ ∀ h : j < s.size, (Lx.cl s[j] == 4) = true
    · obtain ⟨hlt, hwd⟩ := hgo
      have HD := Lib.hid (hwd hlt); clear hwd
      go_wp2_with fail
      refine (rdigit_any _ _).mono ?_
      rintro e w' ⟨rfl, hw⟩
      rw [hw, digit_cl2, HD.out]; clear hw
      go_wp2_with fail
      go_roundw
      case rel => exact Lib.hid ⟨⟨j + 1, by simp, by omega, by omega, by have := run_step (fun k => k == 4) s j hlt HD.out; have := HR.out; omega⟩, HW.out⟩
      case measure => simp [intOf]; omega
    · have hstop : Hid (digW s i = j - i) := Lib.hid (by
        have h0 := HR.out
        by_cases hlt : j < s.size
        · cases hwd : (Lx.cl s[j] == 4)
          · have := run_stop (fun k => k == 4) s j hlt hwd; omega
          · exact absurd ⟨hlt, fun _ => hwd⟩ hgo
        · have := run_none (fun k => k == 4) s j (by omega); omega)
      obtain ⟨h4, h7, hbel, he, hlt47⟩ := HN.out
      have hne : b4 ≠ b7 := by omega
      have hne' : b7 ≠ b4 := by omega
      rw [← HW.out] at h4 h7 hbel
      have q4 := keepSet h4 hne (i := 0) (.int .i64 2)
      have g0 := (cell_of_row _ _ 0 _ _ _ h4).trans (show _ = some (Value.int .i64 0) from rfl)
      have g1 := (cell_of_row _ _ 1 _ _ _ h4).trans (show _ = some (Value.string ⟨#[]⟩) from rfl)
      have g2 := (cell_of_row _ _ 2 _ _ _ h4).trans (show _ = some (Value.int .i64 0) from rfl)
      have g3 := (cell_of_row _ _ 3 _ _ _ h4).trans (show _ = some (Value.int .i64 0) from rfl)
      have e0 := frozen_of_row _ _ 0 _ _ h4
      have e1 := frozen_of_row _ _ 1 _ _ h4
      have e2 := frozen_of_row _ _ 2 _ _ h4
      have e3 := frozen_of_row _ _ 3 _ _ h4
      have c0 := (cell_of_row _ _ 0 _ _ _ h7).trans (show _ = some (Value.int .i64 0) from rfl)
      have f0 := frozen_of_row _ _ 0 _ _ h7
      have HB := Lib.hid (And.intro q4 (And.intro hbel (And.intro he h7))); clear q4 h4 h7 hbel he
      have le4 : Hid (w.heap.size ≤ b4 ∧ w.heap.size ≤ b7) := Lib.hid (by have := HB.out.2.2; omega)
      have hcl0 : j < s.size → ∀ h : j < s.size, (Lx.cl s[j] == 4) = false := by
        intro hlt h
        cases hh : (Lx.cl s[j] == 4)
        · rfl
        · exact absurd ⟨hlt, fun _ => hh⟩ hgo
      have HCL := Lib.hid hcl0; clear hcl0 hgo
      have HJ : Hid (i + digW s i = j) := Lib.hid (by rw [hstop.out]; omega)
      by_cases h13 : (13 : Int) < (j : Int) - i
      · have HV := Lib.hid (rnextV_fail s i 4 (by rw [next_num_eq2 s i hi HC.out, hstop.out, decide_eq_true (show j - i > 13 by omega)]; rfl))
        by_cases hlt : j < s.size
        · have HD : Hid ((Lx.cl s[j] == 4) = false) := Lib.hid (HCL.out hlt hlt)
          go_wp2_with fail
          refine (rdigit_any _ _).mono ?_
          rintro e w' ⟨rfl, hw⟩
          rw [hw, digit_cl2, HD.out]; clear hw
          go_wp2_with fail
          refine bodyPost_ret (results_one rfl _ _ b4 50 _ (0, 0) _ rfl (heap_set4 _ _ _ _ _ _ _ _ _ _ _ HB.out.1) Tryd.underlying50 rfl (by exact info_tok)) rfl ⟨by rw [HV.out]; rfl, set4_below (HB.out.2.1.setCell (by exact le4.out.2) _) le4.out.1 _ _ _ _⟩
        · go_wp2_with fail
          refine bodyPost_ret (results_one rfl _ _ b4 50 _ (0, 0) _ rfl (heap_set4 _ _ _ _ _ _ _ _ _ _ _ HB.out.1) Tryd.underlying50 rfl (by exact info_tok)) rfl ⟨by rw [HV.out]; rfl, set4_below (HB.out.2.1.setCell (by exact le4.out.2) _) le4.out.1 _ _ _ _⟩
      · by_cases hbad : j < s.size ∧ ∀ h : j < s.size, (Lx.cl s[j] == 3 || Lx.cl s[j] == 5) = true
        · obtain ⟨hlt, hb0⟩ := hbad
          have HBD := Lib.hid (hb0 hlt); clear hb0
          have HD : Hid ((Lx.cl s[j] == 4) = false) := Lib.hid (HCL.out hlt hlt)
          have HV := Lib.hid (rnextV_fail s i 4 (by
            rw [next_num_eq2 s i hi HC.out, HJ.out, drop_cons' s j hlt]
            show (if (decide _ || Lx.cl s[j] == 3 || Lx.cl s[j] == 5) = true then _ else _) = _
            rw [Bool.or_assoc, HBD.out, Bool.or_true, if_pos rfl]))
          go_wp2_with fail
          refine (rdigit_any _ _).mono ?_
          rintro e w' ⟨rfl, hw⟩
          rw [hw, digit_cl2, HD.out]; clear hw
          go_wp2_with fail
          refine (rword_any _ _).mono ?_
          rintro e w' ⟨rfl, hw⟩
          rw [hw, word_cl, word_not4 _ (by have := HD.out; simpa using this), HBD.out]; clear hw
          go_wp2_with fail
          refine bodyPost_ret (results_one rfl _ _ b4 50 _ (0, 0) _ rfl (heap_set4 _ _ _ _ _ _ _ _ _ _ _ HB.out.1) Tryd.underlying50 rfl (by exact info_tok)) rfl ⟨by rw [HV.out]; rfl, set4_below (HB.out.2.1.setCell (by exact le4.out.2) _) le4.out.1 _ _ _ _⟩
        · have HG : Hid (j < s.size → ∀ h : j < s.size, (Lx.cl s[j] == 3 || Lx.cl s[j] == 5) = false) := Lib.hid (by
            intro hlt h
            cases hh : (Lx.cl s[j] == 3 || Lx.cl s[j] == 5)
            · rfl
            · exact absurd ⟨hlt, fun _ => hh⟩ hbad)
          clear hbad
          have HV := Lib.hid (rnextV_tok s i 2 _ _ _ ((next_num_eq2 s i hi HC.out).trans (by
            rw [HJ.out]
            have : (decide (digW s i > 13) || Lx.headCl (s.data.toList.drop j) == 3 || Lx.headCl (s.data.toList.drop j) == 5) = false := by
              rw [decide_eq_false (by rw [hstop.out]; omega), Bool.false_or]
              by_cases hlt : j < s.size
              · rw [drop_cons' s j hlt]; exact HG.out hlt hlt
              · rw [drop_end s j (by omega)]; rfl
            rw [if_neg (by rw [this]; simp)])))
          have q7 := Lib.hid (heap_setCell_same _ b7 0 _ _ (.int .i64 2) HB.out.2.2.2)
          by_cases hlt : j < s.size
          case' pos =>
            have HD : Hid ((Lx.cl s[j] == 4) = false) := Lib.hid (HCL.out hlt hlt)
            go_wp2_with fail
            refine (rdigit_any _ _).mono ?_
            rintro e w' ⟨rfl, hw⟩
            rw [hw, digit_cl2, HD.out]; clear hw
            go_wp2_with fail
            refine (rword_any _ _).mono ?_
            rintro e w' ⟨rfl, hw⟩
            rw [hw, word_cl, word_not4 _ (by have := HD.out; simpa using this), HG.out hlt hlt]; clear hw
            go_wp2_with fail
          case' neg => go_wp2_with fail
          all_goals
            have hb0 := HB.out
            have HSR : Hid (SumRel s i j b4 b7 w (.int .i64 i) (wr.setCell ⟨b7, 0, none⟩ (.int .i64 2))) := Lib.hid ⟨i, rfl, Nat.le_refl _, by omega, hb0.1, by unfold numTo; rw [Nat.sub_self]; exact q7.out, hb0.2.1.setCell (by exact le4.out.2) _⟩
            clear hb0
            generalize wr.setCell ⟨b7, 0, none⟩ (.int .i64 2) = Y at HSR ⊢
            clear g0 g1 g2 g3 e0 e1 e2 e3 c0 f0 q7 HB HN HW
            go_loopw [9] (fun x wr => Hid (SumRel s i j b4 b7 w x wr)) (fun x _ => j - (intOf x).toNat)
            case atStart => exact HSR
            case round =>
              obtain ⟨k, rfl, hik, hkj, h4, h7, hbel⟩ := hrel.out
              have HK := Lib.hid (And.intro h4 (And.intro h7 hbel))
              clear hrel HSR
              by_cases hk : k < j
              · have hks : k < s.size := by omega
                have hdg := cl_digit s[k] (dig_at s i k hik (by have := HJ.out; omega) hks)
                have hsu := numTo_succ s i k hik hks
                have hbd := numTo_bound s i k (by have := hstop.out; omega) (by omega)
                have c2 := (cell_of_row _ _ 2 _ _ _ h7).trans (show _ = some (Value.int .i64 (numTo s i k)) from rfl)
                have f2 := frozen_of_row _ _ 2 _ _ h7
                have q4 := fun v => keepSet h4 hne (i := 2) v
                have q7 := fun v => heap_setCell_same _ b7 2 _ _ v h7
                have hbs : ∀ v, Below w.heap.size w (wr.setCell ⟨b7, 2, none⟩ v) := fun v => hbel.setCell (by exact le4.out.2) v
                have HQ := Lib.hid (And.intro q4 (And.intro q7 hbs))
                clear h4 h7 hbel HK q4 q7 hbs
                generalize numTo s i k = n at hsu hbd c2 HQ
                obtain ⟨c, hda⟩ : ∃ c, s[k] = c := ⟨_, rfl⟩
                rw [hda] at hdg hsu
                have HSU := Lib.hid hsu; clear hsu
                obtain ⟨hb1, hb2⟩ := hbd
                obtain ⟨hd1, hd2⟩ := hdg
                go_wp2_with fail
                go_region
                go_wp2_with fail
                go_roundw
                case rel =>
                  refine Lib.hid ⟨k + 1, by simp, by omega, by omega, HQ.out.1 _, ?_, (HQ.out.2.2 _).drew⟩
                  rw [HSU.out]
                  exact HQ.out.2.1 _
                case measure => simp [intOf]; omega
              · obtain rfl : k = j := by omega
                have hx := extract_lit s i (k - i)
                rw [show i + (k - i) = k by omega] at hx
                have HX := Lib.hid hx; clear hx
                have HN0 : Hid (numTo s i k = Lx.digits ((s.data.toList.drop i).take (digW s i)) 0 ∧ k - i = digW s i) := Lib.hid (by unfold numTo; rw [hstop.out]; exact ⟨rfl, rfl⟩)
                generalize numTo s i k = n at h7 HN0
                have g0 := (cell_of_row _ _ 0 _ _ _ h4).trans (show _ = some (Value.int .i64 0) from rfl)
                have g1 := (cell_of_row _ _ 1 _ _ _ h4).trans (show _ = some (Value.string ⟨#[]⟩) from rfl)
                have g2 := (cell_of_row _ _ 2 _ _ _ h4).trans (show _ = some (Value.int .i64 0) from rfl)
                have g3 := (cell_of_row _ _ 3 _ _ _ h4).trans (show _ = some (Value.int .i64 0) from rfl)
                have e0 := frozen_of_row _ _ 0 _ _ h4
                have e1 := frozen_of_row _ _ 1 _ _ h4
                have e2 := frozen_of_row _ _ 2 _ _ h4
                have e3 := frozen_of_row _ _ 3 _ _ h4
                have c0 := (cell_of_row _ _ 0 _ _ _ h7).trans (show _ = some (Value.int .i64 2) from rfl)
                have c1 := (cell_of_row _ _ 1 _ _ _ h7).trans (show _ = some (Value.string ⟨#[]⟩) from rfl)
                have c2 := (cell_of_row _ _ 2 _ _ _ h7).trans (show _ = some (Value.int .i64 n) from rfl)
                have c3 := (cell_of_row _ _ 3 _ _ _ h7).trans (show _ = some (Value.int .i64 i) from rfl)
                have f0 := frozen_of_row _ _ 0 _ _ h7
                have f1 := frozen_of_row _ _ 1 _ _ h7
                have f2 := frozen_of_row _ _ 2 _ _ h7
                have f3 := frozen_of_row _ _ 3 _ _ h7
                have q4 := keepSet h4 hne (i := 1) (.string (s.extract i k))
                have HQ := Lib.hid (And.intro q4 hbel); clear q4 hbel h4 h7 HK
                have hij2 : (i : Int) ≤ k := by omega
                go_wp2_with fail
                refine bodyPost_ret (results_one rfl _ _ b4 50 _ (0, 0) _ rfl (heap_set4 _ _ _ _ _ _ _ _ _ _ _ HQ.out.1) Tryd.underlying50 rfl (by exact info_tok)) rfl ⟨by rw [HV.out, HX.out, ← HN0.out.1, HN0.out.2]; rfl, set4_below (HQ.out.2.setCell (by exact le4.out.2) _) le4.out.1 _ _ _ _⟩
end Go.Proofs.YtedddaojcknemaaDoor

namespace Go.Proofs.YtedddaojcknemaaDoor
open Go.RowKit

theorem close_quote (s : ByteArray) (j : Nat) (h : j < s.size) (hc : s[j] = 34 ∨ s[j] = 10) : Lx.close (s.data.toList.drop j) = some 0 := by
  rw [drop_cons' s j h, Lx.close, if_pos hc]
theorem close_step (s : ByteArray) (j : Nat) (h : j < s.size) (hc : ¬ (s[j] = 34 ∨ s[j] = 10)) : Lx.close (s.data.toList.drop j) = (Lx.close (s.data.toList.drop (j + 1))).map (· + 1) := by
  rw [drop_cons' s j h, Lx.close, if_neg hc]
theorem close_none (s : ByteArray) (j : Nat) (h : s.size ≤ j) : Lx.close (s.data.toList.drop j) = none := by rw [drop_end s j h]; rfl
theorem drop_get (s : ByteArray) (a j : Nat) (ha : a ≤ j) (h : j < s.size) : (s.data.toList.drop a)[j - a]? = some s[j] := by
  rw [List.getElem?_drop, show a + (j - a) = j by omega, List.getElem?_eq_getElem (by simpa using h)]; rfl
theorem next_str_eq2 (s : ByteArray) (i : Nat) (hi : i < s.size) (hc : Lx.cl s[i] = 6) : Lx.next 2 3 4 6 (s.data.toList.drop i) =
    match Lx.close (s.data.toList.drop (i + 1)) with
    | none => .fail 6
    | some n => if (s.data.toList.drop (i + 1))[n]? = some 10 then .fail 6 else if n > 400 then .fail 2 else .tok 3 ((s.data.toList.drop (i + 1)).take n) 0 (n + 2) :=
  next_str_eq s i hi (by rw [clsAt_nat s i hi]; exact congrArg Int.ofNat hc)
def CloseAt (s : ByteArray) (i j : Nat) : Prop := Lx.close (s.data.toList.drop (i + 1)) = (Lx.close (s.data.toList.drop j)).map (· + (j - (i + 1)))

set_option maxRecDepth 100000 in
set_option maxHeartbeats 4000000 in
theorem rnext_str (s : ByteArray) (i : Nat) (w : World) (hm : s.size ≤ 20000) (hi : i < s.size) (hc : Lx.cl s[i] = 6) :
    Calls Tryd.prog 52 #[.string s, .int .i64 i] w fun e w' => e = .returned (rnextV s i) ∧ Below w.heap.size w w' := by
  have hL : Lx.isLetter s[i].toNat = false := by rw [letter_cl, decide_eq_false (by rw [hc]; decide)]
  have hG : Lx.isDigit s[i].toNat = false := by rw [digit_cl2, hc]; rfl
  have hq : ((s[i].toNat : Int) == 34) = true := by rw [quote_cl, decide_eq_true hc]
  have HL := Lib.hid (And.intro hL hG); clear hL hG
  have HC := Lib.hid hc; clear hc
  go_enter Tryd.func52, Tryd.ntmps52
  go_wp2_with fail
  refine (rletter_any _ _).mono ?_
  rintro e w' ⟨rfl, hw⟩
  rw [hw, HL.out.1]; clear hw
  go_wp2_with fail
  refine (rdigit_any _ _).mono ?_
  rintro e w' ⟨rfl, hw⟩
  rw [hw, HL.out.2]; clear hw
  go_wp2_with fail
  have HN := Lib.hid (nw_start w i)
  generalize (w.alloc (.cells #[.int .i64 0, .string ⟨#[]⟩, .int .i64 0, .int .i64 0] 50)).alloc (.cells #[.int .i64 0, .string ⟨#[]⟩, .int .i64 0, .int .i64 i] 50) = W at HN ⊢
  obtain ⟨b4, hb4⟩ : ∃ b, b = w.heap.size := ⟨_, rfl⟩
  obtain ⟨b7, hb7⟩ : ∃ b, b = w.heap.size + 1 := ⟨_, rfl⟩
  rw [← hb7, ← hb4] at HN ⊢
  clear hb4 hb7 hq
  go_loopw [6] (fun x wr => Hid ((∃ j : Nat, x = .int .i64 j ∧ i < j ∧ j ≤ s.size ∧ CloseAt s i j) ∧ wr = W)) (fun x _ => s.size - (intOf x).toNat)
  case atStart => exact Lib.hid ⟨⟨i + 1, by simp, by omega, by omega, by unfold CloseAt; simp⟩, rfl⟩
  case round =>
    obtain ⟨⟨j, rfl, hij, hj, hr⟩, hw⟩ := hrel.out
    have HR := Lib.hid hr
    have HW := Lib.hid hw
    clear hr hw hrel
    obtain ⟨h4, h7, hbel, he, hlt47⟩ := HN.out
    rw [← HW.out] at h4 h7 hbel
    have g0 := (cell_of_row _ _ 0 _ _ _ h4).trans (show _ = some (Value.int .i64 0) from rfl)
    have g1 := (cell_of_row _ _ 1 _ _ _ h4).trans (show _ = some (Value.string ⟨#[]⟩) from rfl)
    have g2 := (cell_of_row _ _ 2 _ _ _ h4).trans (show _ = some (Value.int .i64 0) from rfl)
    have g3 := (cell_of_row _ _ 3 _ _ _ h4).trans (show _ = some (Value.int .i64 0) from rfl)
    have e0 := frozen_of_row _ _ 0 _ _ h4
    have e1 := frozen_of_row _ _ 1 _ _ h4
    have e2 := frozen_of_row _ _ 2 _ _ h4
    have e3 := frozen_of_row _ _ 3 _ _ h4
    have HB := Lib.hid (And.intro h4 (And.intro hbel (Nat.le_of_eq he))); clear h4 h7 hbel he hlt47
    by_cases hlt : j < s.size
    · obtain ⟨c, hda⟩ : ∃ c, s[j] = c := ⟨_, rfl⟩
      have HA := Lib.hid hda
      have hjs : ((j : Int) == (s.size : Int)) = false := by simp; omega
      by_cases h34 : c = 34
      · have hc34 : ((c.toNat : Int) != 34) = false := by subst h34; rfl
        have hc10 : ((c.toNat : Int) == 10) = false := by subst h34; rfl
        have hcl : Hid (Lx.close (s.data.toList.drop (i + 1)) = some (j - (i + 1)) ∧ ¬ (s.data.toList.drop (i + 1))[j - (i + 1)]? = some 10) := Lib.hid (by
          have := HR.out; unfold CloseAt at this
          rw [close_quote s j hlt (.inl (by rw [HA.out, h34]))] at this
          refine ⟨by simpa using this, ?_⟩
          rw [drop_get s (i + 1) j (by omega) hlt, HA.out, h34]; decide)
        clear h34
        by_cases h400 : (400 : Int) < (j : Int) - i - 1
        · have HV := Lib.hid (rnextV_fail s i 2 (by rw [next_str_eq2 s i hi HC.out, hcl.out.1]; simp only []; rw [if_neg hcl.out.2, if_pos (by omega)]))
          go_wp2_with fail
          refine bodyPost_ret (results_one rfl _ _ b4 50 _ (0, 0) _ rfl (heap_set4 _ _ _ _ _ _ _ _ _ _ _ HB.out.1) Tryd.underlying50 rfl (by exact info_tok)) rfl ⟨by rw [HV.out]; rfl, set4_below HB.out.2.1 HB.out.2.2 _ _ _ _⟩
        · have HV := Lib.hid (rnextV_tok s i 3 _ 0 _ ((next_str_eq2 s i hi HC.out).trans (by rw [hcl.out.1]; simp only []; rw [if_neg hcl.out.2, if_neg (by omega)])))
          have hx := extract_lit s (i + 1) (j - (i + 1))
          rw [show i + 1 + (j - (i + 1)) = j by omega] at hx
          have HX := Lib.hid hx; clear hx
          have hij2 : (i : Int) + 1 ≤ j := by omega
          go_wp2_with fail
          refine bodyPost_ret (results_one rfl _ _ b4 50 _ (0, 0) _ rfl (heap_set4 _ _ _ _ _ _ _ _ _ _ _ HB.out.1) Tryd.underlying50 rfl (by exact info_tok)) rfl ⟨by rw [HV.out, HX.out]; rfl, set4_below HB.out.2.1 HB.out.2.2 _ _ _ _⟩
      · by_cases h10 : c = 10
        · have hc34 : ((c.toNat : Int) != 34) = true := by subst h10; rfl
          have hc10 : ((c.toNat : Int) != 10) = false := by subst h10; rfl
          have hc10' : ((c.toNat : Int) == 10) = true := by subst h10; rfl
          have HV := Lib.hid (rnextV_fail s i 6 (by
            have := HR.out; unfold CloseAt at this
            rw [close_quote s j hlt (.inr (by rw [HA.out, h10]))] at this
            rw [next_str_eq2 s i hi HC.out, this]
            simp only [Option.map_some, Nat.zero_add]
            rw [drop_get s (i + 1) j (by omega) hlt, HA.out, h10, if_pos rfl]))
          clear h10 h34
          go_wp2_with fail
          refine bodyPost_ret (results_one rfl _ _ b4 50 _ (0, 0) _ rfl (heap_set4 _ _ _ _ _ _ _ _ _ _ _ HB.out.1) Tryd.underlying50 rfl (by exact info_tok)) rfl ⟨by rw [HV.out]; rfl, set4_below HB.out.2.1 HB.out.2.2 _ _ _ _⟩
        · have hc34 : ((c.toNat : Int) != 34) = true := by
            have : c.toNat ≠ 34 := fun h => h34 (UInt8.toNat_inj.1 h)
            simp; omega
          have hc10 : ((c.toNat : Int) != 10) = true := by
            have : c.toNat ≠ 10 := fun h => h10 (UInt8.toNat_inj.1 h)
            simp; omega
          have hnx : Hid (CloseAt s i (j + 1)) := Lib.hid (by
            have := HR.out; unfold CloseAt at this ⊢
            rw [this, close_step s j hlt (by rw [HA.out]; simp [h34, h10]), Option.map_map]
            congr 1
            funext x
            simp; omega)
          clear h10 h34
          go_wp2_with fail
          go_roundw
          case rel => exact Lib.hid ⟨⟨j + 1, by simp, by omega, by omega, hnx.out⟩, HW.out⟩
          case measure => simp [intOf]; omega
    · have HV := Lib.hid (rnextV_fail s i 6 (by
        have := HR.out; unfold CloseAt at this
        rw [close_none s j (by omega)] at this
        rw [next_str_eq2 s i hi HC.out, this]; rfl))
      obtain rfl : j = s.size := by omega
      go_wp2_with fail
      refine bodyPost_ret (results_one rfl _ _ b4 50 _ (0, 0) _ rfl (heap_set4 _ _ _ _ _ _ _ _ _ _ _ HB.out.1) Tryd.underlying50 rfl (by exact info_tok)) rfl ⟨by rw [HV.out]; rfl, set4_below HB.out.2.1 HB.out.2.2 _ _ _ _⟩

theorem next_mark_eq2 (s : ByteArray) (i : Nat) (hi : i < s.size) (hc : Lx.cl s[i] = 7 ∨ Lx.cl s[i] = 8) : Lx.next 2 3 4 6 (s.data.toList.drop i) =
    if (s.data.toList.drop (i + 1)).head? = some 61 then .tok 4 ((s.data.toList.drop i).take 2) 0 2 else if Lx.cl s[i] = 7 then .fail 3 else .tok 4 ((s.data.toList.drop i).take 1) 0 1 := by
  rw [drop_cons' s i hi]
  unfold Lx.next
  simp only []
  rw [if_neg (by omega), if_neg (by omega), if_neg (by omega), if_pos hc]
  rfl
theorem next_sym_eq2 (s : ByteArray) (i : Nat) (hi : i < s.size) (hc : Lx.cl s[i] = 9) : Lx.next 2 3 4 6 (s.data.toList.drop i) = .tok 4 ((s.data.toList.drop i).take 1) 0 1 :=
  next_sym_eq s i hi (by rw [clsAt_nat s i hi]; exact congrArg Int.ofNat hc)
theorem next_none_eq (s : ByteArray) (i : Nat) (hi : i < s.size) (hc : ¬ (Lx.cl s[i] = 3 ∨ Lx.cl s[i] = 4 ∨ Lx.cl s[i] = 6 ∨ Lx.cl s[i] = 7 ∨ Lx.cl s[i] = 8 ∨ Lx.cl s[i] = 9)) : Lx.next 2 3 4 6 (s.data.toList.drop i) = .fail 3 := by
  rw [drop_cons' s i hi]
  unfold Lx.next
  simp only []
  rw [if_neg (by omega), if_neg (by omega), if_neg (by omega), if_neg (by omega), if_neg (by omega)]

def markS : List UInt8 := [33, 60, 62, 61]
def symS : List UInt8 := [59, 44, 46, 58, 40, 41, 91, 93, 123, 125, 61, 60, 62, 43, 45, 42, 47]
theorem markS_cl (c : UInt8) : (markS.any fun e => e.toNat == c.toNat) = decide (Lx.cl c = 7 ∨ Lx.cl c = 8) := by
  have : ∀ n : Fin 256, (markS.any fun e => e.toNat == n.val) = decide (Lx.cls n.val = 7 ∨ Lx.cls n.val = 8) := by decide +kernel
  exact this ⟨c.toNat, c.toNat_lt⟩
theorem symS_cl (c : UInt8) : (symS.any fun e => e.toNat == c.toNat) = decide (Lx.cl c = 8 ∨ Lx.cl c = 9) := by
  have : ∀ n : Fin 256, (symS.any fun e => e.toNat == n.val) = decide (Lx.cls n.val = 8 ∨ Lx.cls n.val = 9) := by decide +kernel
  exact this ⟨c.toNat, c.toNat_lt⟩
/-- The two blocks, at a symbol. -/
structure NS (w W : World) (b4 b7 : Nat) (i : Nat) : Prop where
  h4 : W.heap[b4]? = some (.cells #[.int .i64 0, .string ⟨#[]⟩, .int .i64 0, .int .i64 0] 50 (0, 0))
  h7 : W.heap[b7]? = some (.cells #[.int .i64 4, .string ⟨#[]⟩, .int .i64 0, .int .i64 i] 50 (0, 0))
  hb : Below w.heap.size w W
  lt : w.heap.size = b4 ∧ b4 < b7
theorem ns_start (w : World) (i : Nat) : NS w ((w.alloc (.cells #[.int .i64 0, .string ⟨#[]⟩, .int .i64 0, .int .i64 0] 50)).alloc (.cells #[.int .i64 4, .string ⟨#[]⟩, .int .i64 0, .int .i64 i] 50)) w.heap.size (w.heap.size + 1) i where
  h4 := heap_alloc2_old w _ _
  h7 := by have := heap_alloc_new (w.alloc (.cells #[.int .i64 0, .string ⟨#[]⟩, .int .i64 0, .int .i64 0] 50)) (.cells #[.int .i64 4, .string ⟨#[]⟩, .int .i64 0, .int .i64 i] 50); simpa using this
  hb := ((Below.refl _ _).alloc (Nat.le_refl _) _).alloc (by simp) _
  lt := ⟨rfl, by omega⟩

set_option maxRecDepth 100000 in
set_option maxHeartbeats 8000000 in
/-- Symbols, and all that is no token: n bytes, or none. -/
theorem rnext_sym (s : ByteArray) (i n : Nat) (w : World) (hm : s.size ≤ 20000) (hi : i < s.size) (hL : Lx.isLetter s[i].toNat = false) (hG : Lx.isDigit s[i].toNat = false) (hq : ((s[i].toNat : Int) == 34) = false)
    (mk sy : Bool) (hmk : (markS.any fun e => e.toNat == s[i].toNat) = mk) (hsy : (symS.any fun e => e.toNat == s[i].toNat) = sy)
    (hV : rnextV s i = if mk = true ∧ n = 2 then .tuple #[tokV 4 ((s.data.toList.drop i).take 2) 0 i, .int .i64 0] else if sy = true then .tuple #[tokV 4 ((s.data.toList.drop i).take 1) 0 i, .int .i64 0] else .tuple #[tok0, .int .i64 3])
    (hn : (n = 2 ∧ i + 1 < s.size ∧ ∀ h : i + 1 < s.size, s[i + 1] = 61) ∨ (n = 1 ∧ (i + 1 < s.size → ∀ h : i + 1 < s.size, s[i + 1] ≠ 61))) :
    Calls Tryd.prog 52 #[.string s, .int .i64 i] w fun e w' => e = .returned (rnextV s i) ∧ Below w.heap.size w w' := by
  have HL := Lib.hid (And.intro hL (And.intro hG (And.intro hmk hsy))); clear hL hG hmk hsy
  have HV := Lib.hid hV; clear hV
  have hx : s.extract i (i + 1 + 1) = ⟨((s.data.toList.drop i).take 2).toArray⟩ := extract_lit s i 2
  have HX2 := Lib.hid hx; clear hx
  have hx := extract_lit s i 1
  have HX1 := Lib.hid hx; clear hx
  go_enter Tryd.func52, Tryd.ntmps52
  go_wp2_with fail
  refine (rletter_any _ _).mono ?_
  rintro e w' ⟨rfl, hw⟩
  rw [hw, HL.out.1]; clear hw
  go_wp2_with fail
  refine (rdigit_any _ _).mono ?_
  rintro e w' ⟨rfl, hw⟩
  rw [hw, HL.out.2.1]; clear hw
  go_wp2_with fail
  have HN := Lib.hid (ns_start w i)
  generalize (w.alloc (.cells #[.int .i64 0, .string ⟨#[]⟩, .int .i64 0, .int .i64 0] 50)).alloc (.cells #[.int .i64 4, .string ⟨#[]⟩, .int .i64 0, .int .i64 i] 50) = W at HN ⊢
  obtain ⟨b4, hb4⟩ : ∃ b, b = w.heap.size := ⟨_, rfl⟩
  obtain ⟨b7, hb7⟩ : ∃ b, b = w.heap.size + 1 := ⟨_, rfl⟩
  rw [← hb7, ← hb4] at HN ⊢
  clear hb4 hb7 hq
  refine (rhas_any markS (by decide) _ _).mono ?_
  rintro e w' ⟨rfl, hw⟩
  rw [hw, HL.out.2.2.1]; clear hw
  obtain ⟨h4, h7, hbel, he, hlt47⟩ := HN.out
  have hne : b4 ≠ b7 := by omega
  have hne' : b7 ≠ b4 := by omega
  have q4 := keepSet h4 hne (i := 1) (.string (s.extract i (i + 1 + 1)))
  have q4' := keepSet h4 hne (i := 1) (.string (s.extract i (i + 1)))
  have le4 : Hid (w.heap.size ≤ b4 ∧ w.heap.size ≤ b7) := Lib.hid (by omega)
  have g0 := (cell_of_row _ _ 0 _ _ _ h4).trans (show _ = some (Value.int .i64 0) from rfl)
  have g1 := (cell_of_row _ _ 1 _ _ _ h4).trans (show _ = some (Value.string ⟨#[]⟩) from rfl)
  have g2 := (cell_of_row _ _ 2 _ _ _ h4).trans (show _ = some (Value.int .i64 0) from rfl)
  have g3 := (cell_of_row _ _ 3 _ _ _ h4).trans (show _ = some (Value.int .i64 0) from rfl)
  have e0 := frozen_of_row _ _ 0 _ _ h4
  have e1 := frozen_of_row _ _ 1 _ _ h4
  have e2 := frozen_of_row _ _ 2 _ _ h4
  have e3 := frozen_of_row _ _ 3 _ _ h4
  have c0 := (cell_of_row _ _ 0 _ _ _ h7).trans (show _ = some (Value.int .i64 4) from rfl)
  have c1 := (cell_of_row _ _ 1 _ _ _ h7).trans (show _ = some (Value.string ⟨#[]⟩) from rfl)
  have c2 := (cell_of_row _ _ 2 _ _ _ h7).trans (show _ = some (Value.int .i64 0) from rfl)
  have c3 := (cell_of_row _ _ 3 _ _ _ h7).trans (show _ = some (Value.int .i64 i) from rfl)
  have f0 := frozen_of_row _ _ 0 _ _ h7
  have f1 := frozen_of_row _ _ 1 _ _ h7
  have f2 := frozen_of_row _ _ 2 _ _ h7
  have f3 := frozen_of_row _ _ 3 _ _ h7
  have HB := Lib.hid (And.intro h4 (And.intro hbel (And.intro q4 q4'))); clear q4 q4' h4 h7 hbel he HN
  by_cases h2 : mk = true ∧ n = 2
  · obtain ⟨rfl, rfl⟩ := h2
    have hi2 : i + 1 < s.size := by omega
    have h61 : Hid (s[i + 1] = 61) := Lib.hid (by
      rcases hn with ⟨_, _, h⟩ | ⟨h, _⟩
      · exact h hi2
      · omega)
    obtain ⟨c, hda⟩ : ∃ c, s[i + 1] = c := ⟨_, rfl⟩
    have hc61 : ((c.toNat : Int) == 61) = true := by rw [← hda, h61.out]; rfl
    clear hn
    have hV : Hid (rnextV s i = .tuple #[tokV 4 ((s.data.toList.drop i).take 2) 0 i, .int .i64 0]) := Lib.hid (HV.out.trans (if_pos ⟨rfl, rfl⟩))
    go_wp2_with fail
    refine bodyPost_ret (results_one rfl _ _ b4 50 _ (0, 0) _ rfl (heap_set4 _ _ _ _ _ _ _ _ _ _ _ HB.out.2.2.1) Tryd.underlying50 rfl (by exact info_tok)) rfl ⟨by rw [hV.out, HX2.out]; rfl, set4_below (HB.out.2.1.setCell (by exact le4.out.2) _) le4.out.1 _ _ _ _⟩
  · have hV : Hid (rnextV s i = if sy = true then .tuple #[tokV 4 ((s.data.toList.drop i).take 1) 0 i, .int .i64 0] else .tuple #[tok0, .int .i64 3]) := Lib.hid (HV.out.trans (if_neg h2))
    have h3 : mk = true → i + 1 < s.size → ∀ h : i + 1 < s.size, s[i + 1] ≠ 61 := by
      intro h1
      rcases hn with ⟨h, _⟩ | ⟨_, h⟩
      · exact absurd ⟨h1, h⟩ h2
      · exact h
    have H3 := Lib.hid h3
    clear hn h2 h3 HV
    cases mk
    case' false => go_wp2_with fail
    case' true =>
      by_cases hi2 : i + 1 < s.size
      case' pos =>
        obtain ⟨c, hda⟩ : ∃ c, s[i + 1] = c := ⟨_, rfl⟩
        have hc61 : ((c.toNat : Int) == 61) = false := by
          have h0 := H3.out rfl hi2 hi2
          rw [hda] at h0
          have : c.toNat ≠ 61 := fun h => h0 (UInt8.toNat_inj.1 h)
          simp; omega
        go_wp2_with fail
      case' neg => go_wp2_with fail
    all_goals
      refine (rhas_any symS (by decide) _ _).mono ?_
      rintro e w' ⟨rfl, hw⟩
      rw [hw, HL.out.2.2.2]; clear hw
      cases sy
      · go_wp2_with fail
        refine bodyPost_ret (results_one rfl _ _ b4 50 _ (0, 0) _ rfl (heap_set4 _ _ _ _ _ _ _ _ _ _ _ HB.out.1) Tryd.underlying50 rfl (by exact info_tok)) rfl ⟨by rw [hV.out]; rfl, set4_below HB.out.2.1 le4.out.1 _ _ _ _⟩
      · go_wp2_with fail
        refine bodyPost_ret (results_one rfl _ _ b4 50 _ (0, 0) _ rfl (heap_set4 _ _ _ _ _ _ _ _ _ _ _ HB.out.2.2.2) Tryd.underlying50 rfl (by exact info_tok)) rfl ⟨by rw [hV.out, HX1.out]; rfl, set4_below (HB.out.2.1.setCell (by exact le4.out.2) _) le4.out.1 _ _ _ _⟩

/-- next at every place. -/
theorem rnext_any (s : ByteArray) (i : Nat) (w : World) (hm : s.size ≤ 20000) (hi : i < s.size) :
    Calls Tryd.prog 52 #[.string s, .int .i64 i] w fun e w' => e = .returned (rnextV s i) ∧ Below w.heap.size w w' := by
  by_cases h3 : Lx.cl s[i] = 3
  · exact rnext_name s i w hm hi h3
  by_cases h4 : Lx.cl s[i] = 4
  · exact rnext_num s i w hm hi h4
  by_cases h6 : Lx.cl s[i] = 6
  · exact rnext_str s i w hm hi h6
  have hL : Lx.isLetter s[i].toNat = false := by rw [letter_cl, decide_eq_false h3]
  have hG : Lx.isDigit s[i].toNat = false := by rw [digit_cl, decide_eq_false h4]
  have hq : ((s[i].toNat : Int) == 34) = false := by rw [quote_cl, decide_eq_false h6]
  by_cases h78 : Lx.cl s[i] = 7 ∨ Lx.cl s[i] = 8
  · by_cases h61 : i + 1 < s.size ∧ ∀ h : i + 1 < s.size, s[i + 1] = 61
    · refine rnext_sym s i 2 w hm hi hL hG hq true _ (by rw [markS_cl, decide_eq_true h78]) rfl ?_ (.inl ⟨rfl, h61⟩)
      rw [if_pos ⟨rfl, rfl⟩]
      exact rnextV_tok s i 4 _ 0 2 ((next_mark_eq2 s i hi h78).trans (by rw [drop_cons' s (i + 1) h61.1, h61.2 h61.1]; rfl))
    · refine rnext_sym s i 1 w hm hi hL hG hq true _ (by rw [markS_cl, decide_eq_true h78]) rfl ?_ (.inr ⟨rfl, fun _ h e => h61 ⟨h, fun _ => e⟩⟩)
      rw [if_neg (by simp)]
      have hh : ¬ (s.data.toList.drop (i + 1)).head? = some 61 := by
        by_cases hi2 : i + 1 < s.size
        · rw [drop_cons' s (i + 1) hi2]
          intro e
          exact h61 ⟨hi2, fun _ => Option.some.inj e⟩
        · rw [drop_end s (i + 1) (by omega)]; simp
      rw [symS_cl]
      rcases h78 with h7 | h8
      · rw [decide_eq_false (by omega), if_neg (by simp)]
        exact rnextV_fail s i 3 ((next_mark_eq2 s i hi (.inl h7)).trans (by rw [if_neg hh, if_pos h7]))
      · rw [decide_eq_true (.inl h8), if_pos rfl]
        exact rnextV_tok s i 4 _ 0 1 ((next_mark_eq2 s i hi (.inr h8)).trans (by rw [if_neg hh, if_neg (by omega)]))
  · have hmk : (markS.any fun e => e.toNat == s[i].toNat) = false := by rw [markS_cl, decide_eq_false h78]
    refine rnext_sym s i (if i + 1 < s.size ∧ ∀ h : i + 1 < s.size, s[i + 1] = 61 then 2 else 1) w hm hi hL hG hq false _ hmk rfl ?_ ?_
    · rw [if_neg (by simp), symS_cl]
      by_cases h9 : Lx.cl s[i] = 9
      · rw [decide_eq_true (.inr h9), if_pos rfl]
        exact rnextV_tok s i 4 _ 0 1 (next_sym_eq2 s i hi h9)
      · rw [decide_eq_false (by omega), if_neg (by simp)]
        exact rnextV_fail s i 3 (next_none_eq s i hi (by omega))
    · by_cases h61 : i + 1 < s.size ∧ ∀ h : i + 1 < s.size, s[i + 1] = 61
      · rw [if_pos h61]; exact .inl ⟨rfl, h61⟩
      · rw [if_neg h61]; exact .inr ⟨rfl, fun _ h e => h61 ⟨h, fun _ => e⟩⟩
end Go.Proofs.YtedddaojcknemaaDoor

namespace Go.Proofs.YtedddaojcknemaaDoor
open Go.RowKit

theorem rgap_end (s : ByteArray) (hs : s.size ≤ 20000) (i : Nat) (hi : i ≤ s.size) (w : World) : Calls Tryd.prog 51 #[.string s, .int .i64 i] w fun e w' => e = .returned (.int .i64 (gapEnd s i)) ∧ w' = w := by
  refine (rgap_any s.data.toList (by have : s.data.size = s.size := rfl; simp; omega) i (by have : s.data.size = s.size := rfl; simp; omega) w).mono ?_
  rintro e w' ⟨⟨j, rfl, hj, hd⟩, hw⟩
  refine ⟨?_, hw⟩
  obtain ⟨h1, h2, h3⟩ := gap_drop s i hi
  rw [h1] at hd
  have hl := congrArg List.length hd
  have hz : s.data.size = s.size := rfl
  simp only [List.length_drop, Array.length_toList, hz] at hl hj
  have : j = gapEnd s i := by omega
  rw [this]
theorem next_tok_wd (l : List UInt8) (k : Int) (t : List UInt8) (n : Int) (wd : Nat) (h : Lx.next 2 3 4 6 l = .tok k t n wd) : (if k = 3 then (t.length : Int) + 2 else t.length) = (wd : Int) := by
  unfold Lx.next at h
  split at h
  · cases h
  · rename_i c r
    simp only [] at h
    split at h
    · split at h
      · cases h
      · cases h
        have := Lx.run_le Lx.word (c :: r)
        rw [if_neg (by decide), List.length_take]; omega
    · split at h
      · split at h
        · cases h
        · cases h
          have := Lx.run_le (fun k => k == 4) (c :: r)
          rw [if_neg (by decide), List.length_take]; omega
      · split at h
        · split at h
          · cases h
          · rename_i m hm
            split at h
            · cases h
            · split at h
              · cases h
              · cases h
                obtain ⟨d, h1, _⟩ := close_at r m hm
                have := (List.getElem?_eq_some_iff.1 h1).1
                rw [if_pos rfl, List.length_take]; omega
        · split at h
          · split at h
            · cases h
              rename_i hr
              cases r with
              | nil => cases hr
              | cons a q => rfl
            · split at h
              · cases h
              · cases h; rfl
          · split at h
            · cases h; rfl
            · cases h

/-- What the loop over tokens carries. -/
def RLexRel (s : ByteArray) (w : World) (v x : Value) (wr : World) : Prop :=
  ∃ (i : Nat) (out : List Lx.Tok), x = .int .i64 i ∧ i ≤ s.size ∧ LexAt s i out ∧ wr.ownsRow w.heap.size 50 4 v out.length (tokFlat out) ∧ out.length ≤ 5000 ∧ Below w.heap.size w wr

set_option maxRecDepth 100000 in
set_option maxHeartbeats 4000000 in
theorem rlex_ok (s : ByteArray) (w : World) (hm : s.size ≤ 20000) :
    Calls Tryd.prog 31 #[.string s] w (LexPost s w) := by
  obtain ⟨i0, hi, hz0, hz1, hz2⟩ := info_parts info_tok3
  have HZ := Lib.hid (And.intro hi (And.intro hz0 (And.intro hz1 hz2)))
  clear hi hz0 hz1 hz2
  go_enter Tryd.func31, Tryd.ntmps31
  go_wp2_with fail
  refine (rgap_end s hm 0 (by omega) _).mono ?_
  rintro e w' ⟨rfl, hw⟩
  rw [hw]; clear hw
  have hg1 := (gap_drop s 0 (Nat.zero_le _)).2.2
  go_wp2_with fail
  go_loopw [5, 6] (fun v x wr => Hid (RLexRel s w v x wr)) (fun _ x _ => s.size - (intOf x).toNat)
  case atStart => exact Lib.hid ⟨gapEnd s 0, [], rfl, hg1, lexAt_start s hm, World.ownsRow_nil _ _ _ _, Nat.zero_le _, Below.refl _ _⟩
  case round =>
    obtain ⟨i, out, rfl, hi, hat, hown, hol, hbel⟩ := hrel.out
    obtain ⟨a, c, rfl⟩ := ownsRow_slice hown
    have HAT := Lib.hid hat; have HO := Lib.hid hown; have HB := Lib.hid hbel
    clear hat hown hbel hrel
    by_cases hlt : i < s.size
    · go_wp2_with fail
      refine (rnext_any s i _ hm hlt).mono ?_
      rintro e w3 ⟨rfl, B3⟩
      have HB3 := Lib.hid B3; clear B3
      have hsz3 := HB3.out.size
      cases hn : Lx.next 2 3 4 6 (s.data.toList.drop i) with
      | fail e =>
        rw [rnextV_fail s i e hn]
        have he := next_fail_err _ _ hn
        have HF := Lib.hid (lexAt_fail s i out HAT.out hlt e hn)
        clear hn
        unfold tok0
        rcases he with rfl | rfl | rfl | rfl
        all_goals
          go_wp2_with fail
          go_ret3
          refine ⟨.slice none 0 0, by rw [HF.out]; rfl, by rw [HF.out]; exact World.ownsRow_nil _ _ _ _, ?_⟩
          exact ((HB.out.trans (HB3.out.mono HB.out.size)).alloc (Nat.le_trans HB.out.size hsz3) _)
      | tok kd t n wd =>
        rw [rnextV_tok s i kd t n wd hn]
        have hw := next_tok_width _ _ _ _ _ hn
        have HWD := Lib.hid (next_tok_wd _ _ _ _ _ hn)
        have hds : s.data.size = s.size := rfl
        simp only [List.length_drop, Array.length_toList, hds] at hw
        clear hds
        have HN := Lib.hid hn; clear hn
        by_cases hfull : out.length = 5000
        · have HF := Lib.hid (lexAt_full s i out HAT.out hlt kd t n wd HN.out hfull)
          have hfb : ((out.length : Int) == 5000) = true := by simp [hfull]
          clear hfull
          unfold tokV
          go_wp2_with fail
          go_ret3
          refine ⟨.slice none 0 0, by rw [HF.out]; rfl, by rw [HF.out]; exact World.ownsRow_nil _ _ _ _, ?_⟩
          exact ((HB.out.trans (HB3.out.mono HB.out.size)).alloc (Nat.le_trans HB.out.size hsz3) _)
        · have HF := Lib.hid (lexAt_step s i out HAT.out hlt kd t n wd HN.out hfull)
          have hfb : ((out.length : Int) == 5000) = false := by simp; omega
          have HO3 := Lib.hid (((ownsRow_below HO.out (HB3.out)).alloc (.cells (tokCells ⟨kd, t, n, i⟩).toArray 50)).alloc (.cells (tokCells ⟨kd, t, n, i⟩).toArray 50))
          have HOW := Lib.hid (ownsRow_below HO.out HB3.out)
          have htl : t.length ≤ 1000000 := by have := HWD.out; split at this <;> omega
          clear HO
          unfold tokV
          go_wp2_with (at_builtin; refine wpList_append_own _ rfl (.tmp 35) (.tmp 37) 46 rfl w.heap.size 50 i0 tok0 4 40 Tryd.underlying46 HZ.out.1 HZ.out.2.1 HZ.out.2.2.1 HZ.out.2.2.2 rfl (by decide) _ _ _ rfl HO3.out ⟨w3.heap.size + 1, 0, none⟩ 1 1 (tokCells ⟨kd, t, n, i⟩) rfl rfl (news_cells _ _ _ _ (by simp)) (tok_one _) (by unfold maxLen; omega) (by omega) (by have := HB.out.size; simp; omega) ?_)
          intro v' w4 hown' hg' _
          have hsz4 := hg'.size
          simp only [World.size_alloc] at hsz4
          have HB4 : Hid (Below w.heap.size w w4) := Lib.hid ((((HB.out.trans (HB3.out.mono HB.out.size)).alloc (Nat.le_trans HB.out.size hsz3) _).alloc (by have := HB.out.size; simp; omega) _).grown hg' (by have := HB.out.size; simp; omega) (fun k hk => by have := (HO3.out.lt k hk).1; omega))
          have HO4 := Lib.hid hown'
          have hrow := (hg'.block w3.heap.size (by simp; omega) (by intro e; have := (HOW.out.lt _ e.symm).2; omega)).trans (heap_alloc2_old w3 (.cells #[.int .i64 kd, .string ⟨t.toArray⟩, .int .i64 n, .int .i64 i] 50) (.cells #[.int .i64 kd, .string ⟨t.toArray⟩, .int .i64 n, .int .i64 i] 50))
          have c0 := (cell_of_row _ _ 0 _ _ _ hrow).trans (show _ = some (Value.int .i64 kd) from rfl)
          have c1 := (cell_of_row _ _ 1 _ _ _ hrow).trans (show _ = some (Value.string ⟨t.toArray⟩) from rfl)
          have c2 := (cell_of_row _ _ 2 _ _ _ hrow).trans (show _ = some (Value.int .i64 n) from rfl)
          have c3 := (cell_of_row _ _ 3 _ _ _ hrow).trans (show _ = some (Value.int .i64 i) from rfl)
          clear hown' hg' HO3 HOW HB3 HAT HN hrow
          go_wp2_with fail
          refine (rwidth_any kd n i t htl w4).mono ?_
          rintro e w5 ⟨rfl, B5⟩
          rw [HWD.out]
          have HB5 := Lib.hid B5; clear B5
          go_wp2_with fail
          rw [show (i : Int) + (wd : Int) = ((i + wd : Nat) : Int) by omega]
          refine (rgap_end s hm (i + wd) (by omega) w5).mono ?_
          rintro e w6 ⟨rfl, hw6⟩
          rw [hw6]; clear hw6
          have hgd := (gap_drop s (i + wd) (by omega)).2
          go_wp2_with fail
          go_roundw
          case rel =>
            refine Lib.hid ⟨gapEnd s (i + wd), out ++ [⟨kd, t, n, i⟩], rfl, hgd.2, HF.out, ?_, by simp; omega, HB4.out.trans (HB5.out.mono HB4.out.size)⟩
            rw [tokFlat_snoc]
            have := ownsRow_below HO4.out HB5.out
            simpa using this
          case measure => simp [intOf]; omega
    · have HF := Lib.hid (lexAt_end s i out HAT.out (by omega))
      go_wp2_with fail
      go_ret3
      exact ⟨_, by rw [HF.out]; rfl, by rw [HF.out]; exact HO.out, HB.out⟩

theorem rlex_long (s : ByteArray) (w : World) (hm : ¬ s.size ≤ 20000) : Calls Tryd.prog 31 #[.string s] w (LexPost s w) := by
  have HF : Hid (Lx.lex s.data.toList = ⟨[], 2, -1⟩) := Lib.hid (by unfold Lx.lex; rw [if_pos (by simpa using Nat.lt_of_not_le hm)])
  have h : (20000 : Int) < (s.size : Int) := by omega
  go_enter Tryd.func31, Tryd.ntmps31
  go_wp2_with fail
  go_ret3
  exact ⟨.slice none 0 0, by rw [HF.out]; rfl, by rw [HF.out]; exact World.ownsRow_nil _ _ _ _, Below.refl _ _⟩

/-- The reference's Lex: the plain function's tokens, in a row of the call's own. -/
theorem rlex_any (s : ByteArray) (w : World) : Calls Tryd.prog 31 #[.string s] w (LexPost s w) := by
  by_cases h : s.size ≤ 20000
  · exact rlex_ok s w h
  · exact rlex_long s w h
end Go.Proofs.YtedddaojcknemaaDoor
