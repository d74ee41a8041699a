/- WeatherTexts: the law walked. -/
import Derived.Test.YtedddaojcknemaaDoorTxtC
import Derived.Test.YtedddaojcknemaaDoorOrdA
namespace Go.Proofs.YtedddaojcknemaaDoor
open Go.RowKit Go.Sort

set_option maxRecDepth 100000 in
set_option maxHeartbeats 4000000 in
theorem texts_big (l : List Sp) (t : ByteArray) (v : Value) (w : World) (hR : ReadRow w 5 v l.length (spFlat l)) (hb : 20 < l.length ∨ 2000 < t.size) :
    Calls Tryd.prog 6 #[v, .string t] w (OrdPost w) := by
  unfold OrdPost
  obtain ⟨a, c, rfl, hc1, hc2, _⟩ := hR.slice
  clear hR hc1 hc2
  by_cases h1 : 20 < l.length
  · have hgt : (20 : Int) < (l.length : Int) := by omega
    clear hb h1
    go_enter Tryd.func6, Tryd.ntmps6
    go_wp2_with fail
    refine (head_any _).mono ?_
    rintro e w1 ⟨rfl, hB⟩
    have HB := Lib.hid hB; clear hB
    go_wp2_with fail
    go_ret
    exact ⟨rfl, HB.out⟩
  · have h2 : (2000 : Int) < (t.size : Int) := by omega
    have h3 : ¬ (20 : Int) < (l.length : Int) := by omega
    clear hb h1
    go_enter Tryd.func6, Tryd.ntmps6
    go_wp2_with fail
    refine (head_any _).mono ?_
    rintro e w1 ⟨rfl, hB⟩
    have HB := Lib.hid hB; clear hB
    go_wp2_with fail
    go_ret
    exact ⟨rfl, HB.out⟩

def WideRel (toks : List Lx.Tok) (x19 x20 : Value) : Prop :=
  ∃ (i : Nat) (s : ByteArray), x20 = .int .i64 i ∧ i ≤ toks.length ∧ x19 = .string s ∧ s.data.toList = Tx.wideOf ((toks.take i).map (·.text))
theorem wide_succ {toks : List Lx.Tok} {i : Nat} {tk : Lx.Tok} (h : toks[i]? = some tk) : Tx.wideOf ((toks.take (i + 1)).map (·.text)) = Tx.wideOf ((toks.take i).map (·.text)) ++ ([9] ++ tk.text ++ [32, 35, 32, 59, 10]) := by
  rw [List.take_add_one, h]
  unfold Tx.wideOf
  simp
theorem wide_small {toks : List Lx.Tok} {i : Nat} {tk : Lx.Tok} {s : ByteArray} (h : toks[i]? = some tk) (hs : s.data.toList = Tx.wideOf ((toks.take i).map (·.text))) (hw : (Tx.wideOf (toks.map (·.text))).length ≤ 20000) : tk.text.length ≤ 20000 ∧ s.size ≤ 20000 := by
  have h1 := wide_succ h
  have h2 : Tx.wideOf (toks.map (·.text)) = Tx.wideOf ((toks.take (i + 1)).map (·.text)) ++ ((toks.drop (i + 1)).map (·.text)).flatMap fun t => [9] ++ t ++ [32, 35, 32, 59, 10] := by
    unfold Tx.wideOf
    rw [List.append_assoc, ← List.flatMap_append, ← List.map_append, List.take_append_drop]
  rw [h2, h1] at hw
  simp only [List.length_append] at hw
  have h3 : s.size = (Tx.wideOf ((toks.take i).map (·.text))).length := by rw [bytes_size, hs]
  omega
theorem toks_few {l : List Sp} {toks : List Lx.Tok} (_h : allB l = true) (hl : l.length ≤ 20) (hp : toks.map Tx.strip = l.flatMap Tx.spPcs) : toks.length ≤ 400 := by
  have h1 := (Tx.pcsL_size l).1
  have h2 : toks.length = (l.flatMap Tx.spPcs).length := by rw [← hp]; simp
  omega
/-- The text of a token in a row. -/
theorem readTok1 {w : World} {v : Value} {l : List Lx.Tok} (hR : ReadRow w 4 v l.length (tokFlat l)) (i : Nat) (t : Lx.Tok) (hi : l[i]? = some t) :
    ∃ g off c, v = .slice (some ⟨g, off, none⟩) l.length c ∧ l.length ≤ c ∧ c ≤ maxLen ∧ g < w.heap.size ∧ w.cell? ⟨g, off + i * 4 + 1, none⟩ = some (.string ⟨t.text.toArray⟩) := by
  have hlt : i < l.length := (List.getElem?_eq_some_iff.1 hi).1
  obtain ⟨a, c, rfl, h2, h3, h4⟩ := hR.slice
  obtain ⟨g, off, rfl, hc⟩ := h4 (by omega)
  refine ⟨g, off, c, rfl, h2, h3, hR.lt _ _ _ rfl (by omega), ?_⟩
  have key : ∀ (l : List Lx.Tok) (i : Nat), l[i]? = some t → (tokFlat l)[i * 4 + 1]? = some (Value.string ⟨t.text.toArray⟩) := by
    intro l
    induction l with
    | nil => intro i hi; simp at hi
    | cons x r ih =>
      intro i hi
      have hx : tokFlat (x :: r) = tokCells x ++ tokFlat r := rfl
      rw [hx]
      cases i with
      | zero => simp at hi; subst hi; rfl
      | succ i =>
        have h4 : (tokCells x).length = 4 := rfl
        rw [List.getElem?_append_right (by omega), h4, show (i + 1) * 4 + 1 - 4 = i * 4 + 1 by omega]
        exact ih i (by simpa using hi)
  have := hc (i * 4 + 1) _ (key l i hi)
  rwa [← Nat.add_assoc] at this

set_option maxRecDepth 100000 in
set_option maxHeartbeats 4000000 in
theorem texts_main (l : List Sp) (t : ByteArray) (v : Value) (w : World) (hR : ReadRow w 5 v l.length (spFlat l)) (hT : TabW w) (hb : ¬ 20 < l.length) (hs : ¬ 2000 < t.size) :
    Calls Tryd.prog 6 #[v, .string t] w (OrdPost w) := by
  unfold OrdPost
  have HR := Lib.hid hR
  have HT := Lib.hid hT
  obtain ⟨a, c, rfl, hc1, hc2, _⟩ := hR.slice
  have hgt : ¬ (20 : Int) < (l.length : Int) := by omega
  have hst : ¬ (2000 : Int) < (t.size : Int) := by omega
  have hll : l.length ≤ 20 := by omega
  clear hR hT hc1 hc2 hb hs
  go_enter Tryd.func6, Tryd.ntmps6
  go_wp2_with fail
  refine (head_any _).mono ?_
  rintro e w1 ⟨rfl, hB1⟩
  have HB1 := Lib.hid hB1; clear hB1
  go_wp2_with fail
  refine (parse_any t w1).mono ?_
  rintro e w2 ⟨v2, rfl, o2, hB2⟩
  have hfine := Tx.fine_parse t.data.toList
  have HRP := Lib.hid (ReadRow.of_owns o2)
  have HB2 := Lib.hid (HB1.out.trans (hB2.mono HB1.out.size))
  obtain ⟨a2, c2, rfl⟩ := ownsRow_slice o2
  clear o2 hB2
  generalize Pz.parse t.data.toList = R at hfine HRP ⊢
  obtain ⟨sps, er, at0⟩ := R
  simp only at hfine HRP ⊢
  have he01 : er = 0 ∨ (er == 0) = false := by
    rcases hfine with ⟨h1, _⟩ | ⟨h1, _⟩
    · exact .inl h1
    · exact .inr (by simpa using h1)
  have HF := Lib.hid hfine; clear hfine
  go_upto_if 41 with fail
  go_cut [9, 10] from 42 to 51 (fun _ _ wx => Hid (Below w.heap.size w wx))
  case first =>
    rcases HF.out with ⟨h1, h2⟩ | ⟨h1, h2⟩
    · simp only at h1 h2
      subst h1
      have H2 := Lib.hid h2; clear h2
      go_wp2_with fail
      refine (text_any sps _ _ HRP.out (HT.out.below HB2.out)).mono ?_
      rintro e w3 ⟨rfl, hB3⟩
      rw [show txtE sps = 0 from by unfold txtE; rw [H2.out]; rfl]
      have HB3 := Lib.hid (HB2.out.trans (hB3.mono HB2.out.size)); clear hB3
      go_wp2_with fail
      go_meet
      exact HB3
    · simp only at h1 h2
      subst h2
      have he : (er == 0) = false := by simpa using h1
      clear h1 he01
      go_wp2_with fail
      go_meet
      exact HB2
  case rest =>
    have HB3 := Lib.hid hcut.out
    clear hcut HF he01 HRP
    go_wp2_with fail
    refine (text_any l _ wc (HR.out.below HB3.out) (HT.out.below HB3.out)).mono ?_
    rintro e w4 ⟨rfl, hB4⟩
    have HB4 := Lib.hid (HB3.out.trans (hB4.mono HB3.out.size)); clear hB4 HB3
    cases hall : allB l
    · rw [show txtE l = 1 from by unfold txtE; rw [hall]; rfl, show txtB l = [] from by unfold txtB; rw [hall]; rfl]
      clear hall
      go_wp2_with fail
      go_ret
      exact ⟨rfl, HB4.out⟩
    · rw [show txtE l = 0 from by unfold txtE; rw [hall]; rfl, show txtB l = Tx.textL l from by unfold txtB; rw [hall]; rfl]
      have HALL := Lib.hid hall; clear hall
      go_wp2_with fail
      refine (parse_any ⟨(Tx.textL l).toArray⟩ w4).mono ?_
      rintro e w5 ⟨v5, rfl, o5, hB5⟩
      rw [show Pz.parse (⟨(Tx.textL l).toArray⟩ : ByteArray).data.toList = ⟨l, 0, 0⟩ from by simpa using Tx.parse_text HALL.out] at o5 ⊢
      have HR5 := Lib.hid (ReadRow.of_owns o5)
      have HB5 := Lib.hid (HB4.out.trans (hB5.mono HB4.out.size))
      obtain ⟨a5, c5, rfl⟩ := ownsRow_slice o5
      clear o5 hB5 HB4
      simp only at HR5 ⊢
      go_wp2_with fail
      refine (lex_any ⟨(Tx.textL l).toArray⟩ w5).mono ?_
      rintro e w6 ⟨v6, rfl, o6, hB6⟩
      obtain ⟨toks, hlx, hst⟩ := Tx.lex_text l (by have := HALL.out; unfold allB at this; rw [Bool.and_eq_true] at this; exact this.2) (by omega)
      rw [show Lx.lex (⟨(Tx.textL l).toArray⟩ : ByteArray).data.toList = ⟨toks, 0, 0⟩ from by simpa using hlx] at o6 ⊢
      have HST := Lib.hid (And.intro hst (Tx.parse_wide HALL.out (by omega) hst))
      clear hlx hst
      have HR6 := Lib.hid (ReadRow.of_owns o6)
      have HB6 := Lib.hid (HB5.out.trans (hB6.mono HB5.out.size))
      have HR56 := Lib.hid (HR5.out.below hB6)
      obtain ⟨a6, c6, rfl⟩ := ownsRow_slice o6
      clear o6 hB6 HB5 HR5
      simp only at HR6 ⊢
      go_wp2_with fail
      refine (same_any l l _ _ w6 HR56.out (HR.out.below HB6.out)).mono ?_
      rintro e w7 ⟨rfl, hB7⟩
      rw [show decide (l = l) = true from by simp]
      have HB7 := Lib.hid (HB6.out.trans (hB7.mono HB6.out.size))
      have HR7 := Lib.hid (HR6.out.below hB7)
      clear hB7 HB6 HR6 HR56
      go_wp2_with fail
      go_loop [19, 20] (fun x19 x20 => Hid (WideRel toks x19 x20)) (fun _ x20 => toks.length - (intOf x20).toNat)
      case atStart => exact Lib.hid ⟨0, ⟨#[35, 10]⟩, rfl, Nat.zero_le _, rfl, rfl⟩
      case round =>
        obtain ⟨i, s, rfl, hi, rfl, hs⟩ := hrel.out
        clear hrel
        have htl : toks.length ≤ 400 := toks_few HALL.out hll HST.out.1
        by_cases hlt : i < toks.length
        · obtain ⟨tk, htk⟩ : ∃ tk, toks[i]? = some tk := ⟨_, List.getElem?_eq_getElem hlt⟩
          obtain ⟨g, off, cc, hv, _, _, hg, c1⟩ := readTok1 HR7.out i tk htk
          cases hv
          obtain ⟨hb1, hb2⟩ := wide_small htk hs HST.out.2.1
          have HS := Lib.hid (And.intro hs htk); clear hs htk
          have n1 : ¬ 9223372036854775807 < 1 + tk.text.length := by omega
          have n2 : ¬ 9223372036854775807 < 1 + tk.text.length + 5 := by omega
          have n3 : ¬ 9223372036854775807 < s.size + (1 + tk.text.length + 5) := by omega
          go_wp2_with fail
          go_round
          case rel => exact Lib.hid ⟨i + 1, _, by simp, by omega, rfl, by
            simp only [bytes_append]
            rw [HS.out.1, wide_succ HS.out.2]⟩
          case measure => simp [intOf]; omega
        · have hie : i = toks.length := by omega
          subst hie
          rw [List.take_length] at hs
          have HS := Lib.hid hs; clear hs
          go_wp2_with fail
          refine (parse_any s w7).mono ?_
          rintro e w8 ⟨v8, rfl, o8, hB8⟩
          rw [HS.out, HST.out.2.2] at o8 ⊢
          have HR8 := Lib.hid (ReadRow.of_owns o8)
          have HB8 := Lib.hid (HB7.out.trans (hB8.mono HB7.out.size))
          obtain ⟨a8, c8, rfl⟩ := ownsRow_slice o8
          clear o8 hB8
          simp only at HR8 ⊢
          go_wp2_with fail
          refine (same_any l l _ _ w8 HR8.out (HR.out.below HB8.out)).mono ?_
          rintro e w9 ⟨rfl, hB9⟩
          rw [show decide (l = l) = true from by simp]
          have HB9 := Lib.hid (HB8.out.trans (hB9.mono HB8.out.size)); clear hB9
          go_wp2_with fail
          go_ret
          exact ⟨rfl, HB9.out⟩

theorem texts_any (l : List Sp) (t : ByteArray) (v : Value) (w : World) (hR : ReadRow w 5 v l.length (spFlat l)) (hT : TabW w) :
    Calls Tryd.prog 6 #[v, .string t] w (OrdPost w) := by
  by_cases h1 : 20 < l.length
  · exact texts_big l t v w hR (.inl h1)
  · by_cases h2 : 2000 < t.size
    · exact texts_big l t v w hR (.inr h2)
    · exact texts_main l t v w hR hT h1 h2
end Go.Proofs.YtedddaojcknemaaDoor
