/- The canonical text of spells; parsed it gives the spells, with further gaps too; what is parsed is valid. No program in sight. -/
import Derived.Test.YtedddaojcknemaaDoorTxtP
import Derived.Test.YtedddaojcknemaaDoorAllA
namespace Go.Proofs.YtedddaojcknemaaDoor
namespace Tx
open Lx

def wordOf (k : Int) : List UInt8 := if k = 1 then [99, 108, 111, 117, 100] else if k = 2 then [115, 101, 101, 105, 110, 103] else [99, 108, 111, 115, 101, 100]
def numsText (s : Sp) : List UInt8 := if s.k = 1 then 32 :: (Lib.itoa s.q ++ 32 :: Lib.itoa s.n) else if s.k = 2 then 32 :: Lib.itoa s.n else []
def endText (s : Sp) : List UInt8 := [32, 102, 114, 111, 109, 32] ++ Lib.itoa s.f ++ [32, 117, 110, 116, 105, 108, 32] ++ Lib.itoa s.u ++ [59, 10]
def spText (s : Sp) : List UInt8 := wordOf s.k ++ numsText s ++ endText s
def textL (l : List Sp) : List UInt8 := l.flatMap spText

def namePc (t : List UInt8) : Pc := ⟨1, t, 0⟩
def semiPc : Pc := ⟨4, Pz.semiW, 0⟩
def numPcs (s : Sp) : List Pc := if s.k = 1 then [numPc s.q, numPc s.n] else if s.k = 2 then [numPc s.n] else []
def spPcs (s : Sp) : List Pc := namePc (wordOf s.k) :: (numPcs s ++ [namePc Pz.fromW, numPc s.f, namePc Pz.untilW, numPc s.u, semiPc])

def Good (p : Pc) : Prop := ∀ rest, Ends rest → Reads p rest
theorem good_num (n : Int) (h0 : 0 ≤ n) (h1 : n < 10000000000000) : Good (numPc n) := fun rest h => reads_num n rest h0 h1 h
theorem good_word (k : Int) : Good (namePc (wordOf k)) := fun rest h => by
  unfold wordOf namePc
  split
  · exact reads_name 99 [108, 111, 117, 100] rest (by decide) (by decide) (by decide) h
  · split
    · exact reads_name 115 [101, 101, 105, 110, 103] rest (by decide) (by decide) (by decide) h
    · exact reads_name 99 [108, 111, 115, 101, 100] rest (by decide) (by decide) (by decide) h
theorem good_from : Good (namePc Pz.fromW) := fun rest h => reads_name 102 [114, 111, 109] rest (by decide) (by decide) (by decide) h
theorem good_until : Good (namePc Pz.untilW) := fun rest h => reads_name 117 [110, 116, 105, 108] rest (by decide) (by decide) (by decide) h
theorem good_semi : Good semiPc := fun rest _ => reads_semi rest

/-- What a valid spell's numbers are. -/
theorem formed_nums {s : Sp} (h : formedB s = true) : (s.k = 1 ∧ 0 ≤ s.q ∧ s.q ≤ 3 ∧ 0 ≤ s.n ∧ s.n ≤ 1000 ∨ s.k = 2 ∧ s.q = 0 ∧ 1 ≤ s.n ∧ s.n ≤ 100 ∨ s.k = 3 ∧ s.q = 0 ∧ s.n = 0) ∧ 0 ≤ s.f ∧ s.f ≤ 38399 ∧ 0 ≤ s.u ∧ s.u ≤ 38399 ∧ s.f ≤ s.u := by
  unfold formedB kindOk momB at h
  simp only [Bool.and_eq_true, decide_eq_true_eq] at h
  obtain ⟨⟨⟨h1, h2⟩, h3⟩, h4⟩ := h
  refine ⟨?_, by omega, by omega, by omega, by omega, by omega⟩
  split at h1
  · left
    unfold val1 at h1
    simp at h1
    omega
  · split at h1
    · right; left
      unfold val2 at h1
      simp at h1
      omega
    · split at h1
      · right; right
        unfold val3 at h1
        simp at h1
        omega
      · simp at h1
theorem good_pcs {s : Sp} (h : formedB s = true) : ∀ p ∈ spPcs s, Good p := by
  obtain ⟨hk, h1, h2, h3, h4, _⟩ := formed_nums h
  intro p hp
  have hnum : ∀ p ∈ numPcs s, Good p := by
    intro p hp
    unfold numPcs at hp
    rcases hk with ⟨hk, a, b, c, d⟩ | ⟨hk, a, b, c⟩ | ⟨hk, a, b⟩
    · rw [if_pos hk] at hp
      simp at hp
      rcases hp with rfl | rfl
      · exact good_num _ a (by omega)
      · exact good_num _ c (by omega)
    · rw [if_neg (by omega), if_pos hk] at hp
      simp at hp
      subst hp
      exact good_num _ (by omega) (by omega)
    · rw [if_neg (by omega), if_neg (by omega)] at hp
      simp at hp
  unfold spPcs at hp
  simp only [List.mem_cons, List.mem_append, List.not_mem_nil, or_false] at hp
  rcases hp with rfl | hp | rfl | rfl | rfl | rfl | rfl
  · exact good_word _
  · exact hnum p hp
  · exact good_from
  · exact good_num _ (by omega) (by omega)
  · exact good_until
  · exact good_num _ (by omega) (by omega)
  · exact good_semi

/-! The canonical text as items. -/
def sepIt (p : Pc) : It := ⟨[], p, [32]⟩
def spIts (s : Sp) : List It := sepIt (namePc (wordOf s.k)) :: ((numPcs s).map sepIt ++ [sepIt (namePc Pz.fromW), sepIt (numPc s.f), sepIt (namePc Pz.untilW), ⟨[], numPc s.u, []⟩, ⟨[], semiPc, [10]⟩])
theorem spIts_pcs (s : Sp) : (spIts s).map (·.pc) = spPcs s := by
  unfold spIts spPcs
  have : ∀ l : List Pc, (l.map sepIt).map (·.pc) = l := by
    intro l
    induction l with
    | nil => rfl
    | cons a l ih => simp only [List.map_cons, ih]; rfl
  simp only [List.map_cons, List.map_append, this]
  rfl
theorem flat_sp (s : Sp) (r : List It) : flat (spIts s ++ r) = spText s ++ flat r := by
  unfold spIts spText numPcs numsText endText
  split
  · simp [flat, sepIt, namePc, numPc, semiPc, Pz.fromW, Pz.untilW, Pz.semiW]
  · split
    · simp [flat, sepIt, namePc, numPc, semiPc, Pz.fromW, Pz.untilW, Pz.semiW]
    · simp [flat, sepIt, namePc, numPc, semiPc, Pz.fromW, Pz.untilW, Pz.semiW]
theorem flat_text : ∀ l : List Sp, flat (l.flatMap spIts) = textL l
  | [] => rfl
  | s :: l => by
    show flat (spIts s ++ l.flatMap spIts) = spText s ++ textL l
    rw [flat_sp, flat_text l]
theorem gap_32 : IsGap [32] := gap_blank 32 (by decide) gap_nil
theorem gap_10 : IsGap [10] := gap_blank 10 (by decide) gap_nil
theorem chain_sep (p : Pc) (r : List It) (hp : Good p) (hr : Chain r) : Chain (sepIt p :: r) := ⟨gap_nil, gap_32, hp _ (ends_of _ (by decide)), hr⟩
theorem chain_sp {s : Sp} (h : formedB s = true) (r : List It) (hr : Chain r) : Chain (spIts s ++ r) := by
  have hg := good_pcs h
  have hgn : ∀ p ∈ numPcs s, Good p := fun p hp => hg p (by unfold spPcs; simp [hp])
  unfold spIts
  have hl : Chain (([sepIt (namePc Pz.fromW), sepIt (numPc s.f), sepIt (namePc Pz.untilW), ⟨[], numPc s.u, []⟩, ⟨[], semiPc, [10]⟩] : List It) ++ r) := by
    refine chain_sep _ _ good_from (chain_sep _ _ (hg _ (by unfold spPcs; simp)) (chain_sep _ _ good_until ⟨gap_nil, gap_nil, ?_, gap_nil, gap_10, reads_semi _, hr⟩))
    exact hg (numPc s.u) (by unfold spPcs; simp) _ (ends_of (c := 59) _ (by decide))
  have hm : ∀ l : List Pc, (∀ p ∈ l, Good p) → ∀ r, Chain r → Chain (l.map sepIt ++ r) := by
    intro l
    induction l with
    | nil => intro _ r hr; exact hr
    | cons a l ih => intro hl r hr; exact chain_sep a _ (hl a (by simp)) (ih (fun p hp => hl p (by simp [hp])) r hr)
  have := chain_sep (namePc (wordOf s.k)) _ (good_word _) (hm _ hgn _ hl)
  simpa using this
theorem chain_text : ∀ l : List Sp, l.all formedB = true → Chain (l.flatMap spIts)
  | [], _ => trivial
  | s :: l, h => by
    simp only [List.all_cons, Bool.and_eq_true] at h
    exact chain_sp h.1 _ (chain_text l h.2)

theorem pcs_text : ∀ l : List Sp, (l.flatMap spIts).map (·.pc) = l.flatMap spPcs
  | [] => rfl
  | s :: l => by
    show (spIts s ++ l.flatMap spIts).map (·.pc) = spPcs s ++ l.flatMap spPcs
    rw [List.map_append, spIts_pcs, pcs_text l]

/-! Sizes. -/
theorem itoa_len (n : Int) (h0 : 0 ≤ n) (h1 : n < 100000) : (Lib.itoa n).length ≤ 5 := by
  unfold Lib.itoa
  rw [if_neg (by omega)]
  exact dec_len n.toNat 4 (by omega)
theorem sp_size {s : Sp} (h : formedB s = true) : (spText s).length ≤ 50 := by
  obtain ⟨hk, h1, h2, h3, h4, _⟩ := formed_nums h
  have e1 := itoa_len s.f (by omega) (by omega)
  have e2 := itoa_len s.u (by omega) (by omega)
  have ew : (wordOf s.k).length ≤ 6 := by unfold wordOf; split; simp; split <;> simp
  have en : (numsText s).length ≤ 12 := by
    unfold numsText
    rcases hk with ⟨hk, a, b, c, d⟩ | ⟨hk, a, b, c⟩ | ⟨hk, a, b⟩
    · have := itoa_len s.q (by omega) (by omega)
      have := itoa_len s.n (by omega) (by omega)
      rw [if_pos hk]; simp; omega
    · have := itoa_len s.n (by omega) (by omega)
      rw [if_neg (by omega), if_pos hk]; simp; omega
    · rw [if_neg (by omega), if_neg (by omega)]; simp
  unfold spText endText
  simp only [List.length_append, List.length_cons, List.length_nil]
  omega
theorem text_size : ∀ l : List Sp, l.all formedB = true → (textL l).length ≤ 50 * l.length
  | [], _ => by simp [textL]
  | s :: l, h => by
    simp only [List.all_cons, Bool.and_eq_true] at h
    have h1 := sp_size h.1
    have h2 := text_size l h.2
    show (spText s ++ textL l).length ≤ _
    simp; omega
theorem pcs_size (s : Sp) : (spPcs s).length ≤ 8 ∧ 1 ≤ (spPcs s).length := by
  unfold spPcs numPcs
  split
  · simp
  · split <;> simp
theorem pcsL_size : ∀ l : List Sp, (l.flatMap spPcs).length ≤ 8 * l.length ∧ l.length ≤ (l.flatMap spPcs).length
  | [] => by simp
  | s :: l => by
    have := pcs_size s
    have := pcsL_size l
    show (spPcs s ++ l.flatMap spPcs).length ≤ _ ∧ _ ≤ (spPcs s ++ l.flatMap spPcs).length
    rw [List.length_append, List.length_cons]; omega

/-! Parsing tokens. -/
theorem nx_ok {sz kind : Int} {t : Tok} {r : List Tok} (h : t.kind = kind) : Pz.nx sz kind (t :: r) = .ok t r := by show (if t.kind = kind then _ else _) = _; rw [if_pos h]
theorem mu_ok {sz kind : Int} {text : List UInt8} {t : Tok} {r : List Tok} (h : t.kind = kind) (h' : t.text = text) : Pz.mu sz kind text (t :: r) = .ok t.at_ r := by show (if t.kind = kind ∧ t.text = text then _ else _) = _; rw [if_pos ⟨h, h'⟩]
theorem strip_cons {toks : List Tok} {p : Pc} {q : List Pc} (h : toks.map strip = p :: q) : ∃ t r, toks = t :: r ∧ t.kind = p.kind ∧ t.text = p.text ∧ t.n = p.n ∧ r.map strip = q := by
  cases toks with
  | nil => cases h
  | cons t r =>
    simp only [List.map_cons, List.cons.injEq] at h
    obtain ⟨h1, h2⟩ := h
    subst h1
    exact ⟨t, r, rfl, rfl, rfl, rfl, h2⟩
theorem go_end (sz : Int) (K : Pz.Kont) (out : List Sp) (k q n : Int) (s : Sp) (toks : List Tok) (rest : List Pc) (hs : s = ⟨k, q, n, s.f, s.u⟩) (hf : formedB s = true) (ho : out.length ≠ 200)
    (h : toks.map strip = [namePc Pz.fromW, numPc s.f, namePc Pz.untilW, numPc s.u, semiPc] ++ rest) :
    ∃ r : List Tok, r.map strip = rest ∧ Pz.s3 sz K out k q n toks = K r (out ++ [s]) ∧ r.length + 5 = toks.length := by
  obtain ⟨t1, r1, rfl, a1, b1, c1, h⟩ := strip_cons h
  obtain ⟨t2, r2, rfl, a2, b2, c2, h⟩ := strip_cons h
  obtain ⟨t3, r3, rfl, a3, b3, c3, h⟩ := strip_cons h
  obtain ⟨t4, r4, rfl, a4, b4, c4, h⟩ := strip_cons h
  obtain ⟨t5, r5, rfl, a5, b5, c5, h⟩ := strip_cons h
  refine ⟨r5, h, ?_, rfl⟩
  unfold Pz.s3
  rw [mu_ok (kind := 1) (text := Pz.fromW) a1 b1]
  simp only []
  unfold Pz.s4
  rw [nx_ok (kind := 2) a2]
  simp only []
  unfold Pz.s5
  rw [mu_ok (kind := 1) (text := Pz.untilW) a3 b3]
  simp only []
  unfold Pz.s6
  rw [nx_ok (kind := 2) a4]
  simp only []
  unfold Pz.s7
  rw [mu_ok (kind := 4) (text := Pz.semiW) a5 b5]
  simp only []
  unfold Pz.s8
  have e : (⟨k, q, n, t2.n, t4.n⟩ : Sp) = s := by rw [c2, c4]; exact hs.symm
  rw [e, hf, if_neg (by simp), if_neg ho]
theorem go_pcs (sz : Int) : ∀ (l : List Sp) (m : Nat) (toks : List Tok) (out : List Sp), toks.map strip = l.flatMap spPcs → l.all formedB = true → out.length + l.length ≤ 200 → l.length ≤ m → Pz.go sz m toks out = ⟨out ++ l, 0, 0⟩
  | [], 0, _, out, _, _, _, _ => by simp [Pz.go]
  | [], m + 1, toks, out, h, _, _, _ => by
    have : toks = [] := by simpa using h
    subst this
    simp [Pz.go]
  | s :: l, 0, _, _, _, _, _, hm => by simp at hm
  | s :: l, m + 1, toks, out, h, hf, ho, hm => by
    simp only [List.all_cons, Bool.and_eq_true] at hf
    simp only [List.length_cons] at ho hm
    have hfl := formed_nums hf.1
    have h' : toks.map strip = namePc (wordOf s.k) :: (numPcs s ++ ([namePc Pz.fromW, numPc s.f, namePc Pz.untilW, numPc s.u, semiPc] ++ l.flatMap spPcs)) := by
      rw [h]; show spPcs s ++ l.flatMap spPcs = _; generalize l.flatMap spPcs = R; unfold spPcs; simp
    obtain ⟨t, r, rfl, a, b, _, hr⟩ := strip_cons h'
    have hgo : Pz.go sz (m + 1) (t :: r) out = Pz.s0 sz (Pz.go sz m) out (t :: r) := by
      show (if (t :: r) = [] then (⟨out, 0, 0⟩ : Pz.POut) else Pz.s0 sz (Pz.go sz m) out (t :: r)) = _
      rw [if_neg (by simp)]
    rw [hgo]
    unfold Pz.s0
    rw [nx_ok (kind := 1) a]
    simp only []
    unfold Pz.s1
    have b' : t.text = wordOf s.k := b
    obtain ⟨hk, _⟩ := hfl
    have hfin : ∀ r5 : List Tok, r5.map strip = l.flatMap spPcs → Pz.go sz m r5 (out ++ [s]) = ⟨out ++ s :: l, 0, 0⟩ := by
      intro r5 h5
      rw [go_pcs sz l m r5 (out ++ [s]) h5 hf.2 (by simp; omega) (by omega)]
      simp
    obtain ⟨k, q, n, f, u⟩ := s
    simp only at hk b' hr
    rcases hk with ⟨rfl, _⟩ | ⟨rfl, rfl, _⟩ | ⟨rfl, rfl, rfl⟩
    · have hkw : Pz.kw t.text = 1 := by rw [b']; decide
      rw [hkw, if_neg (by decide)]
      unfold Pz.s2
      rw [if_pos rfl]
      unfold Pz.s2q
      obtain ⟨t1, r1, rfl, a1, _, c1, hr⟩ := strip_cons (p := numPc q) (q := numPc n :: _) hr
      rw [nx_ok (kind := 2) a1]
      simp only []
      unfold Pz.s2n
      obtain ⟨t2, r2, rfl, a2, _, c2, hr⟩ := strip_cons (p := numPc n) hr
      rw [nx_ok (kind := 2) a2]
      simp only []
      obtain ⟨r5, h5, e5, _⟩ := go_end sz (Pz.go sz m) out 1 t1.n t2.n ⟨1, q, n, f, u⟩ r2 (l.flatMap spPcs) (by rw [c1, c2]; rfl) hf.1 (by omega) hr
      rw [e5]
      exact hfin r5 h5
    · have hkw : Pz.kw t.text = 2 := by rw [b']; decide
      rw [hkw, if_neg (by decide)]
      unfold Pz.s2
      rw [if_neg (by decide), if_pos rfl]
      unfold Pz.s2n
      obtain ⟨t2, r2, rfl, a2, _, c2, hr⟩ := strip_cons (p := numPc n) hr
      rw [nx_ok (kind := 2) a2]
      simp only []
      obtain ⟨r5, h5, e5, _⟩ := go_end sz (Pz.go sz m) out 2 0 t2.n ⟨2, 0, n, f, u⟩ r2 (l.flatMap spPcs) (by rw [c2]; rfl) hf.1 (by omega) hr
      rw [e5]
      exact hfin r5 h5
    · have hkw : Pz.kw t.text = 3 := by rw [b']; decide
      rw [hkw, if_neg (by decide)]
      unfold Pz.s2
      rw [if_neg (by decide), if_neg (by decide)]
      obtain ⟨r5, h5, e5, _⟩ := go_end sz (Pz.go sz m) out 3 0 0 ⟨3, 0, 0, f, u⟩ r (l.flatMap spPcs) rfl hf.1 (by omega) hr
      rw [e5]
      exact hfin r5 h5

/-- A text that lexes as spells' tokens is parsed as the spells. -/
theorem parse_of_lex {s : List UInt8} {toks : List Tok} {l : List Sp} (h : lex s = ⟨toks, 0, 0⟩) (hp : toks.map strip = l.flatMap spPcs) (hf : allB l = true) : Pz.parse s = ⟨l, 0, 0⟩ := by
  unfold allB at hf
  simp only [Bool.and_eq_true, decide_eq_true_eq] at hf
  unfold Pz.parse
  rw [h]
  simp only [ne_eq, not_true_eq_false, if_false]
  have hlen : l.length ≤ toks.length := by
    have := (pcsL_size l).2
    rw [← hp] at this
    simpa using this
  simpa using go_pcs s.length l toks.length toks [] hp hf.2 (by simpa using hf.1) hlen
theorem lex_text (l : List Sp) (hf : l.all formedB = true) (hl : l.length ≤ 400) : ∃ toks : List Tok, lex (textL l) = ⟨toks, 0, 0⟩ ∧ toks.map strip = l.flatMap spPcs := by
  have hs := text_size l hf
  have hp := (pcsL_size l).1
  have hpc := pcs_text l
  have hcount : (l.flatMap spIts).length = (l.flatMap spPcs).length := by rw [← hpc]; simp
  have := lex_chain [] (l.flatMap spIts) gap_nil (chain_text l hf) (by omega) (by rw [flat_text]; simp; omega)
  rw [flat_text, hpc] at this
  simpa using this
/-- The text with a gap ahead of each token and one behind it. -/
def wideOf (toks : List (List UInt8)) : List UInt8 := [35, 10] ++ toks.flatMap fun t => [9] ++ t ++ [32, 35, 32, 59, 10]
theorem wide_flat : ∀ toks : List Tok, flat (toks.map fun t => ⟨[9], strip t, [32, 35, 32, 59, 10]⟩) = (toks.map (·.text)).flatMap fun t => [9] ++ t ++ [32, 35, 32, 59, 10]
  | [] => rfl
  | t :: r => by
    simp only [List.map_cons, List.flatMap_cons, flat, wide_flat r]
    simp [strip]
theorem gap_lead : IsGap [35, 10] := gap_hash (t := []) (by simp) gap_nil
theorem gap_post : IsGap [32, 35, 32, 59, 10] := gap_blank 32 (by decide) (gap_hash (t := [32, 59]) (by decide) gap_nil)
theorem gap_9 : IsGap [9] := gap_blank 9 (by decide) gap_nil
theorem wide_chain : ∀ toks : List Tok, (∀ t ∈ toks, Good (strip t)) → Chain (toks.map fun t => ⟨[9], strip t, [32, 35, 32, 59, 10]⟩)
  | [], _ => trivial
  | t :: r, h => ⟨gap_9, gap_post, h t (by simp) _ (ends_of (c := 32) _ (by decide)), wide_chain r fun x hx => h x (by simp [hx])⟩
theorem wide_size : ∀ l : List (List UInt8), (l.flatMap fun t => [9] ++ t ++ [32, 35, 32, 59, 10]).length = 6 * l.length + (l.map List.length).sum
  | [] => rfl
  | t :: r => by
    simp only [List.flatMap_cons, List.length_append, List.length_cons, List.length_nil, List.map_cons, List.sum_cons, wide_size r]; omega
theorem good_all {l : List Sp} (hf : l.all formedB = true) : ∀ p ∈ l.flatMap spPcs, Good p := by
  intro p hp
  obtain ⟨s, hs, hp⟩ := List.mem_flatMap.1 hp
  exact good_pcs (List.all_eq_true.1 hf s hs) p hp
/-- Tokens' texts are no longer than the text. -/
theorem pcs_texts (s : Sp) : ((spPcs s).map fun p => p.text.length).sum ≤ (spText s).length := by
  unfold spPcs spText numPcs numsText endText
  split
  · simp [namePc, numPc, semiPc, Pz.fromW, Pz.untilW, Pz.semiW]; omega
  · split
    · simp [namePc, numPc, semiPc, Pz.fromW, Pz.untilW, Pz.semiW]; omega
    · simp [namePc, numPc, semiPc, Pz.fromW, Pz.untilW, Pz.semiW]; omega
theorem pcsL_texts : ∀ l : List Sp, ((l.flatMap spPcs).map fun p => p.text.length).sum ≤ (textL l).length
  | [] => by simp [textL]
  | s :: l => by
    have h1 := pcs_texts s
    have h2 := pcsL_texts l
    show ((spPcs s ++ l.flatMap spPcs).map _).sum ≤ (spText s ++ textL l).length
    rw [List.map_append, List.sum_append, List.length_append]; omega
theorem parse_wide {l : List Sp} {toks : List Tok} (hf : allB l = true) (hl : l.length ≤ 100) (hp : toks.map strip = l.flatMap spPcs) : (wideOf (toks.map (·.text))).length ≤ 20000 ∧ Pz.parse (wideOf (toks.map (·.text))) = ⟨l, 0, 0⟩ := by
  have hf' := hf
  unfold allB at hf
  simp only [Bool.and_eq_true, decide_eq_true_eq] at hf
  have hsz := text_size l hf.2
  have hcnt := (pcsL_size l).1
  have hlen : toks.length = (l.flatMap spPcs).length := by rw [← hp]; simp
  have hsum : ((toks.map (·.text)).map List.length).sum ≤ (textL l).length := by
    have e : (toks.map (·.text)).map List.length = (l.flatMap spPcs).map fun p => p.text.length := by
      rw [← hp]; simp [strip, Function.comp_def]
    rw [e]; exact pcsL_texts l
  have hw : (wideOf (toks.map (·.text))).length ≤ 20000 := by
    unfold wideOf
    rw [List.length_append, wide_size]
    simp only [List.length_map, List.length_cons, List.length_nil]; omega
  refine ⟨hw, ?_⟩
  have hg : ∀ t ∈ toks, Good (strip t) := by
    intro t ht
    refine good_all hf.2 _ ?_
    rw [← hp]
    exact List.mem_map.2 ⟨t, ht, rfl⟩
  have hc := lex_chain [35, 10] (toks.map fun t => ⟨[9], strip t, [32, 35, 32, 59, 10]⟩) gap_lead (wide_chain toks hg) (by simp; omega) (by rw [wide_flat]; exact hw)
  rw [wide_flat] at hc
  obtain ⟨toks', e1, e2⟩ := hc
  refine parse_of_lex e1 ?_ hf'
  rw [e2, ← hp]; simp

/-- The canonical text is parsed as the spells. -/
theorem parse_text {l : List Sp} (hf : allB l = true) : Pz.parse (textL l) = ⟨l, 0, 0⟩ := by
  have hf' := hf
  unfold allB at hf
  simp only [Bool.and_eq_true, decide_eq_true_eq] at hf
  obtain ⟨toks, e1, e2⟩ := lex_text l hf.2 (by omega)
  exact parse_of_lex e1 e2 hf'

/-! What is parsed is valid. -/
def Fine (R : Pz.POut) : Prop := R.err = 0 ∧ allB R.sps = true ∨ R.err ≠ 0 ∧ R.sps = []
theorem nx_err {sz kind e a : Int} {l : List Tok} (h : Pz.nx sz kind l = .fail e a) : e ≠ 0 := by
  unfold Pz.nx at h
  split at h
  · cases h; decide
  · split at h
    · cases h
    · cases h; decide
theorem mu_err {sz kind e a : Int} {t : List UInt8} {l : List Tok} (h : Pz.mu sz kind t l = .fail e a) : e ≠ 0 := by
  unfold Pz.mu at h
  split at h
  · cases h; decide
  · split at h
    · cases h
    · cases h; decide
theorem fine_s3 (sz : Int) (K : Pz.Kont) (out : List Sp) (k q n : Int) (toks : List Tok) (ho : out.all formedB = true) (hl : out.length ≤ 200)
    (hK : ∀ r o, o.all formedB = true → o.length ≤ 200 → Fine (K r o)) : Fine (Pz.s3 sz K out k q n toks) := by
  unfold Pz.s3
  cases h1 : Pz.mu sz 1 Pz.fromW toks with
  | fail e a => exact .inr ⟨mu_err h1, rfl⟩
  | ok e1 r1 =>
    simp only []
    unfold Pz.s4
    cases h2 : Pz.nx sz 2 r1 with
    | fail e a => exact .inr ⟨nx_err h2, rfl⟩
    | ok t2 r2 =>
      simp only []
      unfold Pz.s5
      cases h3 : Pz.mu sz 1 Pz.untilW r2 with
      | fail e a => exact .inr ⟨mu_err h3, rfl⟩
      | ok e3 r3 =>
        simp only []
        unfold Pz.s6
        cases h4 : Pz.nx sz 2 r3 with
        | fail e a => exact .inr ⟨nx_err h4, rfl⟩
        | ok t4 r4 =>
          simp only []
          unfold Pz.s7
          cases h5 : Pz.mu sz 4 Pz.semiW r4 with
          | fail e a => exact .inr ⟨mu_err h5, rfl⟩
          | ok e5 r5 =>
            simp only []
            unfold Pz.s8
            split
            · exact .inr ⟨by simp, rfl⟩
            · split
              · exact .inr ⟨by simp, rfl⟩
              · rename_i hf hn
                exact hK _ _ (by simp [ho]; simpa using hf) (by simp; omega)
theorem fine_go (sz : Int) : ∀ (m : Nat) (toks : List Tok) (out : List Sp), out.all formedB = true → out.length ≤ 200 → Fine (Pz.go sz m toks out)
  | 0, _, out, h, hl => .inl ⟨rfl, by unfold allB; simp [Pz.go, hl]; simpa using h⟩
  | m + 1, toks, out, h, hl => by
    show Fine (if toks = [] then (⟨out, 0, 0⟩ : Pz.POut) else Pz.s0 sz (Pz.go sz m) out toks)
    split
    · exact .inl ⟨rfl, by unfold allB; simp [hl]; simpa using h⟩
    · unfold Pz.s0
      cases h1 : Pz.nx sz 1 toks with
      | fail e a => exact .inr ⟨nx_err h1, rfl⟩
      | ok t1 r1 =>
        simp only []
        unfold Pz.s1
        split
        · exact .inr ⟨by simp, rfl⟩
        · unfold Pz.s2
          have hK : ∀ r o, o.all formedB = true → o.length ≤ 200 → Fine (Pz.go sz m r o) := fun r o => fine_go sz m r o
          split
          · unfold Pz.s2q
            cases h2 : Pz.nx sz 2 r1 with
            | fail e a => exact .inr ⟨nx_err h2, rfl⟩
            | ok t2 r2 =>
              simp only []
              unfold Pz.s2n
              cases h3 : Pz.nx sz 2 r2 with
              | fail e a => exact .inr ⟨nx_err h3, rfl⟩
              | ok t3 r3 => exact fine_s3 sz _ out _ _ _ _ h hl hK
          · split
            · unfold Pz.s2n
              cases h3 : Pz.nx sz 2 r1 with
              | fail e a => exact .inr ⟨nx_err h3, rfl⟩
              | ok t3 r3 => exact fine_s3 sz _ out _ _ _ _ h hl hK
            · exact fine_s3 sz _ out _ _ _ _ h hl hK
theorem fine_parse (s : List UInt8) : Fine (Pz.parse s) := by
  unfold Pz.parse
  simp only []
  split
  · exact .inr ⟨by assumption, rfl⟩
  · exact fine_go _ _ _ _ rfl (by simp)
end Tx
end Go.Proofs.YtedddaojcknemaaDoor
