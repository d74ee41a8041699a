/- Texts of tokens with gaps around them: they lex as their tokens. The canonical text of spells, and the plain law that it is parsed as the spells, with further gaps too. No program in sight. -/
import Derived.Test.YtedddaojcknemaaDoorParA
import Derived.Lib.ItoaNum
namespace Go.Proofs.YtedddaojcknemaaDoor
namespace Tx
open Lx

/-- A token without its offset. -/
structure Pc where
  kind : Int
  text : List UInt8
  n : Int
  deriving DecidableEq
def strip (t : Tok) : Pc := ⟨t.kind, t.text, t.n⟩

/-- A piece of text: a gap, a token, a gap. -/
structure It where
  pre : List UInt8
  pc : Pc
  post : List UInt8
def flat : List It → List UInt8
  | [] => []
  | i :: r => i.pre ++ (i.pc.text ++ (i.post ++ flat r))

def IsGap (s : List UInt8) : Prop := ∀ x, gap false (s ++ x) = gap false x
/-- Behind a name or a number stands no letter, digit or underscore. -/
def Ends (l : List UInt8) : Prop := headCl l ≠ 3 ∧ headCl l ≠ 4 ∧ headCl l ≠ 5
/-- The token is read as it stands, whatever follows. -/
def Reads (p : Pc) (rest : List UInt8) : Prop := p.text ≠ [] ∧ gap false (p.text ++ rest) = p.text ++ rest ∧ next 2 3 4 6 (p.text ++ rest) = .tok p.kind p.text p.n p.text.length
def Chain : List It → Prop
  | [] => True
  | i :: r => IsGap i.pre ∧ IsGap i.post ∧ Reads i.pc (i.post ++ flat r) ∧ Chain r

theorem lexL_chain : ∀ (l : List It) (k off : Nat) (out : List Tok), Chain l → (gap false (flat l)).length < k → out.length + l.length ≤ 5000 →
    ∃ toks : List Tok, lexL k off (gap false (flat l)) out = ⟨out ++ toks, 0, 0⟩ ∧ toks.map strip = l.map (·.pc)
  | [], 0, _, _, _, hk, _ => by simp [flat, gap] at hk
  | [], k + 1, off, out, _, _, _ => ⟨[], by simp [flat, gap, lexL], rfl⟩
  | i :: r, 0, _, _, _, hk, _ => by omega
  | i :: r, k + 1, off, out, hc, hk, hl => by
    obtain ⟨h1, h2, ⟨h3, h4, h5⟩, h6⟩ := hc
    have hg : gap false (flat (i :: r)) = i.pc.text ++ (i.post ++ flat r) := by
      show gap false (i.pre ++ _) = _
      rw [h1, h4]
    rw [hg] at hk ⊢
    have hd : (i.pc.text ++ (i.post ++ flat r)).drop i.pc.text.length = i.post ++ flat r := by simp
    obtain ⟨c, t, hct⟩ : ∃ c t, i.pc.text = c :: t := by
      cases h : i.pc.text with
      | nil => exact absurd h h3
      | cons c t => exact ⟨c, t, rfl⟩
    have hlen : (gap false (flat r)).length < k := by
      have hle : ∀ (b : Bool) (x : List UInt8), (gap b x).length ≤ x.length := by
        intro b x
        induction x generalizing b with
        | nil => cases b <;> simp [gap]
        | cons d x ih =>
          cases b
          · unfold gap; split
            · have := ih false; simp; omega
            · split
              · have := ih true; simp; omega
              · simp
          · unfold gap; split
            · have := ih false; simp; omega
            · have := ih true; simp; omega
      have := hle false (flat r)
      rw [hct] at hk
      simp at hk
      omega
    have hl' : out.length + (r.length + 1) ≤ 5000 := by simpa using hl
    obtain ⟨toks, e1, e2⟩ := lexL_chain r k (off + i.pc.text.length + ((i.post ++ flat r).length - (gap false (i.post ++ flat r)).length)) (out ++ [⟨i.pc.kind, i.pc.text, i.pc.n, off⟩]) h6 hlen (by simp; omega)
    refine ⟨⟨i.pc.kind, i.pc.text, i.pc.n, off⟩ :: toks, ?_, by simp [strip, e2]⟩
    have key : lexL (k + 1) off (i.pc.text ++ (i.post ++ flat r)) out = lexL k (off + i.pc.text.length + ((i.post ++ flat r).length - (gap false (i.post ++ flat r)).length)) (gap false (i.post ++ flat r)) (out ++ [⟨i.pc.kind, i.pc.text, i.pc.n, off⟩]) := by
      rw [hct] at h5 hd ⊢
      rw [List.cons_append] at h5 hd ⊢
      rw [lexL, h5]
      simp only []
      rw [if_neg (by omega), hd]
    rw [key]
    rw [h2] at e1 ⊢
    rw [e1]
    simp

/-- A whole text of tokens, behind a gap. -/
theorem lex_chain (lead : List UInt8) (l : List It) (h0 : IsGap lead) (hc : Chain l) (hl : l.length ≤ 5000) (hs : (lead ++ flat l).length ≤ 20000) :
    ∃ toks : List Tok, lex (lead ++ flat l) = ⟨toks, 0, 0⟩ ∧ toks.map strip = l.map (·.pc) := by
  unfold lex
  rw [if_neg (by omega), h0]
  have hle : ∀ (b : Bool) (x : List UInt8), (gap b x).length ≤ x.length := by
    intro b x
    induction x generalizing b with
    | nil => cases b <;> simp [gap]
    | cons d x ih =>
      cases b
      · unfold gap; split
        · have := ih false; simp; omega
        · split
          · have := ih true; simp; omega
          · simp
      · unfold gap; split
        · have := ih false; simp; omega
        · have := ih true; simp; omega
  have := hle false (flat l)
  obtain ⟨toks, e1, e2⟩ := lexL_chain l ((lead ++ flat l).length + 1) ((lead ++ flat l).length - (gap false (flat l)).length) [] hc (by simp; omega) (by simpa using hl)
  exact ⟨toks, by simpa using e1, e2⟩

/-! Gaps. -/
theorem gap_nil : IsGap [] := fun _ => rfl
theorem gap_blank (c : UInt8) (h : cl c = 1) {s : List UInt8} (hs : IsGap s) : IsGap (c :: s) := fun x => by
  show gap false (c :: (s ++ x)) = _
  rw [gap, if_pos h]; exact hs x
theorem gap_hash {s t : List UInt8} (ht : ∀ c ∈ t, c ≠ 10) (hs : IsGap s) : IsGap (35 :: (t ++ 10 :: s)) := fun x => by
  show gap false (35 :: ((t ++ 10 :: s) ++ x)) = _
  rw [gap, if_neg (by decide), if_pos (by decide)]
  induction t with
  | nil => show gap true (10 :: (s ++ x)) = _; rw [gap, if_pos rfl]; exact hs x
  | cons c t ih =>
    show gap true (c :: ((t ++ 10 :: s) ++ x)) = _
    rw [gap, if_neg (ht c (by simp))]
    exact ih fun d hd => ht d (by simp [hd])

/-! Tokens. -/
theorem run_all (p : Nat → Bool) : ∀ (t rest : List UInt8), (∀ c ∈ t, p (cl c) = true) → p (headCl rest) = false ∨ rest = [] → run p (t ++ rest) = t.length
  | [], rest, _, h => by
    cases rest with
    | nil => rfl
    | cons d r =>
      rcases h with h | h
      · show run p (d :: r) = 0
        have h' : p (cl d) = false := h
        rw [run, if_neg (by rw [h']; simp)]
      · cases h
  | c :: t, rest, ht, h => by
    show run p (c :: (t ++ rest)) = _
    rw [run, if_pos (ht c (by simp)), run_all p t rest (fun d hd => ht d (by simp [hd])) h]
    rfl
theorem headCl_nil_word (rest : List UInt8) (h : Ends rest) : word (headCl rest) = false ∨ rest = [] := by
  left
  obtain ⟨a, b, c⟩ := h
  unfold word
  simp [a, b, c]
theorem headCl_nil_digit (rest : List UInt8) (h : Ends rest) : (headCl rest == 4) = false ∨ rest = [] := by
  left
  simpa using h.2.1
theorem reads_name (c : UInt8) (t rest : List UInt8) (hc : cl c = 3) (ht : ∀ d ∈ t, word (cl d) = true) (hl : t.length ≤ 23) (he : Ends rest) : Reads ⟨1, c :: t, 0⟩ rest := by
  refine ⟨by simp, ?_, ?_⟩
  · show gap false (c :: (t ++ rest)) = _
    rw [gap, if_neg (by rw [hc]; decide), if_neg (by rw [hc]; decide)]; rfl
  · have hr : run word (c :: (t ++ rest)) = t.length + 1 := run_all word (c :: t) rest (by
      intro d hd
      rcases List.mem_cons.1 hd with rfl | hd
      · rw [hc]; rfl
      · exact ht d hd) (headCl_nil_word rest he)
    show next 2 3 4 6 (c :: (t ++ rest)) = _
    unfold next
    simp only [hc, if_true]
    rw [hr, if_neg (by omega)]
    simp
theorem reads_number (c : UInt8) (t rest : List UInt8) (hc : cl c = 4) (ht : ∀ d ∈ t, cl d = 4) (hl : t.length ≤ 12) (he : Ends rest) : Reads ⟨2, c :: t, digits (c :: t) 0⟩ rest := by
  refine ⟨by simp, ?_, ?_⟩
  · show gap false (c :: (t ++ rest)) = _
    rw [gap, if_neg (by rw [hc]; decide), if_neg (by rw [hc]; decide)]; rfl
  · have hr : run (· == 4) (c :: (t ++ rest)) = t.length + 1 := run_all (· == 4) (c :: t) rest (by
      intro d hd
      rcases List.mem_cons.1 hd with rfl | hd
      · simp [hc]
      · simp [ht d hd]) (headCl_nil_digit rest he)
    show next 2 3 4 6 (c :: (t ++ rest)) = _
    have hdrop : (c :: (t ++ rest)).drop (t.length + 1) = rest := by simp
    unfold next
    simp only [hc]
    rw [if_neg (by decide), if_pos trivial, hr, hdrop, if_neg (by simp [he.1, he.2.2]; omega)]
    simp
theorem reads_semi (rest : List UInt8) : Reads ⟨4, [59], 0⟩ rest := by
  refine ⟨by simp, ?_, ?_⟩
  · show gap false (59 :: rest) = _
    rw [gap, if_neg (by decide), if_neg (by decide)]; rfl
  · show next 2 3 4 6 (59 :: rest) = _
    unfold next
    have hc : cl 59 = 9 := by decide
    simp only [hc]
    rw [if_neg (by decide), if_neg (by decide), if_neg (by decide), if_neg (by decide), if_pos trivial]
    simp

/-! Numerals. -/
theorem cl_digit (m : Nat) (h : m < 10) : cl (UInt8.ofNat (48 + m)) = 4 := by
  have : ∀ m : Fin 10, cl (UInt8.ofNat (48 + m.val)) = 4 := by decide
  exact this ⟨m, h⟩
theorem dec_cl (u : Nat) : ∀ c ∈ Lib.decDigits u, cl c = 4 := by
  induction u using Nat.strongRecOn with
  | _ u ih =>
    rw [Lib.decDigits]
    split
    · intro c hc
      rw [List.mem_singleton.1 hc]; exact cl_digit u (by assumption)
    · intro c hc
      rcases List.mem_append.1 hc with h | h
      · exact ih (u / 10) (by omega) c h
      · rw [List.mem_singleton.1 h]; exact cl_digit _ (by omega)
theorem digits_append (a b : List UInt8) (n : Int) : digits (a ++ b) n = digits b (digits a n) := by
  induction a generalizing n with
  | nil => rfl
  | cons c a ih => exact ih _
theorem toNat_digit (m : Nat) (h : m < 10) : (UInt8.ofNat (48 + m)).toNat = 48 + m := by
  have : ∀ m : Fin 10, (UInt8.ofNat (48 + m.val)).toNat = 48 + m.val := by decide
  exact this ⟨m, h⟩
theorem dec_val (u : Nat) : digits (Lib.decDigits u) 0 = u := by
  induction u using Nat.strongRecOn with
  | _ u ih =>
    rw [Lib.decDigits]
    split
    · rename_i h
      simp only [digits, toNat_digit u h]; omega
    · rename_i h
      rw [digits_append, ih (u / 10) (by omega)]
      simp only [digits, toNat_digit (u % 10) (by omega)]; omega
theorem dec_len (u k : Nat) (h : u < 10 ^ (k + 1)) : (Lib.decDigits u).length ≤ k + 1 := by
  induction k generalizing u with
  | zero => rw [Lib.decDigits, dif_pos (by omega)]; simp
  | succ k ih =>
    rw [Lib.decDigits]
    split
    · simp
    · have := ih (u / 10) (by rw [Nat.pow_succ] at h; omega)
      simp; omega
theorem dec_ne (u : Nat) : Lib.decDigits u ≠ [] := by
  rw [Lib.decDigits]; split <;> simp
/-- The numeral of a number as a token. -/
def numPc (n : Int) : Pc := ⟨2, Lib.itoa n, n⟩
theorem reads_num (n : Int) (rest : List UInt8) (h0 : 0 ≤ n) (h1 : n < 10000000000000) (he : Ends rest) : Reads (numPc n) rest := by
  obtain ⟨u, rfl⟩ : ∃ u : Nat, n = u := ⟨n.toNat, by omega⟩
  have hi : Lib.itoa (u : Int) = Lib.decDigits u := by
    unfold Lib.itoa; rw [if_neg (by omega)]; simp
  unfold numPc
  rw [hi]
  have h2 := dec_cl u
  have h3 := dec_len u 12 (by omega)
  have h4 := dec_val u
  cases h : Lib.decDigits u with
  | nil => exact absurd h (dec_ne u)
  | cons c t =>
    rw [h] at h2 h3 h4
    have := reads_number c t rest (h2 c (by simp)) (fun d hd => h2 d (by simp [hd])) (by simp at h3; omega) he
    rw [h4] at this
    exact this

theorem ends_of {c : UInt8} (r : List UInt8) (h : (cl c ≠ 3 ∧ cl c ≠ 4 ∧ cl c ≠ 5)) : Ends (c :: r) := h
theorem ends_app {c : UInt8} {s : List UInt8} (r : List UInt8) (h : (cl c ≠ 3 ∧ cl c ≠ 4 ∧ cl c ≠ 5)) : Ends ((c :: s) ++ r) := h
end Tx
end Go.Proofs.YtedddaojcknemaaDoor
