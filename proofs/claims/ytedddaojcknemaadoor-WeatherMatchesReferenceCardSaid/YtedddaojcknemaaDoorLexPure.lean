/- The plain function that package lexer computes: gaps, tokens, errors with offsets, over lists of bytes. No program in sight. -/
namespace Go.Proofs.YtedddaojcknemaaDoor
namespace Lx

/-- The classes of bytes, numbered as in the code: other 0, blank 1, hash 2, letter 3, digit 4, under 5, quote 6, mark 7, angle 8, symbol 9. -/
def isLetter (c : Nat) : Bool := (97 ≤ c && c ≤ 122) || (65 ≤ c && c ≤ 90)
def isDigit (c : Nat) : Bool := 48 ≤ c && c ≤ 57
def isBlank (c : Nat) : Bool := c == 32 || c == 9 || c == 10
def isSym (c : Nat) : Bool := [59, 44, 46, 58, 40, 41, 91, 93, 123, 125, 43, 45, 42, 47].contains c
def cls (c : Nat) : Nat :=
  if isLetter c then 3 else if isDigit c then 4 else if c == 95 then 5 else if isBlank c then 1 else if c == 35 then 2 else if c == 34 then 6
  else if c == 33 then 7 else if c == 60 || c == 61 || c == 62 then 8 else if isSym c then 9 else 0

/-- A token: kind, text, number, offset. -/
structure Tok where
  kind : Int
  text : List UInt8
  n : Int
  at_ : Int
  deriving DecidableEq

def cl (c : UInt8) : Nat := cls c.toNat

/-- What is left behind the gaps at the head (the flag: within a comment). -/
def gap : Bool → List UInt8 → List UInt8
  | _, [] => []
  | false, c :: r => if cl c = 1 then gap false r else if cl c = 2 then gap true r else c :: r
  | true, c :: r => if c = 10 then gap false r else gap true r

/-- How many bytes at the head have a class that p takes. -/
def run (p : Nat → Bool) : List UInt8 → Nat
  | [] => 0
  | c :: r => if p (cl c) then run p r + 1 else 0

/-- The class of the first byte; 0 if there is none. -/
def headCl : List UInt8 → Nat
  | [] => 0
  | d :: _ => cl d

def digits : List UInt8 → Int → Int
  | [], n => n
  | c :: r, n => digits r (10 * n + ((c.toNat : Int) - 48))

/-- How many bytes stand ahead of the first quote or line feed; none if there is neither. -/
def close : List UInt8 → Option Nat
  | [] => none
  | c :: r => if c = 34 ∨ c = 10 then some 0 else (close r).map (· + 1)

/-- The error numbers. -/
inductive Step where
  | tok (kind : Int) (text : List UInt8) (n : Int) (width : Nat)
  | fail (e : Int)

def word (k : Nat) : Bool := k == 3 || k == 4 || k == 5

/-- The token at the head of a list that is not empty. The errors: 1 .. as api numbers them. -/
def next (eLimit eChar eNumber eEnd : Int) (l : List UInt8) : Step :=
  match l with
  | [] => .fail eChar
  | c :: r =>
    if cl c = 3 then
      let w := run word l
      if w > 24 then .fail eLimit else .tok 1 (l.take w) 0 w
    else if cl c = 4 then
      let w := run (· == 4) l
      let after := headCl (l.drop w)
      if w > 13 || after == 3 || after == 5 then .fail eNumber else .tok 2 (l.take w) (digits (l.take w) 0) w
    else if cl c = 6 then
      match close r with
      | none => .fail eEnd
      | some n => if (r.drop n).head? = some 10 then .fail eEnd else if n > 400 then .fail eLimit else .tok 3 (r.take n) 0 (n + 2)
    else if cl c = 7 ∨ cl c = 8 then
      if r.head? = some 61 then .tok 4 (l.take 2) 0 2 else if cl c = 7 then .fail eChar else .tok 4 [c] 0 1
    else if cl c = 9 then .tok 4 [c] 0 1
    else .fail eChar

/-- What Lex returns: the tokens, the error, its offset. -/
structure Out where
  toks : List Tok
  err : Int
  at_ : Int
  deriving DecidableEq

/-- From a place at which no gap stands: the rest of the text, the tokens so far. -/
def lexL : Nat → Nat → List UInt8 → List Tok → Out
  | 0, _, _, out => ⟨out, 0, 0⟩
  | _ + 1, _, [], out => ⟨out, 0, 0⟩
  | k + 1, off, c :: r, out =>
    match next 2 3 4 6 (c :: r) with
    | .fail e => ⟨[], e, off⟩
    | .tok kd t n wd =>
      if out.length = 5000 then ⟨[], 2, off⟩
      else lexL k (off + wd + (((c :: r).drop wd).length - (gap false ((c :: r).drop wd)).length)) (gap false ((c :: r).drop wd)) (out ++ [⟨kd, t, n, off⟩])

def lex (l : List UInt8) : Out :=
  if l.length > 20000 then ⟨[], 2, -1⟩ else lexL (l.length + 1) (l.length - (gap false l).length) (gap false l) []
end Lx
end Go.Proofs.YtedddaojcknemaaDoor
