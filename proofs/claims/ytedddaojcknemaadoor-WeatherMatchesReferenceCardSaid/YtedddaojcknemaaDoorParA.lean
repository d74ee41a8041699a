/- What Parse computes, over tokens: plain functions. -/
import Derived.Test.YtedddaojcknemaaDoorWeaE
import Derived.Maps.RangeRun
namespace Go.Proofs.YtedddaojcknemaaDoor
open Go.RowKit

namespace Pz
def kw (t : List UInt8) : Int := if t = [99, 108, 111, 117, 100] then 1 else if t = [115, 101, 101, 105, 110, 103] then 2 else if t = [99, 108, 111, 115, 101, 100] then 3 else 0
inductive Res (α : Type) where
  | ok (a : α) (l : List Lx.Tok)
  | fail (e a : Int)
def nx (sz kind : Int) : List Lx.Tok → Res Lx.Tok
  | [] => .fail 6 sz
  | t :: r => if t.kind = kind then .ok t r else .fail 5 t.at_
def mu (sz kind : Int) (text : List UInt8) : List Lx.Tok → Res Int
  | [] => .fail 6 sz
  | t :: r => if t.kind = kind ∧ t.text = text then .ok t.at_ r else .fail 5 t.at_
structure POut where
  sps : List Sp
  err : Int
  at_ : Int
def fromW : List UInt8 := [102, 114, 111, 109]
def untilW : List UInt8 := [117, 110, 116, 105, 108]
def semiW : List UInt8 := [59]
abbrev Kont := List Lx.Tok → List Sp → POut
def s8 (K : Kont) (out : List Sp) (sp : Sp) (e : Int) (l : List Lx.Tok) : POut := if formedB sp = false then ⟨[], 9, e⟩ else if out.length = 200 then ⟨[], 2, e⟩ else K l (out ++ [sp])
def s7 (sz : Int) (K : Kont) (out : List Sp) (sp : Sp) (l : List Lx.Tok) : POut := match mu sz 4 semiW l with | .fail e a => ⟨[], e, a⟩ | .ok e r => s8 K out sp e r
def s6 (sz : Int) (K : Kont) (out : List Sp) (k q n f : Int) (l : List Lx.Tok) : POut := match nx sz 2 l with | .fail e a => ⟨[], e, a⟩ | .ok t r => s7 sz K out ⟨k, q, n, f, t.n⟩ r
def s5 (sz : Int) (K : Kont) (out : List Sp) (k q n f : Int) (l : List Lx.Tok) : POut := match mu sz 1 untilW l with | .fail e a => ⟨[], e, a⟩ | .ok _ r => s6 sz K out k q n f r
def s4 (sz : Int) (K : Kont) (out : List Sp) (k q n : Int) (l : List Lx.Tok) : POut := match nx sz 2 l with | .fail e a => ⟨[], e, a⟩ | .ok t r => s5 sz K out k q n t.n r
def s3 (sz : Int) (K : Kont) (out : List Sp) (k q n : Int) (l : List Lx.Tok) : POut := match mu sz 1 fromW l with | .fail e a => ⟨[], e, a⟩ | .ok _ r => s4 sz K out k q n r
def s2n (sz : Int) (K : Kont) (out : List Sp) (k q : Int) (l : List Lx.Tok) : POut := match nx sz 2 l with | .fail e a => ⟨[], e, a⟩ | .ok t r => s3 sz K out k q t.n r
def s2q (sz : Int) (K : Kont) (out : List Sp) (k : Int) (l : List Lx.Tok) : POut := match nx sz 2 l with | .fail e a => ⟨[], e, a⟩ | .ok t r => s2n sz K out k t.n r
def s2 (sz : Int) (K : Kont) (out : List Sp) (k : Int) (l : List Lx.Tok) : POut := if k = 1 then s2q sz K out k l else if k = 2 then s2n sz K out k 0 l else s3 sz K out k 0 0 l
def s1 (sz : Int) (K : Kont) (out : List Sp) (t : Lx.Tok) (l : List Lx.Tok) : POut := if kw t.text = 0 then ⟨[], 5, t.at_⟩ else s2 sz K out (kw t.text) l
def s0 (sz : Int) (K : Kont) (out : List Sp) (l : List Lx.Tok) : POut := match nx sz 1 l with | .fail e a => ⟨[], e, a⟩ | .ok t r => s1 sz K out t r
def go (sz : Int) : Nat → Kont
  | 0 => fun _ out => ⟨out, 0, 0⟩
  | m + 1 => fun l out => if l = [] then ⟨out, 0, 0⟩ else s0 sz (go sz m) out l
def parse (s : List UInt8) : POut :=
  let o := Lx.lex s
  if o.err ≠ 0 then ⟨[], o.err, o.at_⟩ else go s.length o.toks.length o.toks []

theorem s7_ok {sz : Int} {K : Kont} {out : List Sp} {sp : Sp} {l r : List Lx.Tok} {e : Int} {R : POut} (h : s7 sz K out sp l = R) (hn : mu sz 4 semiW l = .ok e r) : s8 K out sp e r = R := by unfold s7 at h; rw [hn] at h; exact h
theorem s6_ok {sz : Int} {K : Kont} {out : List Sp} {k q n f : Int} {l r : List Lx.Tok} {t : Lx.Tok} {R : POut} (h : s6 sz K out k q n f l = R) (hn : nx sz 2 l = .ok t r) : s7 sz K out ⟨k, q, n, f, t.n⟩ r = R := by unfold s6 at h; rw [hn] at h; exact h
theorem s5_ok {sz : Int} {K : Kont} {out : List Sp} {k q n f : Int} {l r : List Lx.Tok} {e : Int} {R : POut} (h : s5 sz K out k q n f l = R) (hn : mu sz 1 untilW l = .ok e r) : s6 sz K out k q n f r = R := by unfold s5 at h; rw [hn] at h; exact h
theorem s4_ok {sz : Int} {K : Kont} {out : List Sp} {k q n : Int} {l r : List Lx.Tok} {t : Lx.Tok} {R : POut} (h : s4 sz K out k q n l = R) (hn : nx sz 2 l = .ok t r) : s5 sz K out k q n t.n r = R := by unfold s4 at h; rw [hn] at h; exact h
theorem s3_ok {sz : Int} {K : Kont} {out : List Sp} {k q n : Int} {l r : List Lx.Tok} {e : Int} {R : POut} (h : s3 sz K out k q n l = R) (hn : mu sz 1 fromW l = .ok e r) : s4 sz K out k q n r = R := by unfold s3 at h; rw [hn] at h; exact h
theorem s2n_ok {sz : Int} {K : Kont} {out : List Sp} {k q : Int} {l r : List Lx.Tok} {t : Lx.Tok} {R : POut} (h : s2n sz K out k q l = R) (hn : nx sz 2 l = .ok t r) : s3 sz K out k q t.n r = R := by unfold s2n at h; rw [hn] at h; exact h
theorem s2q_ok {sz : Int} {K : Kont} {out : List Sp} {k : Int} {l r : List Lx.Tok} {t : Lx.Tok} {R : POut} (h : s2q sz K out k l = R) (hn : nx sz 2 l = .ok t r) : s2n sz K out k t.n r = R := by unfold s2q at h; rw [hn] at h; exact h
theorem s0_ok {sz : Int} {K : Kont} {out : List Sp} {l r : List Lx.Tok} {t : Lx.Tok} {R : POut} (h : s0 sz K out l = R) (hn : nx sz 1 l = .ok t r) : s1 sz K out t r = R := by unfold s0 at h; rw [hn] at h; exact h
theorem s7_fail {sz : Int} {K : Kont} {out : List Sp} {sp : Sp} {l : List Lx.Tok} {e a : Int} {R : POut} (h : s7 sz K out sp l = R) (hn : mu sz 4 semiW l = .fail e a) : R = ⟨[], e, a⟩ := by unfold s7 at h; rw [hn] at h; exact h.symm
theorem s6_fail {sz : Int} {K : Kont} {out : List Sp} {k q n f : Int} {l : List Lx.Tok} {e a : Int} {R : POut} (h : s6 sz K out k q n f l = R) (hn : nx sz 2 l = .fail e a) : R = ⟨[], e, a⟩ := by unfold s6 at h; rw [hn] at h; exact h.symm
theorem s5_fail {sz : Int} {K : Kont} {out : List Sp} {k q n f : Int} {l : List Lx.Tok} {e a : Int} {R : POut} (h : s5 sz K out k q n f l = R) (hn : mu sz 1 untilW l = .fail e a) : R = ⟨[], e, a⟩ := by unfold s5 at h; rw [hn] at h; exact h.symm
theorem s4_fail {sz : Int} {K : Kont} {out : List Sp} {k q n : Int} {l : List Lx.Tok} {e a : Int} {R : POut} (h : s4 sz K out k q n l = R) (hn : nx sz 2 l = .fail e a) : R = ⟨[], e, a⟩ := by unfold s4 at h; rw [hn] at h; exact h.symm
theorem s3_fail {sz : Int} {K : Kont} {out : List Sp} {k q n : Int} {l : List Lx.Tok} {e a : Int} {R : POut} (h : s3 sz K out k q n l = R) (hn : mu sz 1 fromW l = .fail e a) : R = ⟨[], e, a⟩ := by unfold s3 at h; rw [hn] at h; exact h.symm
theorem s2n_fail {sz : Int} {K : Kont} {out : List Sp} {k q : Int} {l : List Lx.Tok} {e a : Int} {R : POut} (h : s2n sz K out k q l = R) (hn : nx sz 2 l = .fail e a) : R = ⟨[], e, a⟩ := by unfold s2n at h; rw [hn] at h; exact h.symm
theorem s2q_fail {sz : Int} {K : Kont} {out : List Sp} {k : Int} {l : List Lx.Tok} {e a : Int} {R : POut} (h : s2q sz K out k l = R) (hn : nx sz 2 l = .fail e a) : R = ⟨[], e, a⟩ := by unfold s2q at h; rw [hn] at h; exact h.symm
theorem s0_fail {sz : Int} {K : Kont} {out : List Sp} {l : List Lx.Tok} {e a : Int} {R : POut} (h : s0 sz K out l = R) (hn : nx sz 1 l = .fail e a) : R = ⟨[], e, a⟩ := by unfold s0 at h; rw [hn] at h; exact h.symm
end Pz
end Go.Proofs.YtedddaojcknemaaDoor
