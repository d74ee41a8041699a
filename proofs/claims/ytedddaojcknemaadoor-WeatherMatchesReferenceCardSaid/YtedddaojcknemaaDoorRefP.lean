/- What the reference's Parse computes over tokens: it keeps the first error and goes on; the same as Pz.parse. Plain. -/
import Derived.Test.YtedddaojcknemaaDoorParA
import Derived.Test.YtedddaojcknemaaDoorRefJ
namespace Go.Proofs.YtedddaojcknemaaDoor

namespace Rz
structure Rd where
  l : List Lx.Tok
  err : Int
  at_ : Int
def fail (sz : Int) (r : Rd) : Rd := if r.err ≠ 0 then r else match r.l with | [] => ⟨[], 6, sz⟩ | t :: q => ⟨t :: q, 5, t.at_⟩
def name (sz kind : Int) (text : List UInt8) (r : Rd) : Rd := match r.l with
  | [] => fail sz r
  | t :: q => if r.err = 0 ∧ t.kind = kind ∧ t.text = text then ⟨q, r.err, r.at_⟩ else fail sz r
def num (sz : Int) (r : Rd) : Int × Rd := match r.l with
  | [] => (0, fail sz r)
  | t :: q => if r.err = 0 ∧ t.kind = 2 then (t.n, ⟨q, r.err, r.at_⟩) else (0, fail sz r)
def tail (r : Rd) : Rd := ⟨r.l.tail, r.err, r.at_⟩
def hereOf (r : Rd) : Int := match r.l with | [] => 0 | t :: _ => t.at_
def word (r : Rd) : List UInt8 := match r.l with | [] => [] | t :: _ => if t.kind = 1 then t.text else []
open Pz (Kont POut)
def t8 (K : Kont) (out : List Sp) (sp : Sp) (e : Int) (r : Rd) : POut := if r.err ≠ 0 then ⟨[], r.err, r.at_⟩ else Pz.s8 K out sp e r.l
def t7 (sz : Int) (K : Kont) (out : List Sp) (sp : Sp) (r : Rd) : POut := t8 K out sp (hereOf r) (name sz 4 Pz.semiW r)
def t6 (sz : Int) (K : Kont) (out : List Sp) (k q n f : Int) (r : Rd) : POut := t7 sz K out ⟨k, q, n, f, (num sz r).1⟩ (num sz r).2
def t5 (sz : Int) (K : Kont) (out : List Sp) (k q n f : Int) (r : Rd) : POut := t6 sz K out k q n f (name sz 1 Pz.untilW r)
def t4 (sz : Int) (K : Kont) (out : List Sp) (k q n : Int) (r : Rd) : POut := t5 sz K out k q n (num sz r).1 (num sz r).2
def t3 (sz : Int) (K : Kont) (out : List Sp) (k q n : Int) (r : Rd) : POut := t4 sz K out k q n (name sz 1 Pz.fromW r)
def t2n (sz : Int) (K : Kont) (out : List Sp) (k q : Int) (r : Rd) : POut := t3 sz K out k q (num sz r).1 (num sz r).2
def t2q (sz : Int) (K : Kont) (out : List Sp) (k : Int) (r : Rd) : POut := t2n sz K out k (num sz r).1 (num sz r).2
def t0 (sz : Int) (K : Kont) (out : List Sp) (r : Rd) : POut :=
  if Pz.kw (word r) = 1 then t2q sz K out 1 (tail r) else if Pz.kw (word r) = 2 then t2n sz K out 2 0 (tail r) else if Pz.kw (word r) = 3 then t3 sz K out 3 0 0 (tail r) else t3 sz K out 0 0 0 (fail sz r)

section
variable {sz : Int} {K : Kont} {out : List Sp}
theorem fail_dead {r : Rd} (h : r.err ≠ 0) : fail sz r = r := by unfold fail; rw [if_pos h]
theorem name_dead {k : Int} {t : List UInt8} {r : Rd} (h : r.err ≠ 0) : name sz k t r = r := by
  unfold name
  split
  · exact fail_dead h
  · rw [if_neg (fun x => h x.1)]; exact fail_dead h
theorem num_dead {r : Rd} (h : r.err ≠ 0) : num sz r = (0, r) := by
  unfold num
  split
  · rw [fail_dead h]
  · rw [if_neg (fun x => h x.1), fail_dead h]
theorem t8_dead {sp : Sp} {e : Int} {r : Rd} (h : r.err ≠ 0) : t8 K out sp e r = ⟨[], r.err, r.at_⟩ := by unfold t8; rw [if_pos h]
theorem t7_dead {sp : Sp} {r : Rd} (h : r.err ≠ 0) : t7 sz K out sp r = ⟨[], r.err, r.at_⟩ := by unfold t7; rw [name_dead h]; exact t8_dead h
theorem t6_dead {k q n f : Int} {r : Rd} (h : r.err ≠ 0) : t6 sz K out k q n f r = ⟨[], r.err, r.at_⟩ := by unfold t6; rw [num_dead h]; exact t7_dead h
theorem t5_dead {k q n f : Int} {r : Rd} (h : r.err ≠ 0) : t5 sz K out k q n f r = ⟨[], r.err, r.at_⟩ := by unfold t5; rw [name_dead h]; exact t6_dead h
theorem t4_dead {k q n : Int} {r : Rd} (h : r.err ≠ 0) : t4 sz K out k q n r = ⟨[], r.err, r.at_⟩ := by unfold t4; rw [num_dead h]; exact t5_dead h
theorem t3_dead {k q n : Int} {r : Rd} (h : r.err ≠ 0) : t3 sz K out k q n r = ⟨[], r.err, r.at_⟩ := by unfold t3; rw [name_dead h]; exact t4_dead h
theorem t2n_dead {k q : Int} {r : Rd} (h : r.err ≠ 0) : t2n sz K out k q r = ⟨[], r.err, r.at_⟩ := by unfold t2n; rw [num_dead h]; exact t3_dead h

theorem name_mu {k : Int} {t : List UInt8} {l : List Lx.Tok} {a : Int} : (∃ e r, Pz.mu sz k t l = .ok e r ∧ name sz k t ⟨l, 0, a⟩ = ⟨r, 0, a⟩ ∧ hereOf ⟨l, 0, a⟩ = e) ∨ (∃ e b, Pz.mu sz k t l = .fail e b ∧ e ≠ 0 ∧ (name sz k t ⟨l, 0, a⟩).err = e ∧ (name sz k t ⟨l, 0, a⟩).at_ = b) := by
  cases l with
  | nil => exact .inr ⟨6, sz, rfl, by decide, rfl, rfl⟩
  | cons x q =>
    by_cases h : x.kind = k ∧ x.text = t
    · exact .inl ⟨x.at_, q, by simp [Pz.mu, h], by simp [name, h], rfl⟩
    · refine .inr ⟨5, x.at_, by simp only [Pz.mu]; rw [if_neg h], by decide, ?_, ?_⟩ <;>
        (simp only [name]; rw [if_neg (fun y => h y.2)]; rfl)
theorem num_nx {l : List Lx.Tok} {a : Int} : (∃ t r, Pz.nx sz 2 l = .ok t r ∧ num sz ⟨l, 0, a⟩ = (t.n, ⟨r, 0, a⟩)) ∨ (∃ e b, Pz.nx sz 2 l = .fail e b ∧ e ≠ 0 ∧ (num sz ⟨l, 0, a⟩).2.err = e ∧ (num sz ⟨l, 0, a⟩).2.at_ = b) := by
  cases l with
  | nil => exact .inr ⟨6, sz, rfl, by decide, rfl, rfl⟩
  | cons x q =>
    by_cases h : x.kind = 2
    · exact .inl ⟨x, q, by simp [Pz.nx, h], by simp [num, h]⟩
    · refine .inr ⟨5, x.at_, by simp only [Pz.nx]; rw [if_neg h], by decide, ?_, ?_⟩ <;>
        (simp only [num]; rw [if_neg (fun y => h y.2)]; rfl)

theorem t7_live {sp : Sp} {l : List Lx.Tok} {a : Int} : t7 sz K out sp ⟨l, 0, a⟩ = Pz.s7 sz K out sp l := by
  unfold t7 Pz.s7
  rcases name_mu (sz := sz) (k := 4) (t := Pz.semiW) (l := l) (a := a) with ⟨e, r, h1, h2, h3⟩ | ⟨e, b, h1, h0, h2, h3⟩
  · rw [h1, h2, h3]; unfold t8; rw [if_neg (by simp)]
  · rw [h1, t8_dead (by rw [h2]; exact h0), h2, h3]
theorem t6_live {k q n f : Int} {l : List Lx.Tok} {a : Int} : t6 sz K out k q n f ⟨l, 0, a⟩ = Pz.s6 sz K out k q n f l := by
  unfold t6 Pz.s6
  rcases num_nx (sz := sz) (l := l) (a := a) with ⟨t, r, h1, h2⟩ | ⟨e, b, h1, h0, h2, h3⟩
  · rw [h1, h2]; exact t7_live
  · rw [h1, t7_dead (by rw [h2]; exact h0), h2, h3]
theorem t5_live {k q n f : Int} {l : List Lx.Tok} {a : Int} : t5 sz K out k q n f ⟨l, 0, a⟩ = Pz.s5 sz K out k q n f l := by
  unfold t5 Pz.s5
  rcases name_mu (sz := sz) (k := 1) (t := Pz.untilW) (l := l) (a := a) with ⟨e, r, h1, h2, _⟩ | ⟨e, b, h1, h0, h2, h3⟩
  · rw [h1, h2]; exact t6_live
  · rw [h1, t6_dead (by rw [h2]; exact h0), h2, h3]
theorem t4_live {k q n : Int} {l : List Lx.Tok} {a : Int} : t4 sz K out k q n ⟨l, 0, a⟩ = Pz.s4 sz K out k q n l := by
  unfold t4 Pz.s4
  rcases num_nx (sz := sz) (l := l) (a := a) with ⟨t, r, h1, h2⟩ | ⟨e, b, h1, h0, h2, h3⟩
  · rw [h1, h2]; exact t5_live
  · rw [h1, t5_dead (by rw [h2]; exact h0), h2, h3]
theorem t3_live {k q n : Int} {l : List Lx.Tok} {a : Int} : t3 sz K out k q n ⟨l, 0, a⟩ = Pz.s3 sz K out k q n l := by
  unfold t3 Pz.s3
  rcases name_mu (sz := sz) (k := 1) (t := Pz.fromW) (l := l) (a := a) with ⟨e, r, h1, h2, _⟩ | ⟨e, b, h1, h0, h2, h3⟩
  · rw [h1, h2]; exact t4_live
  · rw [h1, t4_dead (by rw [h2]; exact h0), h2, h3]
theorem t2n_live {k q : Int} {l : List Lx.Tok} {a : Int} : t2n sz K out k q ⟨l, 0, a⟩ = Pz.s2n sz K out k q l := by
  unfold t2n Pz.s2n
  rcases num_nx (sz := sz) (l := l) (a := a) with ⟨t, r, h1, h2⟩ | ⟨e, b, h1, h0, h2, h3⟩
  · rw [h1, h2]; exact t3_live
  · rw [h1, t3_dead (by rw [h2]; exact h0), h2, h3]
theorem t2q_live {k : Int} {l : List Lx.Tok} {a : Int} : t2q sz K out k ⟨l, 0, a⟩ = Pz.s2q sz K out k l := by
  unfold t2q Pz.s2q
  rcases num_nx (sz := sz) (l := l) (a := a) with ⟨t, r, h1, h2⟩ | ⟨e, b, h1, h0, h2, h3⟩
  · rw [h1, h2]; exact t2n_live
  · rw [h1, t2n_dead (by rw [h2]; exact h0), h2, h3]
theorem kw_cases (t : List UInt8) : Pz.kw t = 0 ∨ Pz.kw t = 1 ∨ Pz.kw t = 2 ∨ Pz.kw t = 3 := by
  unfold Pz.kw; split
  · omega
  · split
    · omega
    · split <;> omega
theorem t0_live {t : Lx.Tok} {l : List Lx.Tok} {a : Int} : t0 sz K out ⟨t :: l, 0, a⟩ = Pz.s0 sz K out (t :: l) := by
  by_cases h : t.kind = 1
  · have hw : word ⟨t :: l, 0, a⟩ = t.text := by simp [word, h]
    have hn : Pz.nx sz 1 (t :: l) = .ok t l := by simp [Pz.nx, h]
    unfold t0 Pz.s0
    rw [hw, hn]
    simp only []
    unfold Pz.s1 Pz.s2 tail
    simp only [List.tail_cons]
    rcases kw_cases t.text with hk | hk | hk | hk
    · rw [hk]; simp only [if_true, Int.reduceEq, if_false]
      have : fail sz ⟨t :: l, 0, a⟩ = ⟨t :: l, 5, t.at_⟩ := rfl
      rw [this]; exact t3_dead (by simp)
    · rw [hk]; simp only [if_true, Int.reduceEq, if_false]; exact t2q_live
    · rw [hk]; simp only [if_true, Int.reduceEq, if_false]; exact t2n_live
    · rw [hk]; simp only [if_true, Int.reduceEq, if_false]; exact t3_live
  · have hw : word ⟨t :: l, 0, a⟩ = [] := by simp [word, h]
    have hn : Pz.nx sz 1 (t :: l) = .fail 5 t.at_ := by simp [Pz.nx, h]
    unfold t0 Pz.s0
    rw [hw, hn]
    have hk : Pz.kw [] = 0 := rfl
    rw [hk]
    simp only [Int.reduceEq, if_false]
    have : fail sz ⟨t :: l, 0, a⟩ = ⟨t :: l, 5, t.at_⟩ := rfl
    rw [this]; exact t3_dead (by simp)

/-- As long as there is no error, at most k tokens are left. -/
def LenOk (k : Nat) (r : Rd) : Prop := r.err = 0 → r.l.length ≤ k
theorem fail_len {k : Nat} {r : Rd} : LenOk k (fail sz r) ∨ fail sz r = r := by
  unfold fail
  split
  · exact .inr rfl
  · left
    split
    · intro h; simp at h
    · intro h; simp at h
theorem fail_len' {k : Nat} {r : Rd} (h : LenOk k r) : LenOk k (fail sz r) := by
  rcases fail_len (sz := sz) (k := k) (r := r) with h1 | h1
  · exact h1
  · rw [h1]; exact h
theorem fail_len0 {k : Nat} {l : List Lx.Tok} {a : Int} : LenOk k (fail sz ⟨l, 0, a⟩) := by
  intro h
  unfold fail at h
  rw [if_neg (by simp)] at h
  split at h <;> simp at h
theorem name_len {k : Nat} {kd : Int} {t : List UInt8} {r : Rd} (h : LenOk k r) : LenOk k (name sz kd t r) := by
  unfold name
  split
  · exact fail_len' h
  · rename_i x q hl
    split
    · intro he
      have := h he
      rw [hl] at this
      simp at this; simp; omega
    · exact fail_len' h
theorem num_len {k : Nat} {r : Rd} (h : LenOk k r) : LenOk k (num sz r).2 := by
  unfold num
  split
  · exact fail_len' h
  · rename_i x q hl
    split
    · intro he
      have := h he
      rw [hl] at this
      simp at this; simp; omega
    · exact fail_len' h
end
end Rz
end Go.Proofs.YtedddaojcknemaaDoor

namespace Go.Proofs.YtedddaojcknemaaDoor
open Go.RowKit

/-- A reader in block b reads as R. -/
def RDB (b : Nat) (sz : Int) (R : Rz.Rd) (w : World) : Prop :=
  ∃ v, w.heap[b]? = some (.cells #[v, .int .i64 sz, .int .i64 R.err, .int .i64 R.at_] 71 (0, 0)) ∧ ReadRow w 4 v R.l.length (tokFlat R.l) ∧ (R.l.length = 0 ∨ ∀ k, v.ownBlock = some k → k < b) ∧ R.l.length ≤ 5000
def RPost (b : Nat) (sz : Int) (R : Rz.Rd) (w w' : World) : Prop := w.grownBy w' (some b) ∧ RDB b sz R w'

theorem RDB.turn {b : Nat} {sz : Int} {w w' : World} {v : Value} {l : List Lx.Tok} {e a : Int} (hr : ReadRow w 4 v l.length (tokFlat l)) (hn : l.length = 0 ∨ ∀ k, v.ownBlock = some k → k < b) (hl : l.length ≤ 5000)
    (hg : w.grownBy w' (some b)) (hb : w'.heap[b]? = some (.cells #[v, .int .i64 sz, .int .i64 e, .int .i64 a] 71 (0, 0))) : RPost b sz ⟨l, e, a⟩ w w' :=
  ⟨hg, v, hb, hr.grown hg (hn.imp_right fun h e => Nat.lt_irrefl _ (h b e)), hn, hl⟩

/-- What is read of a reader with a token: its block's cells, and the token's. -/
theorem reader_cells {b : Nat} {sz : Int} {t : Lx.Tok} {q : List Lx.Tok} {e a : Int} {w : World} (h : RDB b sz ⟨t :: q, e, a⟩ w) :
    ∃ g off c, g < b ∧ q.length + 1 ≤ c ∧ c ≤ maxLen ∧ q.length ≤ 5000 ∧ w.heap[b]? = some (.cells #[.slice (some ⟨g, off, none⟩) (q.length + 1) c, .int .i64 sz, .int .i64 e, .int .i64 a] 71 (0, 0)) ∧
      ReadRow w 4 (.slice (some ⟨g, off, none⟩) (q.length + 1) c) (q.length + 1) (tokFlat (t :: q)) ∧
      w.cell? ⟨g, off, none⟩ = some (.int .i64 t.kind) ∧ w.cell? ⟨g, off + 1, none⟩ = some (.string ⟨t.text.toArray⟩) ∧ w.cell? ⟨g, off + 2, none⟩ = some (.int .i64 t.n) ∧ w.cell? ⟨g, off + 3, none⟩ = some (.int .i64 t.at_) := by
  obtain ⟨v, hb, hr, hn, hl⟩ := h
  simp only [List.length_cons] at hb hr hn hl
  obtain ⟨g, off, c, rfl, h2, h3, hg, q0, q1, q2, q3⟩ := readTok_cells hr
  refine ⟨g, off, c, ?_, h2, h3, by omega, hb, hr, q0, q1, q2, q3⟩
  rcases hn with hn | hn
  · omega
  · exact hn g rfl
theorem reader_none {b : Nat} {sz : Int} {e a : Int} {w : World} (h : RDB b sz ⟨[], e, a⟩ w) :
    ∃ ad c, w.heap[b]? = some (.cells #[.slice ad 0 c, .int .i64 sz, .int .i64 e, .int .i64 a] 71 (0, 0)) ∧ ReadRow w 4 (.slice ad 0 c) 0 (tokFlat []) := by
  obtain ⟨v, hb, hr, hn, hl⟩ := h
  obtain ⟨ad, c, rfl, _, _, _⟩ := hr.slice
  exact ⟨ad, c, hb, hr⟩
theorem set2_post {b : Nat} {sz : Int} {w : World} {v x2 x3 : Value} {l : List Lx.Tok} {e a : Int} (hb : w.heap[b]? = some (.cells #[v, .int .i64 sz, x2, x3] 71 (0, 0)))
    (hr : ReadRow w 4 v l.length (tokFlat l)) (hn : l.length = 0 ∨ ∀ k, v.ownBlock = some k → k < b) (hl : l.length ≤ 5000) : RPost b sz ⟨l, e, a⟩ w ((w.setCell ⟨b, 2, none⟩ (.int .i64 e)).setCell ⟨b, 3, none⟩ (.int .i64 a)) := by
  refine RDB.turn hr hn hl (grown_set (grown_set (World.grownBy.refl _ _) _ _ rfl) _ _ rfl) ?_
  exact heap_setCell_same _ b 3 _ _ (.int .i64 a) (heap_setCell_same _ b 2 _ _ (.int .i64 e) hb)
theorem set4_post {b : Nat} {sz : Int} {w : World} {v x2 x3 y2 y3 : Value} {l : List Lx.Tok} {e a : Int} (hb : w.heap[b]? = some (.cells #[v, .int .i64 sz, x2, x3] 71 (0, 0)))
    (hr : ReadRow w 4 v l.length (tokFlat l)) (hn : l.length = 0 ∨ ∀ k, v.ownBlock = some k → k < b) (hl : l.length ≤ 5000) : RPost b sz ⟨l, e, a⟩ w ((((w.setCell ⟨b, 2, none⟩ y2).setCell ⟨b, 3, none⟩ y3).setCell ⟨b, 2, none⟩ (.int .i64 e)).setCell ⟨b, 3, none⟩ (.int .i64 a)) := by
  have g1 := grown_set (World.grownBy.refl w (some b)) ⟨b, 2, none⟩ y2 rfl
  have g2 := grown_set g1 ⟨b, 3, none⟩ y3 rfl
  have g3 := grown_set g2 ⟨b, 2, none⟩ (.int .i64 e) rfl
  have g4 := grown_set g3 ⟨b, 3, none⟩ (.int .i64 a) rfl
  have h1 : (w.setCell ⟨b, 2, none⟩ y2).heap[b]? = some (.cells #[v, .int .i64 sz, y2, x3] 71 (0, 0)) := heap_setCell_same _ b 2 _ _ y2 hb
  have h2 : ((w.setCell ⟨b, 2, none⟩ y2).setCell ⟨b, 3, none⟩ y3).heap[b]? = some (.cells #[v, .int .i64 sz, y2, y3] 71 (0, 0)) := heap_setCell_same _ b 3 _ _ y3 h1
  have h3 : (((w.setCell ⟨b, 2, none⟩ y2).setCell ⟨b, 3, none⟩ y3).setCell ⟨b, 2, none⟩ (.int .i64 e)).heap[b]? = some (.cells #[v, .int .i64 sz, .int .i64 e, y3] 71 (0, 0)) := heap_setCell_same _ b 2 _ _ _ h2
  have h4 : ((((w.setCell ⟨b, 2, none⟩ y2).setCell ⟨b, 3, none⟩ y3).setCell ⟨b, 2, none⟩ (.int .i64 e)).setCell ⟨b, 3, none⟩ (.int .i64 a)).heap[b]? = some (.cells #[v, .int .i64 sz, .int .i64 e, .int .i64 a] 71 (0, 0)) := heap_setCell_same _ b 3 _ _ _ h3
  exact RDB.turn hr hn hl g4 h4
theorem set0_post {b : Nat} {sz : Int} {w : World} {v v' : Value} {l : List Lx.Tok} {e a : Int} (hb : w.heap[b]? = some (.cells #[v, .int .i64 sz, .int .i64 e, .int .i64 a] 71 (0, 0)))
    (hr : ReadRow w 4 v' l.length (tokFlat l)) (hn : l.length = 0 ∨ ∀ k, v'.ownBlock = some k → k < b) (hl : l.length ≤ 5000) : RPost b sz ⟨l, e, a⟩ w (w.setCell ⟨b, 0, none⟩ v') := by
  refine RDB.turn hr hn hl (grown_set (World.grownBy.refl _ _) _ _ rfl) ?_
  exact heap_setCell_same _ b 0 _ _ v' hb
theorem same_post {b : Nat} {sz : Int} {R : Rz.Rd} {w : World} (h : RDB b sz R w) : RPost b sz R w w := ⟨World.grownBy.refl _ _, h⟩

set_option maxRecDepth 100000 in
set_option maxHeartbeats 2000000 in
theorem rfail_any (b : Nat) (sz : Int) (R : Rz.Rd) (w : World) (h : RDB b sz R w) : Calls Tryd.prog 33 #[.pointer (some ⟨b, 0, none⟩)] w fun e w' => e = .returned (.tuple #[]) ∧ RPost b sz (Rz.fail sz R) w w' := by
  have HR := Lib.hid h
  obtain ⟨l, er, at_⟩ := R
  by_cases he : er = 0
  · subst he
    cases l with
    | nil =>
      obtain ⟨a, c, hb, hr⟩ := reader_none h
      have c0 := (cell_of_row _ _ 0 _ _ _ hb).trans (show _ = some (Value.slice a 0 c) from rfl)
      have c1 := (cell_of_row _ _ 1 _ _ _ hb).trans (show _ = some (Value.int .i64 sz) from rfl)
      have c2 := (cell_of_row _ _ 2 _ _ _ hb).trans (show _ = some (Value.int .i64 0) from rfl)
      have c3 := (cell_of_row _ _ 3 _ _ _ hb).trans (show _ = some (Value.int .i64 at_) from rfl)
      have f2 := frozen_of_row _ _ 2 _ _ hb
      have f3 := frozen_of_row _ _ 3 _ _ hb
      have HH := Lib.hid (And.intro hb hr); clear hb hr HR h
      go_enter Tryd.func33, Tryd.ntmps33
      go_wp2_with fail
      go_end0
      exact ⟨rfl, set2_post (l := []) HH.out.1 HH.out.2 (.inl rfl) (by simp)⟩
    | cons t q =>
      obtain ⟨g, off, cp, hgb, h2, h3, hql, hb, hr, q0, q1, q2, q3⟩ := reader_cells h
      have hne : g ≠ b := by omega
      have c0 := (cell_of_row _ _ 0 _ _ _ hb).trans (show _ = some (Value.slice (some ⟨g, off, none⟩) (q.length + 1) cp) from rfl)
      have c1 := (cell_of_row _ _ 1 _ _ _ hb).trans (show _ = some (Value.int .i64 sz) from rfl)
      have c2 := (cell_of_row _ _ 2 _ _ _ hb).trans (show _ = some (Value.int .i64 0) from rfl)
      have c3 := (cell_of_row _ _ 3 _ _ _ hb).trans (show _ = some (Value.int .i64 at_) from rfl)
      have f2 := frozen_of_row _ _ 2 _ _ hb
      have f3 := frozen_of_row _ _ 3 _ _ hb
      have hql' : q.length + 1 ≤ 5000 := by obtain ⟨_, _, _, _, hl⟩ := h; exact hl
      have HH := Lib.hid (And.intro hb hr); clear hb hr HR h
      have hlen : (0 : Int) < (q.length : Int) + 1 := by omega
      obtain ⟨tk, tt, tn, ta⟩ := t
      simp only [] at q0 q1 q2 q3
      go_enter Tryd.func33, Tryd.ntmps33
      go_wp2_with fail
      go_end0
      exact ⟨rfl, set4_post (l := _ :: q) HH.out.1 HH.out.2 (.inr (by rintro k ⟨⟩; exact hgb)) hql'⟩
  · have heb : (er != 0) = true := by simpa using he
    obtain ⟨v, hb, hr, hn, hl⟩ := h
    have c2 := (cell_of_row _ _ 2 _ _ _ hb).trans (show _ = some (Value.int .i64 er) from rfl)
    have HE := Lib.hid he
    clear hb hr hn hl he
    go_enter Tryd.func33, Tryd.ntmps33
    go_wp2_with fail
    refine bodyPost_ret (v := .tuple #[]) (by simp [results, Tryd.results33, go_sem]) rfl ?_
    exact ⟨rfl, by rw [Rz.fail_dead HE.out]; exact same_post HR.out⟩

theorem name_fail {sz kind : Int} {text : List UInt8} {t : Lx.Tok} {q : List Lx.Tok} {e a : Int} (h : ¬ (e = 0 ∧ t.kind = kind ∧ t.text = text)) : Rz.name sz kind text ⟨t :: q, e, a⟩ = Rz.fail sz ⟨t :: q, e, a⟩ := by
  show (if _ then _ else _) = _; rw [if_neg h]
theorem num_fail {sz : Int} {t : Lx.Tok} {q : List Lx.Tok} {e a : Int} (h : ¬ (e = 0 ∧ t.kind = 2)) : Rz.num sz ⟨t :: q, e, a⟩ = (0, Rz.fail sz ⟨t :: q, e, a⟩) := by
  show (if _ then _ else _) = _; rw [if_neg h]
theorem reader_err {b : Nat} {sz : Int} {R : Rz.Rd} {w : World} (h : RDB b sz R w) : w.cell? ⟨b, 2, none⟩ = some (.int .i64 R.err) := by
  obtain ⟨v, hb, _⟩ := h
  exact (cell_of_row _ _ 2 _ _ _ hb).trans rfl

set_option maxRecDepth 100000 in
set_option maxHeartbeats 4000000 in
theorem rname_any (b : Nat) (sz kind : Int) (text : ByteArray) (R : Rz.Rd) (w : World) (h : RDB b sz R w) : Calls Tryd.prog 34 #[.pointer (some ⟨b, 0, none⟩), .int .i64 kind, .string text] w fun e w' => e = .returned (.tuple #[]) ∧ RPost b sz (Rz.name sz kind text.data.toList R) w w' := by
  have HR := Lib.hid h
  obtain ⟨l, er, at_⟩ := R
  by_cases he : er = 0
  · subst he
    cases l with
    | nil =>
      obtain ⟨a, c, hb, hr⟩ := reader_none h
      have c0 := (cell_of_row _ _ 0 _ _ _ hb).trans (show _ = some (Value.slice a 0 c) from rfl)
      have c2 := (cell_of_row _ _ 2 _ _ _ hb).trans (show _ = some (Value.int .i64 0) from rfl)
      clear hb hr h
      go_enter Tryd.func34, Tryd.ntmps34
      go_wp2_with fail
      refine (rfail_any b sz _ w HR.out).mono ?_
      rintro e w' ⟨rfl, hw⟩
      have HW := Lib.hid hw; clear hw
      go_wp2_with fail
      refine bodyPost_ret (v := .tuple #[]) (by simp [results, Tryd.results34, go_sem]) rfl ?_
      exact ⟨rfl, HW.out⟩
    | cons t q =>
      obtain ⟨g, off, cp, hgb, h2, h3, hql, hb, hr, q0, q1, q2, q3⟩ := reader_cells h
      have hne : g ≠ b := by omega
      have c0 := (cell_of_row _ _ 0 _ _ _ hb).trans (show _ = some (Value.slice (some ⟨g, off, none⟩) (q.length + 1) cp) from rfl)
      have c2 := (cell_of_row _ _ 2 _ _ _ hb).trans (show _ = some (Value.int .i64 0) from rfl)
      have f0 := frozen_of_row _ _ 0 _ _ hb
      have hql' : q.length + 1 ≤ 5000 := by obtain ⟨_, _, _, _, hl⟩ := h; exact hl
      have HH := Lib.hid (And.intro hb hr); clear hb hr h
      have hlen : ((q.length : Int) + 1 == 0) = false := by simp; omega
      have hlen2 : (0 : Int) < (q.length : Int) + 1 := by omega
      obtain ⟨tk, tt, tn, ta⟩ := t
      simp only [] at q0 q1 q2 q3
      by_cases hk : tk = kind
      · have hkb : (tk != kind) = false := by simp [hk]
        by_cases ht : tt = text.data.toList
        · have hb : (!tt == text.toList) = false := by rw [Lib.toList_data, ht]; simp
          have HE : Hid (Rz.name sz kind text.data.toList ⟨⟨tk, tt, tn, ta⟩ :: q, 0, at_⟩ = ⟨q, 0, at_⟩) := Lib.hid (by show (if _ then _ else _) = _; rw [if_pos ⟨rfl, hk, ht⟩])
          clear hk ht
          by_cases hc1 : cp = 1
          · go_enter Tryd.func34, Tryd.ntmps34
            go_wp2_with fail
            go_end0
            refine ⟨rfl, ?_⟩
            rw [HE.out]
            exact set0_post HH.out.1 (HH.out.2.tail rfl _ (fun hn => by omega) 0 ⟨by omega, by unfold maxLen; omega⟩) (.inr (by rintro k ⟨⟩; exact hgb)) hql
          · go_enter Tryd.func34, Tryd.ntmps34
            go_wp2_with fail
            go_end0
            refine ⟨rfl, ?_⟩
            rw [HE.out]
            exact set0_post HH.out.1 (HH.out.2.tail rfl _ (fun _ => rfl) (cp - 1) ⟨by omega, by omega⟩) (.inr (by rintro k ⟨⟩; exact hgb)) hql
        · have hb : (!tt == text.toList) = true := by rw [Lib.toList_data]; simpa using ht
          have HE := Lib.hid (name_fail (sz := sz) (kind := kind) (text := text.data.toList) (t := ⟨tk, tt, tn, ta⟩) (q := q) (e := 0) (a := at_) (fun h => ht h.2.2))
          clear hk ht
          go_enter Tryd.func34, Tryd.ntmps34
          go_wp2_with fail
          refine (rfail_any b sz _ w HR.out).mono ?_
          rintro e w' ⟨rfl, hw⟩
          have HW := Lib.hid hw; clear hw
          go_wp2_with fail
          refine bodyPost_ret (v := .tuple #[]) (by simp [results, Tryd.results34, go_sem]) rfl ?_
          exact ⟨rfl, by rw [HE.out]; exact HW.out⟩
      · have hkb : (tk != kind) = true := by simpa using hk
        have HE := Lib.hid (name_fail (sz := sz) (kind := kind) (text := text.data.toList) (t := ⟨tk, tt, tn, ta⟩) (q := q) (e := 0) (a := at_) (fun h => hk h.2.1))
        clear hk
        go_enter Tryd.func34, Tryd.ntmps34
        go_wp2_with fail
        refine (rfail_any b sz _ w HR.out).mono ?_
        rintro e w' ⟨rfl, hw⟩
        have HW := Lib.hid hw; clear hw
        go_wp2_with fail
        refine bodyPost_ret (v := .tuple #[]) (by simp [results, Tryd.results34, go_sem]) rfl ?_
        exact ⟨rfl, by rw [HE.out]; exact HW.out⟩
  · have heb : (er != 0) = true := by simpa using he
    have c2 := reader_err h
    have HE := Lib.hid he
    clear he h
    go_enter Tryd.func34, Tryd.ntmps34
    go_wp2_with fail
    refine (rfail_any b sz _ w HR.out).mono ?_
    rintro e w' ⟨rfl, hw⟩
    have HW := Lib.hid hw; clear hw
    go_wp2_with fail
    refine bodyPost_ret (v := .tuple #[]) (by simp [results, Tryd.results34, go_sem]) rfl ?_
    refine ⟨rfl, ?_⟩
    have hh := HW.out
    rw [Rz.fail_dead (r := ⟨l, er, at_⟩) HE.out] at hh
    rw [Rz.name_dead (r := ⟨l, er, at_⟩) HE.out]
    exact hh

set_option maxRecDepth 100000 in
set_option maxHeartbeats 4000000 in
theorem rnum_any (b : Nat) (sz : Int) (R : Rz.Rd) (w : World) (h : RDB b sz R w) : Calls Tryd.prog 32 #[.pointer (some ⟨b, 0, none⟩)] w fun e w' => e = .returned (.int .i64 (Rz.num sz R).1) ∧ RPost b sz (Rz.num sz R).2 w w' := by
  have HR := Lib.hid h
  obtain ⟨l, er, at_⟩ := R
  by_cases he : er = 0
  · subst he
    cases l with
    | nil =>
      obtain ⟨a, c, hb, hr⟩ := reader_none h
      have c0 := (cell_of_row _ _ 0 _ _ _ hb).trans (show _ = some (Value.slice a 0 c) from rfl)
      have c2 := (cell_of_row _ _ 2 _ _ _ hb).trans (show _ = some (Value.int .i64 0) from rfl)
      clear hb hr h
      go_enter Tryd.func32, Tryd.ntmps32
      go_wp2_with fail
      refine (rfail_any b sz _ w HR.out).mono ?_
      rintro e w' ⟨rfl, hw⟩
      have HW := Lib.hid hw; clear hw
      go_wp2_with fail
      go_ret
      exact ⟨rfl, HW.out⟩
    | cons t q =>
      obtain ⟨g, off, cp, hgb, h2, h3, hql, hb, hr, q0, q1, q2, q3⟩ := reader_cells h
      have hne : g ≠ b := by omega
      have c0 := (cell_of_row _ _ 0 _ _ _ hb).trans (show _ = some (Value.slice (some ⟨g, off, none⟩) (q.length + 1) cp) from rfl)
      have c2 := (cell_of_row _ _ 2 _ _ _ hb).trans (show _ = some (Value.int .i64 0) from rfl)
      have f0 := frozen_of_row _ _ 0 _ _ hb
      have hql' : q.length + 1 ≤ 5000 := by obtain ⟨_, _, _, _, hl⟩ := h; exact hl
      have HH := Lib.hid (And.intro hb hr); clear hb hr h
      have hlen : ((q.length : Int) + 1 == 0) = false := by simp; omega
      have hlen2 : (0 : Int) < (q.length : Int) + 1 := by omega
      obtain ⟨tk, tt, tn, ta⟩ := t
      simp only [] at q0 q1 q2 q3
      by_cases hk : tk = 2
      · subst hk
        have HE : Hid (Rz.num sz ⟨⟨2, tt, tn, ta⟩ :: q, 0, at_⟩ = (tn, ⟨q, 0, at_⟩)) := Lib.hid (by simp [Rz.num])
        by_cases hc1 : cp = 1
        · go_enter Tryd.func32, Tryd.ntmps32
          go_wp2_with fail
          go_ret
          rw [HE.out]
          exact ⟨rfl, set0_post HH.out.1 (HH.out.2.tail rfl _ (fun hn => by omega) 0 ⟨by omega, by unfold maxLen; omega⟩) (.inr (by rintro k ⟨⟩; exact hgb)) hql⟩
        · go_enter Tryd.func32, Tryd.ntmps32
          go_wp2_with fail
          go_ret
          rw [HE.out]
          exact ⟨rfl, set0_post HH.out.1 (HH.out.2.tail rfl _ (fun _ => rfl) (cp - 1) ⟨by omega, by omega⟩) (.inr (by rintro k ⟨⟩; exact hgb)) hql⟩
      · have hkb : (tk != 2) = true := by simpa using hk
        have HE := Lib.hid (num_fail (sz := sz) (t := ⟨tk, tt, tn, ta⟩) (q := q) (e := 0) (a := at_) (fun h => hk h.2))
        clear hk
        go_enter Tryd.func32, Tryd.ntmps32
        go_wp2_with fail
        refine (rfail_any b sz _ w HR.out).mono ?_
        rintro e w' ⟨rfl, hw⟩
        have HW := Lib.hid hw; clear hw
        go_wp2_with fail
        go_ret
        rw [HE.out]
        exact ⟨rfl, HW.out⟩
  · have heb : (er != 0) = true := by simpa using he
    have c2 := reader_err h
    have HE := Lib.hid he
    clear he h
    go_enter Tryd.func32, Tryd.ntmps32
    go_wp2_with fail
    refine (rfail_any b sz _ w HR.out).mono ?_
    rintro e w' ⟨rfl, hw⟩
    have HW := Lib.hid hw; clear hw
    go_wp2_with fail
    go_ret
    rw [Rz.num_dead HE.out]
    refine ⟨rfl, ?_⟩
    rw [Rz.fail_dead HE.out] at HW
    exact HW.out
end Go.Proofs.YtedddaojcknemaaDoor
