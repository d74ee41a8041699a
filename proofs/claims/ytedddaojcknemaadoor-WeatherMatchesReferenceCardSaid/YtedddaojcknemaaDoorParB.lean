/- Parse's variables on the heap, and what its closures do to them. -/
import Derived.Test.YtedddaojcknemaaDoorParA
namespace Go.Proofs.YtedddaojcknemaaDoor
open Go.RowKit

def spFlat (l : List Sp) : List Value := l.flatMap spCells
theorem spFlat_snoc (l : List Sp) (s : Sp) : spFlat (l ++ [s]) = spFlat l ++ spCells s := by simp [spFlat]
/-- The closure 'next'. -/
def nextV5 (b5 b1 : Nat) : Value := .func (.func 27) #[] #[.pointer (some ⟨b5, 0, none⟩), .pointer (some ⟨b1, 0, none⟩)]

/-- Parse's variables: the blocks below B. -/
structure PF (s : ByteArray) (w0 : World) (b1 b2 b3 b4 b5 b6 B : Nat) (l : List Lx.Tok) (out : List Sp) (w : World) : Prop where
  h1 : w.heap[b1]? = some (.cells #[.string s] 9 (0, 0))
  h2 : ∃ v, w.heap[b2]? = some (.cells #[v] 22 (0, 0)) ∧ w.ownsRow (b6 + 1) 32 5 v out.length (spFlat out) ∧ ∀ k, v.ownBlock = some k → k < B
  h3 : w.heap[b3]? = some (.cells #[.int .i64 0] 27 (0, 0))
  h4 : ∃ v, w.heap[b4]? = some (.cells #[v] 3 (0, 0))
  h5 : ∃ v, w.heap[b5]? = some (.cells #[v] 46 (0, 0)) ∧ ReadRow w 4 v l.length (tokFlat l) ∧ (l.length = 0 ∨ ∀ k, v.ownBlock = some k → k < b5)
  h6 : w.heap[b6]? = some (.cells #[nextV5 b5 b1] 58 (0, 0))
  hb : Below w0.heap.size w0 w
  lt : w0.heap.size ≤ b1 ∧ b1 < b2 ∧ b2 < b3 ∧ b3 < b4 ∧ b4 < b5 ∧ b5 < b6 ∧ b6 < B ∧ B ≤ w.heap.size
  hl : l.length ≤ 5000
  hs : s.size ≤ 20000
  ho : out.length ≤ 200
/-- What a failure leaves of them. -/
structure PX (w0 : World) (b1 b2 b3 b4 : Nat) (w : World) : Prop where
  h2 : ∃ v, w.heap[b2]? = some (.cells #[v] 22 (0, 0))
  h3 : ∃ v, w.heap[b3]? = some (.cells #[v] 27 (0, 0))
  h4 : ∃ v, w.heap[b4]? = some (.cells #[v] 3 (0, 0))
  hb : Below w0.heap.size w0 w
  lt : w0.heap.size ≤ b1 ∧ b1 < b2 ∧ b2 < b3 ∧ b3 < b4

section
variable {s : ByteArray} {w0 : World} {b1 b2 b3 b4 b5 b6 B : Nat} {l : List Lx.Tok} {out : List Sp} {w w' : World}

theorem PF.px (h : PF s w0 b1 b2 b3 b4 b5 b6 B l out w) : PX w0 b1 b2 b3 b4 w :=
  ⟨h.h2.imp fun _ q => q.1, ⟨_, h.h3⟩, h.h4, h.hb, h.lt.1, h.lt.2.1, h.lt.2.2.1, h.lt.2.2.2.1⟩
theorem PX.grown (h : PX w0 b1 b2 b3 b4 w) (hg : w.grownBy w' (some b5)) (hlt : b4 < b5) : PX w0 b1 b2 b3 b4 w' := by
  obtain ⟨k1, k2, k3, k4⟩ := h.lt
  have t : ∀ {k : Nat} {o : Obj}, w.heap[k]? = some o → k ≤ b4 → w'.heap[k]? = some o := fun {k o} q hk => (hg.block k (Array.getElem?_eq_some_iff.1 q).1 (by intro e; cases e; omega)).trans q
  exact ⟨h.h2.imp fun _ q => t q (by omega), h.h3.imp fun _ q => t q (by omega), h.h4.imp fun _ q => t q (by omega), h.hb.grown hg h.hb.size (by rintro k ⟨⟩; omega), h.lt⟩
theorem PX.below {B : Nat} (h : PX w0 b1 b2 b3 b4 w) (hg : Below B w w') (hlt : b4 < B) : PX w0 b1 b2 b3 b4 w' := by
  obtain ⟨k1, k2, k3, k4⟩ := h.lt
  have t : ∀ {k : Nat} {o : Obj}, w.heap[k]? = some o → k ≤ b4 → w'.heap[k]? = some o := fun {k o} q hk => (hg.block k (by omega)).trans q
  exact ⟨h.h2.imp fun _ q => t q (by omega), h.h3.imp fun _ q => t q (by omega), h.h4.imp fun _ q => t q (by omega), h.hb.trans (hg.mono (by omega)), h.lt⟩
theorem PF.below (h : PF s w0 b1 b2 b3 b4 b5 b6 B l out w) (hg : Below B w w') : PF s w0 b1 b2 b3 b4 b5 b6 B l out w' := by
  obtain ⟨k1, k2, k3, k4, k5, k6, k7, k8⟩ := h.lt
  have t : ∀ {k : Nat} {o : Obj}, w.heap[k]? = some o → k < B → w'.heap[k]? = some o := fun {k o} q hk => (hg.block k hk).trans q
  obtain ⟨v2, q2, o2, e2⟩ := h.h2
  obtain ⟨v4, q4⟩ := h.h4
  obtain ⟨v5, q5, r5, e5⟩ := h.h5
  refine ⟨t h.h1 (by omega), ⟨v2, t q2 (by omega), ?_, e2⟩, t h.h3 (by omega), ⟨v4, t q4 (by omega)⟩, ⟨v5, t q5 (by omega), ?_, e5⟩, t h.h6 (by omega), h.hb.trans (hg.mono (by omega)), ⟨k1, k2, k3, k4, k5, k6, k7, Nat.le_trans k8 hg.size⟩, h.hl, h.hs, h.ho⟩
  · refine ⟨o2.1, ?_⟩
    rcases o2.2 with h2 | ⟨g, cap, cur, rfl, c1, c2, c3⟩
    · exact .inl h2
    · exact .inr ⟨g, cap, cur, rfl, c1, t c2 (e2 g rfl), c3⟩
  · refine r5.of_block hg.size fun a m c hv hn => ?_
    subst hv
    rcases e5 with e5 | e5
    · exact absurd e5 hn
    · exact hg.block _ (by have := e5 a.block rfl; omega)
theorem PF.next {l' : List Lx.Tok} (h : PF s w0 b1 b2 b3 b4 b5 b6 B l out w) (hg : w.grownBy w' (some b5)) (hl' : l'.length ≤ l.length)
    (h5 : ∃ v, w'.heap[b5]? = some (.cells #[v] 46 (0, 0)) ∧ ReadRow w' 4 v l'.length (tokFlat l') ∧ (l'.length = 0 ∨ ∀ k, v.ownBlock = some k → k < b5)) : PF s w0 b1 b2 b3 b4 b5 b6 B l' out w' := by
  obtain ⟨k1, k2, k3, k4, k5, k6, k7, k8⟩ := h.lt
  have t : ∀ {k : Nat} {o : Obj}, w.heap[k]? = some o → k ≠ b5 → w'.heap[k]? = some o := fun {k o} q hk => (hg.block k (Array.getElem?_eq_some_iff.1 q).1 (by simpa using hk)).trans q
  obtain ⟨v2, q2, o2, e2⟩ := h.h2
  obtain ⟨v4, q4⟩ := h.h4
  refine ⟨t h.h1 (by omega), ⟨v2, t q2 (by omega), o2.kept hg ?_, e2⟩, t h.h3 (by omega), ⟨v4, t q4 (by omega)⟩, h5, t h.h6 (by omega), h.hb.grown hg h.hb.size (by rintro k ⟨⟩; omega), ⟨k1, k2, k3, k4, k5, k6, k7, Nat.le_trans k8 hg.size⟩, Nat.le_trans hl' h.hl, h.hs, h.ho⟩
  by_cases hv : v2.ownBlock = none
  · exact .inl hv
  · refine .inr fun e => ?_
    have := (o2.lt _ e).1
    omega
theorem PF.toB {B' : Nat} (h : PF s w0 b1 b2 b3 b4 b5 b6 B l out w) (hB : B ≤ B') (hw : B' ≤ w.heap.size) : PF s w0 b1 b2 b3 b4 b5 b6 B' l out w := by
  obtain ⟨k1, k2, k3, k4, k5, k6, k7, k8⟩ := h.lt
  exact ⟨h.h1, h.h2.imp fun _ q => ⟨q.1, q.2.1, fun k e => Nat.lt_of_lt_of_le (q.2.2 k e) hB⟩, h.h3, h.h4, h.h5.imp fun _ q => ⟨q.1, q.2.1, q.2.2⟩, h.h6, h.hb, ⟨k1, k2, k3, k4, k5, k6, by omega, hw⟩, h.hl, h.hs, h.ho⟩

/-- next, in Parse's frame. -/
def NxPost (s : ByteArray) (w0 : World) (b1 b2 b3 b4 b5 b6 B : Nat) (l : List Lx.Tok) (out : List Sp) (w : World) (kind : Int) (e : Ending) (w' : World) : Prop :=
  w.grownBy w' (some b5) ∧ match Pz.nx s.size kind l with
  | .fail er a => e = .panicked (failE er a) ∧ PX w0 b1 b2 b3 b4 w'
  | .ok t r => e = .returned (tokV t.kind t.text t.n t.at_) ∧ PF s w0 b1 b2 b3 b4 b5 b6 B r out w'
/-- must, in Parse's frame. -/
def MuPost (s : ByteArray) (w0 : World) (b1 b2 b3 b4 b5 b6 B : Nat) (l : List Lx.Tok) (out : List Sp) (w : World) (kind : Int) (text : List UInt8) (e : Ending) (w' : World) : Prop :=
  w.grownBy w' (some b5) ∧ match Pz.mu s.size kind text l with
  | .fail er a => e = .panicked (failE er a) ∧ PX w0 b1 b2 b3 b4 w'
  | .ok t r => e = .returned (.int .i64 t) ∧ PF s w0 b1 b2 b3 b4 b5 b6 B r out w'
end
end Go.Proofs.YtedddaojcknemaaDoor
