import Derived.Test.YtedddaojcknemaaDoorWeaD
namespace Go.Proofs.YtedddaojcknemaaDoor
open Go.RowKit

def parseDefer (b2 b3 b4 : Nat) : Deferred := ⟨.fn (.func 26) #[.pointer (some ⟨b2, 0, none⟩), .pointer (some ⟨b3, 0, none⟩), .pointer (some ⟨b4, 0, none⟩)], #[]⟩

theorem results_cell3 {P : Program} {fn : Func} {p q r : Tmp} {t2 t3 t4 : TypeId} (h : fn.results = #[.cell p t2, .cell q t3, .cell r t4]) (tmps : Array Value) (w : World) (b2 b3 b4 : Nat) (v2 v3 v4 : Value)
    (hp : tmps.getD p undef = .pointer (some ⟨b2, 0, none⟩)) (hq : tmps.getD q undef = .pointer (some ⟨b3, 0, none⟩)) (hr : tmps.getD r undef = .pointer (some ⟨b4, 0, none⟩))
    (l2 : (loadVar t2 ⟨b2, 0, none⟩).run P w = .ok v2 w) (l3 : (loadVar t3 ⟨b3, 0, none⟩).run P w = .ok v3 w) (l4 : (loadVar t4 ⟨b4, 0, none⟩).run P w = .ok v4 w) :
    (results fn tmps).run P w = .ok (.tuple #[v2, v3, v4]) w := by
  have hp' : tmps[p]?.getD undef = .pointer (some ⟨b2, 0, none⟩) := by simpa using hp
  have hq' : tmps[q]?.getD undef = .pointer (some ⟨b3, 0, none⟩) := by simpa using hq
  have hr' : tmps[r]?.getD undef = .pointer (some ⟨b4, 0, none⟩) := by simpa using hr
  simp [results, h, hp', hq', hr', asAddr, l2, l3, l4]

theorem loadVar_slice (w : World) (b : Nat) (v : Value) (h : w.cell? ⟨b, 0, none⟩ = some v) : (loadVar 22 ⟨b, 0, none⟩).run Tryd.prog w = .ok v w := by
  simp [loadVar, isAgg, h, go_sem]
theorem loadVar_errno (w : World) (b : Nat) (v : Value) (h : w.cell? ⟨b, 0, none⟩ = some v) : (loadVar 27 ⟨b, 0, none⟩).run Tryd.prog w = .ok v w := by
  simp [loadVar, isAgg, h, go_sem]
theorem loadVar_int (w : World) (b : Nat) (v : Value) (h : w.cell? ⟨b, 0, none⟩ = some v) : (loadVar 3 ⟨b, 0, none⟩).run Tryd.prog w = .ok v w := by
  simp [loadVar, isAgg, h, go_sem]

/-- The way out by a failure: recovered; no spells, the error, its offset. -/
theorem parse_panic (a : Act) (w : World) (R : Ending → World → Prop) (b2 b3 b4 : Nat) (v2 v3 v4 : Value) (e at_ : Int) (hd : a.defers = [parseDefer b2 b3 b4])
    (p2 : a.tmps.getD 2 undef = .pointer (some ⟨b2, 0, none⟩)) (p3 : a.tmps.getD 3 undef = .pointer (some ⟨b3, 0, none⟩)) (p4 : a.tmps.getD 4 undef = .pointer (some ⟨b4, 0, none⟩))
    (h2 : w.heap[b2]? = some (.cells #[v2] 22 (0, 0))) (h3 : w.heap[b3]? = some (.cells #[v3] 27 (0, 0))) (h4 : w.heap[b4]? = some (.cells #[v4] 3 (0, 0)))
    (hR : ∀ w', (∀ B, B ≤ b2 → B ≤ b3 → B ≤ b4 → Below B w w') → R (.returned (.tuple #[.slice none 0 0, .int .i64 e, .int .i64 at_])) w') :
    bodyPostD Tryd.prog Tryd.f14 R (Exit.panic (failE e at_)) a w := by
  unfold bodyPostD
  simp only [hd]
  refine leaves_cons (f := 26) (args := #[.pointer (some ⟨b2, 0, none⟩), .pointer (some ⟨b3, 0, none⟩), .pointer (some ⟨b4, 0, none⟩)]) (by simp) (by simp [go_sem]) ?_
  refine (catch_panic w b2 b3 b4 v2 v3 v4 e at_ h2 h3 h4).mono ?_
  rintro en u' w' ⟨rfl, rfl, c2, c3, c4, hb⟩
  simp only [Leaves, settle, List.dropWhile]
  exact ⟨_, results_cell3 rfl _ _ b2 b3 b4 _ _ _ p2 p3 p4 (loadVar_slice _ _ _ c2) (loadVar_errno _ _ _ c3) (loadVar_int _ _ _ c4), hR w' hb⟩

/-- The way out by a return. -/
theorem parse_return (a : Act) (w : World) (R : Ending → World → Prop) (b2 b3 b4 : Nat) (v2 v3 v4 : Value) (hd : a.defers = [parseDefer b2 b3 b4])
    (p2 : a.tmps.getD 2 undef = .pointer (some ⟨b2, 0, none⟩)) (p3 : a.tmps.getD 3 undef = .pointer (some ⟨b3, 0, none⟩)) (p4 : a.tmps.getD 4 undef = .pointer (some ⟨b4, 0, none⟩))
    (h2 : w.cell? ⟨b2, 0, none⟩ = some v2) (h3 : w.cell? ⟨b3, 0, none⟩ = some v3) (h4 : w.cell? ⟨b4, 0, none⟩ = some v4)
    (hR : ∀ w', Below w.heap.size w w' → R (.returned (.tuple #[v2, v3, v4])) w') :
    bodyPostD Tryd.prog Tryd.f14 R Exit.ret a w := by
  unfold bodyPostD
  simp only [hd]
  refine leaves_cons (f := 26) (args := #[.pointer (some ⟨b2, 0, none⟩), .pointer (some ⟨b3, 0, none⟩), .pointer (some ⟨b4, 0, none⟩)]) (by simp) (by simp [go_sem]) ?_
  refine (catch_idle w b2 b3 b4).mono ?_
  rintro en u' w' ⟨rfl, rfl, hb⟩
  simp only [Leaves, settle]
  exact ⟨_, results_cell3 rfl _ _ b2 b3 b4 _ _ _ p2 p3 p4 (loadVar_slice _ _ _ ((hb.cell (p := ⟨b2, 0, none⟩) (World.block_lt_of_cell? _ _ h2)).trans h2)) (loadVar_errno _ _ _ ((hb.cell (p := ⟨b3, 0, none⟩) (World.block_lt_of_cell? _ _ h3)).trans h3)) (loadVar_int _ _ _ ((hb.cell (p := ⟨b4, 0, none⟩) (World.block_lt_of_cell? _ _ h4)).trans h4)), hR w' hb⟩
end Go.Proofs.YtedddaojcknemaaDoor
