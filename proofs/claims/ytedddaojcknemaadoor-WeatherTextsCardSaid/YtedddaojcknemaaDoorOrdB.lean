/- An appended copy of spells, and stores of spells into it. -/
import Derived.Test.YtedddaojcknemaaDoorQuietB
namespace Go.Proofs.YtedddaojcknemaaDoor
open Go.RowKit Go.Sort

theorem own_empty {w : World} {base : Nat} {e : TypeId} {size : Nat} (h : base ≤ w.heap.size) : (w.alloc (.cells #[] e)).ownsRow base e size (.slice (some ⟨w.heap.size, 0, none⟩) 0 0) 0 [] :=
  ⟨by simp, .inr ⟨w.heap.size, 0, #[], rfl, h, heap_alloc_new w _, Nat.le_refl _, by unfold maxLen; omega, by simp, by simp⟩⟩
theorem add_none (g off j : Nat) : (⟨g, off, none⟩ : Addr).add j = ⟨g, off + j, none⟩ := by unfold Addr.add; split <;> simp_all
theorem read_news {W : World} {g off n c : Nat} {xs : List Value} {size : Nat} (hR : ReadRow W size (.slice (some ⟨g, off, none⟩) n c) n xs) (hn : n ≠ 0) : ∀ (j : Nat) u, xs[j]? = some u → W.cell? ((⟨g, off, none⟩ : Addr).add j) = some u := by
  intro j u hu
  obtain ⟨a, c', he, _, _, h⟩ := hR.slice
  cases he
  obtain ⟨g', off', he, h⟩ := h hn
  cases he
  rw [add_none]; exact h j u hu
theorem spFlat_one (l : List Sp) : ∀ u ∈ spFlat l, u.oneCell' = true := by
  intro u hu
  unfold spFlat at hu
  obtain ⟨s, _, hu⟩ := List.mem_flatMap.1 hu
  simp [spCells] at hu
  rcases hu with rfl | rfl | rfl | rfl | rfl <;> rfl
theorem spFlat_len (l : List Sp) : (spFlat l).length = l.length * 5 := by
  unfold spFlat
  induction l with
  | nil => rfl
  | cons s l ih => simp [List.flatMap_cons, spCells] at ih ⊢; omega

/-- One cell of a readable row is stored. -/
theorem ReadRow.set {w : World} {size g off n c i : Nat} {xs : List Value} (h : ReadRow w size (.slice (some ⟨g, off, none⟩) n c) n xs) (u : Value) : ReadRow (w.setCell ⟨g, off + i, none⟩ u) size (.slice (some ⟨g, off, none⟩) n c) n (xs.set i u) := by
  obtain ⟨h1, a, c', he, h2, h3, h4⟩ := h
  cases he
  refine ⟨by simpa using h1, _, _, rfl, h2, h3, ?_⟩
  rcases h4 with h4 | ⟨g', off', he, hg, hc⟩
  · exact .inl h4
  · cases he
    refine .inr ⟨g, off, rfl, by simpa [World.setCell] using hg, fun j v hv => ?_⟩
    by_cases hij : j = i
    · subst hij
      have hj : j < xs.length := by simpa using (List.getElem?_eq_some_iff.1 hv).1
      rw [List.getElem?_set_self hj] at hv
      cases hv
      obtain ⟨v', hv'⟩ : ∃ v', xs[j]? = some v' := ⟨_, List.getElem?_eq_getElem hj⟩
      have := hc j v' hv'
      unfold World.cell? at this ⊢
      cases hb : w.heap[g]? with
      | none => rw [hb] at this; cases this
      | some o =>
        rw [hb] at this
        cases o with
        | cells cs t fr =>
          have hl : off + j < cs.size := by simpa using (Array.getElem?_eq_some_iff.1 this).1
          simp [World.setCell, Array.getElem?_modify, hb, hl]
        | _ => simp at this
    · rw [List.getElem?_set_ne (fun e => hij e.symm)] at hv
      have := hc j v hv
      unfold World.cell? at this ⊢
      cases hb : w.heap[g]? with
      | none => rw [hb] at this; cases this
      | some o =>
        rw [hb] at this
        cases o with
        | cells cs t fr =>
          have hne : ¬ i = j := fun e => hij e.symm
          simp only [World.setCell, Array.getElem?_modify, hb, if_true, Option.map_some]
          simpa [Array.getElem?_setIfInBounds, hne] using this
        | _ => simp at this
/-- A spell is stored. -/
theorem spFlat_set : ∀ (l : List Sp) (k : Nat) (s : Sp), k < l.length → spFlat (l.set k s) = (((((spFlat l).set (k * 5) (.int .i64 s.k)).set (k * 5 + 1) (.int .i64 s.q)).set (k * 5 + 2) (.int .i64 s.n)).set (k * 5 + 3) (.int .i64 s.f)).set (k * 5 + 4) (.int .i64 s.u)
  | [], _, _, h => by simp at h
  | x :: l, 0, s, _ => by simp [spFlat, spCells]
  | x :: l, k + 1, s, h => by
    have ih := spFlat_set l k s (by simpa using h)
    show spCells x ++ spFlat (l.set k s) = _
    rw [ih]
    have e : ∀ j (v : Value) (xs : List Value), (spCells x ++ xs).set ((k + 1) * 5 + j) v = spCells x ++ xs.set (k * 5 + j) v := by
      intro j v xs
      rw [List.set_append_right _ _ (by simp [spCells]; omega)]
      congr 2
      simp [spCells]; omega
    have e0 : ∀ (v : Value) (xs : List Value), (spCells x ++ xs).set ((k + 1) * 5) v = spCells x ++ xs.set (k * 5) v := e 0
    show _ = (((((spCells x ++ spFlat l).set _ _).set _ _).set _ _).set _ _).set _ _
    rw [e0, e, e, e, e]
theorem ReadRow.setSp {w : World} {g off n c k : Nat} {l : List Sp} (h : ReadRow w 5 (.slice (some ⟨g, off, none⟩) n c) n (spFlat l)) (hk : k < l.length) (s : Sp) :
    ReadRow (((((w.setCell ⟨g, off + k * 5, none⟩ (.int .i64 s.k)).setCell ⟨g, off + k * 5 + 1, none⟩ (.int .i64 s.q)).setCell ⟨g, off + k * 5 + 2, none⟩ (.int .i64 s.n)).setCell ⟨g, off + k * 5 + 3, none⟩ (.int .i64 s.f)).setCell ⟨g, off + k * 5 + 4, none⟩ (.int .i64 s.u)) 5 (.slice (some ⟨g, off, none⟩) n c) n (spFlat (l.set k s)) := by
  rw [spFlat_set l k s hk]
  simp only [Nat.add_assoc]
  exact ((((h.set _).set _).set _).set _).set _
end Go.Proofs.YtedddaojcknemaaDoor
