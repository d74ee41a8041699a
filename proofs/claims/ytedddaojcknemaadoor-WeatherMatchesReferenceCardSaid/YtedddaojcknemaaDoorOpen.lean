/- Arguments: a slice that reads as data is a readable row; arguments read again behind a call that only lays new memory. -/
import Derived.Test.YtedddaojcknemaaDoorRow
import Derived.Test.YtedddaojcknemaaDoorPost
import Derived.Deep.Slices
import Derived.ChangeSame
import Derived.Carry
namespace Go.Proofs.YtedddaojcknemaaDoor
open Go.ChangeShapes Go.WideShapes Go.RowKit Go.Deep

theorem u8_lo {n : Int} (h : (Lit.int .u8 n).wf = true) : 0 ≤ n := by
  have h2 := (Bool.and_eq_true _ _ ▸ h : decide (IntKind.u8.min ≤ n) = true ∧ decide (n ≤ IntKind.u8.max) = true)
  have e1 : IntKind.u8.min = 0 := rfl
  have := of_decide_eq_true h2.1
  omega
theorem u8_hi {n : Int} (h : (Lit.int .u8 n).wf = true) : n ≤ 255 := by
  have h2 := (Bool.and_eq_true _ _ ▸ h : decide (IntKind.u8.min ≤ n) = true ∧ decide (n ≤ IntKind.u8.max) = true)
  have e1 : IntKind.u8.max = 255 := rfl
  have := of_decide_eq_true h2.2
  omega
section
variable {H : Type} {enc : TypeId × Value → H} {P : Program}

theorem all_stays (hl : laidOutB P = true) {W W' : World} (hb : Below W.heap.size W W') {sp : Nat → Bool} : ∀ {ts : List TypeId} {vs : List Value} {ds : List (DataW H)} {ps : List MemPlace},
    (∀ t ∈ ts, P.readableRec t = true ∧ t < P.types.size) → DataW.TrodAll enc P W 0 (fun _ => true) true ts vs ds ps → (∀ x ∈ ps, x.block < W.heap.size) → (∀ x ∈ ps, sp x.block = true) → DataW.TrodAll enc P W' 0 sp true ts vs ds ps
  | [], [], [], _, _, h, _, _ => h
  | [], _ :: _, _, _, _, h, _, _ => h.elim
  | [], [], _ :: _, _, _, h, _, _ => h.elim
  | _ :: _, [], _, _, _, h, _, _ => h.elim
  | _ :: _, _ :: _, [], _, _, h, _, _ => h.elim
  | t :: ts, v :: vs, d :: ds, ps, hts, h, hlt, hsp => by
    obtain ⟨p, q, h1, h2, rfl⟩ := h
    have ht := hts t (by simp)
    exact ⟨p, q, WideElems.Trod_stays hl ht.1 ht.2 h1 (fun x hx => hb.same (hlt x (by simp [hx]))) (fun x hx => hsp x (by simp [hx])),
      all_stays hl hb (fun t ht => hts t (by simp [ht])) h2 (fun x hx => hlt x (by simp [hx])) (fun x hx => hsp x (by simp [hx])), rfl⟩

theorem add_nil (g off j : Nat) : (⟨g, off, none⟩ : Addr).add j = ⟨g, off + j, none⟩ := by unfold Addr.add; split <;> simp_all
theorem choose_list {α : Type} {R : Nat → α → Prop} : ∀ n, (∀ i, i < n → ∃ x, R i x) → ∃ L : List α, L.length = n ∧ ∀ i x, L[i]? = some x → R i x
  | 0, _ => ⟨[], rfl, fun i x h => by simp at h⟩
  | n + 1, h => by
    obtain ⟨L, h1, h2⟩ := choose_list n fun i hi => h i (by omega)
    obtain ⟨x, hx⟩ := h n (by omega)
    refine ⟨L ++ [x], by simp [h1], fun i y hy => ?_⟩
    by_cases hi : i < n
    · rw [List.getElem?_append_left (by omega)] at hy; exact h2 i y hy
    · rw [List.getElem?_append_right (by omega)] at hy
      have : i - L.length < 1 := by
        have := (List.getElem?_eq_some_iff.1 hy).1
        simpa using this
      have hin : i = n := by omega
      subst hin
      rw [h1, Nat.sub_self] at hy
      simp at hy
      subst hy; exact hx

theorem flatten_at {α : Type} {C : Nat} : ∀ {L : List (List α)} (_ : ∀ cs ∈ L, cs.length = C) {j : Nat} {u : α}, L.flatten[j]? = some u → ∃ i k cs, j = i * C + k ∧ k < C ∧ L[i]? = some cs ∧ cs[k]? = some u
  | [], _, j, u, h => by simp at h
  | c :: L, hL, j, u, h => by
    have hc := hL c (by simp)
    rw [List.flatten_cons] at h
    by_cases hj : j < C
    · rw [List.getElem?_append_left (by omega)] at h
      exact ⟨0, j, c, by omega, hj, rfl, h⟩
    · rw [List.getElem?_append_right (by omega)] at h
      obtain ⟨i, k, cs, h1, h2, h3, h4⟩ := flatten_at (fun cs hcs => hL cs (by simp [hcs])) h
      refine ⟨i + 1, k, cs, ?_, h2, h3, h4⟩
      rw [Nat.add_mul]; omega
theorem flatten_len {α : Type} {C : Nat} : ∀ {L : List (List α)} (_ : ∀ cs ∈ L, cs.length = C), L.flatten.length = L.length * C
  | [], _ => by simp
  | c :: L, hL => by
    rw [List.flatten_cons, List.length_append, hL c (by simp), flatten_len (fun cs hcs => hL cs (by simp [hcs])), List.length_cons, Nat.add_mul]; omega

/-- A slice that reads as data: the cells of its elements, each readable. -/
theorem open_rows {W : World} {r : Reach} {b0 : Nat} {t e : TypeId} {C : Nat} {v : Value} {d : DataW H} {ps : List MemPlace} (ht : P.underlying t = some (.slice e)) (hC : P.cellsOf e = C) (hC0 : 0 < C)
    (hval : Value.okWide P W r b0 t v) (h : DataW.Trod enc P W 0 (fun _ => true) true t v d ps) :
    ∃ L : List (List Value), (∀ cs ∈ L, cs.length = C ∧ ∃ n x, DataW.trod enc P W 0 (fun _ => true) true n e cs = some x) ∧ ReadRow W C v L.length L.flatten := by
  obtain ⟨fuel, h⟩ := h
  obtain ⟨a0, n0, c0, rfl⟩ := okWide_slice ht hval
  have hcs : (Value.slice a0 n0 c0).cells.toList = [.slice a0 n0 c0] := by simp [Value.cells]
  rw [hcs] at h
  rcases open_slice ht h with ⟨h0, _⟩ | ⟨a, len, cap, m, n, D, Pl, hs, hb, hl, hm, hmm, hx, hi⟩
  · simp only [List.cons.injEq, and_true] at h0
    cases h0
    exact ⟨[], by simp, by simp, none, 0, rfl, Nat.le_refl _, by unfold maxLen; omega, .inl rfl⟩
  · simp only [List.cons.injEq, and_true] at hs
    cases hs
    rw [if_pos rfl] at hmm
    obtain ⟨L, hL1, hL2⟩ := choose_list n0 fun i hil => hi i (by omega)
    have hlen : ∀ cs ∈ L, cs.length = C := by
      intro cs hcs
      obtain ⟨i, hi1⟩ := List.mem_iff_getElem?.1 hcs
      obtain ⟨h1, _⟩ := hL2 i cs hi1
      rw [← hC]
      exact (World.cells?_some h1).2.1
    refine ⟨L, fun cs hcs => ⟨hlen cs hcs, ?_⟩, ?_⟩
    · obtain ⟨i, hi1⟩ := List.mem_iff_getElem?.1 hcs
      exact ⟨n, _, (hL2 i cs hi1).2⟩
    · refine ⟨flatten_len hlen, some a, c0, by rw [hL1], by omega, hm, ?_⟩
      by_cases h0 : L.length = 0
      · exact .inl h0
      · right
        have hcell : ∀ j u, L.flatten[j]? = some u → W.cell? (a.add j) = some u := by
          intro j u hu
          obtain ⟨i, k, cs, hj, hk, hi1, hu⟩ := flatten_at hlen hu
          obtain ⟨h1, _⟩ := hL2 i cs hi1
          obtain ⟨_, h3, h4⟩ := World.cells?_some h1
          rw [hC] at h3 h4
          have := h4 k hk
          rw [hu, Go.Deep.add_add] at this
          rw [hj]; exact this
        obtain ⟨u0, hu0⟩ : ∃ u, L.flatten[0]? = some u := ⟨_, List.getElem?_eq_getElem (by
          rw [flatten_len hlen]
          exact Nat.mul_pos (by omega) hC0)⟩
        have c00 := hcell 0 u0 hu0
        obtain ⟨g, off, spot⟩ := a
        cases spot with
        | some s =>
          exfalso
          unfold World.cell? Addr.add at c00
          revert c00
          split
          · split <;> simp_all
          · simp
        | none =>
          refine ⟨g, off, rfl, ?_, fun j u hu => ?_⟩
          · rw [add_nil] at c00
            rcases Nat.lt_or_ge g W.heap.size with h' | h'
            · exact h'
            · unfold World.cell? at c00
              simp [Array.getElem?_eq_none h'] at c00
          · have := hcell j u hu
            rw [add_nil] at this
            exact this
end
end Go.Proofs.YtedddaojcknemaaDoor
