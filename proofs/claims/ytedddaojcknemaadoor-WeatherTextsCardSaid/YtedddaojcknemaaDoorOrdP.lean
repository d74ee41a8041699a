/- The conditions of a moment: neighbours that are never in force together can be exchanged; moments at which the same spells are in force. No program in sight. -/
import Derived.Test.YtedddaojcknemaaDoorAllD
namespace Go.Proofs.YtedddaojcknemaaDoor

theorem fold_same (m n : Int) : ∀ (l : List Sp) (c : Cd), (∀ s ∈ l, inF s m = inF s n) → l.foldl (atStep m) c = l.foldl (atStep n) c
  | [], _, _ => rfl
  | s :: l, c, h => by
    have hs : atStep m c s = atStep n c s := by unfold atStep; rw [h s (by simp)]
    show l.foldl (atStep m) (atStep m c s) = l.foldl (atStep n) (atStep n c s)
    rw [hs]; exact fold_same m n l _ fun x hx => h x (by simp [hx])
theorem atL_same {l : List Sp} {m n : Int} (h : ∀ s ∈ l, inF s m = inF s n) : atL l m = atL l n := fold_same m n l _ h

/-- Two neighbours exchanged. -/
def swapL (l : List Sp) (k : Nat) (x y : Sp) : List Sp := (l.set k y).set (k + 1) x
theorem swap_split {l : List Sp} {k : Nat} {x y : Sp} (h1 : l[k]? = some x) (h2 : l[k + 1]? = some y) : ∃ A B, l = A ++ x :: y :: B ∧ swapL l k x y = A ++ y :: x :: B := by
  induction l generalizing k with
  | nil => simp at h1
  | cons a l ih =>
    cases k with
    | zero =>
      simp at h1 h2
      subst h1
      cases l with
      | nil => simp at h2
      | cons b l => simp at h2; subst h2; exact ⟨[], l, rfl, rfl⟩
    | succ k =>
      obtain ⟨A, B, e1, e2⟩ := ih (k := k) (by simpa using h1) (by simpa using h2)
      refine ⟨a :: A, B, by rw [e1]; rfl, ?_⟩
      show a :: swapL l k x y = _
      rw [e2]; rfl
theorem atStep_comm {m : Int} {x y : Sp} (h : (inF x m && inF y m) = false) (c : Cd) : atStep m (atStep m c x) y = atStep m (atStep m c y) x := by
  cases hx : inF x m
  · have e : ∀ c, atStep m c x = c := fun c => by unfold atStep; rw [hx]; rfl
    rw [e, e]
  · have hy : inF y m = false := by simpa [hx] using h
    have e : ∀ c, atStep m c y = c := fun c => by unfold atStep; rw [hy]; rfl
    rw [e, e]
theorem never_both {x y : Sp} (h : ¬ (x.f ≤ y.u ∧ y.f ≤ x.u)) (m : Int) : (inF x m && inF y m) = false := by
  unfold inF
  by_cases h1 : x.f ≤ m ∧ m ≤ x.u
  · rw [decide_eq_true h1, decide_eq_false (by omega)]; rfl
  · rw [decide_eq_false h1]; rfl
theorem atL_swap {l : List Sp} {k : Nat} {x y : Sp} (h1 : l[k]? = some x) (h2 : l[k + 1]? = some y) (h : ¬ (x.f ≤ y.u ∧ y.f ≤ x.u)) (m : Int) : atL (swapL l k x y) m = atL l m := by
  obtain ⟨A, B, e1, e2⟩ := swap_split h1 h2
  rw [e2, e1]
  unfold atL
  rw [List.foldl_append, List.foldl_append]
  simp only [List.foldl_cons]
  rw [atStep_comm (never_both h m)]
theorem allB_swap {l : List Sp} {k : Nat} {x y : Sp} (h1 : l[k]? = some x) (h2 : l[k + 1]? = some y) : allB (swapL l k x y) = allB l := by
  obtain ⟨A, B, e1, e2⟩ := swap_split h1 h2
  rw [e2, e1]
  unfold allB
  simp only [List.length_append, List.length_cons, List.all_append, List.all_cons]
  cases formedB x <;> cases formedB y <;> simp
theorem swap_len (l : List Sp) (k : Nat) (x y : Sp) : (swapL l k x y).length = l.length := by unfold swapL; simp

/-- Whether the same ones of the first i spells are in force at both moments. -/
def eqB (l : List Sp) (m n : Int) (i : Nat) : Bool := (l.take i).all fun s => inF s m == inF s n
theorem eqB_zero (l : List Sp) (m n : Int) : eqB l m n 0 = true := rfl
theorem eqB_succ {l : List Sp} {m n : Int} {i : Nat} {s : Sp} (h : l[i]? = some s) : eqB l m n (i + 1) = (eqB l m n i && (inF s m == inF s n)) := by
  unfold eqB
  rw [List.take_add_one, h]
  simp
theorem eqB_all {l : List Sp} {m n : Int} (h : eqB l m n l.length = true) : atL l m = atL l n := by
  unfold eqB at h
  rw [List.take_length, List.all_eq_true] at h
  exact atL_same fun s hs => by simpa using h s hs
end Go.Proofs.YtedddaojcknemaaDoor
