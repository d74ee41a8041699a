/- append of a readable slice onto one of the call's own: as a step of a walk, and of a region that draws its order. General words, no program. -/
import Derived.Test.YtedddaojcknemaaDoorOpen
import Derived.Laws.OwnMore
import Derived.Laws.AppendOwn
import Derived.Laws.AppendOwnNone
import Derived.Deep.RegionHeld3
import Derived.Deep.RegionLaw
import Derived.Test.YtedddaojcknemaaDoorWeaB
import Derived.Test.YtedddaojcknemaaDoorAllA
import Derived.Test.YtedddaojcknemaaDoorTxtA
import Derived.Lib.LaidTab
import Derived.Stop.LaidErr
import Derived.LaidSub
import Derived.Stop.Joined
import Derived.LaidMore
namespace Go.Proofs.YtedddaojcknemaaDoor
open Go.RowKit

section
variable {P : Program} {w : World} {o : Oper} {a : Act}
theorem ownsRow_nil_add {base : Nat} {e : TypeId} {size : Nat} {v : Value} {n : Nat} {xs : List Value} (h : w.ownsRow base e size v n xs) : w.ownsRow base e size v (n + 0) (xs ++ []) := by simpa using h

/-- What a slice's value looks like. -/
def SliceV (v : Value) : Prop := v = .slice none 0 0 ∨ ∃ ad m c, v = .slice (some ad) m c
theorem wp_append_read {K : Act → World → Prop} {Q : Exit → Act → World → Prop} (s x : Operand) (t : TypeId)
    (hop : o.op = .call { callee := .builtin .append, args := #[s, x], argTypes := #[t, t] })
    (base : Nat) (e : TypeId) (i : TypeInfo) (z : Value) (size bytes : Nat) (ht : P.underlying t = some (.slice e)) (hi : P.info? e = some i) (hz : i.zero = some z)
    (hsize : i.size = size) (hby : i.bytes = bytes) (hzs : z.cells.size = size) (hsz : 0 < size)
    (v : Value) (n : Nat) (xs : List Value) (hs : a.eval s = v) (hown : w.ownsRow base e size v n xs)
    (vx : Value) (m : Nat) (news : List Value) (hx : a.eval x = vx) (hread : ReadRow w size vx m news) (hv : SliceV vx) (h1 : ∀ u ∈ news, u.oneCell' = true)
    (h63 : n + m ≤ maxLen) (hbytes : (n + m) * bytes ≤ 140737488355328) (hbase : base ≤ w.heap.size)
    (hK : ∀ v' w', w'.ownsRow base e size v' (n + m) (xs ++ news) → w.grownBy w' v.ownBlock → K (a.put o.dst v') w') : o.wp P a w K Q := by
  have hread' := hread
  obtain ⟨hl, ad, c, rfl, hmc, hcm, hc⟩ := hread
  rcases hv with hv | ⟨ad', m', c', hv⟩
  · cases hv
    obtain rfl : news = [] := List.eq_nil_of_length_eq_zero (by simpa using hl)
    have hrun := run_append_owned_none (P := P) (w := w) base t o.type e i size ht hi v n xs hown
    unfold Oper.wp
    simp [execOp, hop, resolve, invoke, builtin, hs, hx, hrun, Result.andThen]
    exact hK _ _ (ownsRow_nil_add hown) (World.grownBy.refl _ _)
  · cases hv
    have hnews : ∀ j u, news[j]? = some u → w.cell? (ad'.add j) = some u := by
      intro j u hu
      rcases hc with h0 | ⟨g, off, he, _, hc⟩
      · subst h0
        rw [List.eq_nil_of_length_eq_zero (l := news) (by simpa using hl)] at hu
        simp at hu
      · cases he
        rw [add_nil]; exact hc j u hu
    obtain ⟨v', w', hrun, r1, r2, _⟩ := run_append_own (P := P) w base t o.type e i z size bytes ht hi hz hsize hby hzs hsz v n xs hown ad' m c news hl hnews h1 h63 hbytes hbase
    unfold Oper.wp
    simp [execOp, hop, resolve, invoke, builtin, hs, hx, hrun, Result.andThen]
    exact hK _ _ r1 r2
theorem step_append_read {ops : Array Oper} {K : Act → World → Prop} {Q : Exit → Act → World → Prop} {E : Prop} (hg : o.guard = none) (s x : Operand) (t : TypeId)
    (hop : o.op = .call { callee := .builtin .append, args := #[s, x], argTypes := #[t, t] })
    (base : Nat) (e : TypeId) (i : TypeInfo) (z : Value) (size bytes : Nat) (ht : P.underlying t = some (.slice e)) (hi : P.info? e = some i) (hz : i.zero = some z)
    (hsize : i.size = size) (hby : i.bytes = bytes) (hzs : z.cells.size = size) (hsz : 0 < size)
    (v : Value) (n : Nat) (xs : List Value) (hs : a.eval s = v) (hown : w.ownsRow base e size v n xs)
    (vx : Value) (m : Nat) (news : List Value) (hx : a.eval x = vx) (hread : ReadRow w size vx m news) (hv : SliceV vx) (h1 : ∀ u ∈ news, u.oneCell' = true)
    (h63 : n + m ≤ maxLen) (hbytes : (n + m) * bytes ≤ 140737488355328) (hbase : base ≤ w.heap.size)
    (hK : ∀ v' w', w'.ownsRow base e size v' (n + m) (xs ++ news) → w.grownBy w' v.ownBlock → K (a.put o.dst v') w') :
    if Region.wanted o (yielded ops a.tmps) = true then Oper.wp P o a w K Q else E := by
  have hw : Region.wanted o (yielded ops a.tmps) = true := by simp [Region.wanted, hg]
  rw [if_pos hw]
  exact wp_append_read s x t hop base e i z size bytes ht hi hz hsize hby hzs hsz v n xs hs hown vx m news hx hread hv h1 h63 hbytes hbase hK
theorem wpList_append_read {ops : Array Oper} {rest : List Oper} {Q : Exit → Act → World → Prop} (hg : o.guard = none) (s x : Operand) (t : TypeId)
    (hop : o.op = .call { callee := .builtin .append, args := #[s, x], argTypes := #[t, t] })
    (base : Nat) (e : TypeId) (i : TypeInfo) (z : Value) (size bytes : Nat) (ht : P.underlying t = some (.slice e)) (hi : P.info? e = some i) (hz : i.zero = some z)
    (hsize : i.size = size) (hby : i.bytes = bytes) (hzs : z.cells.size = size) (hsz : 0 < size)
    (v : Value) (n : Nat) (xs : List Value) (hs : a.eval s = v) (hown : w.ownsRow base e size v n xs)
    (vx : Value) (m : Nat) (news : List Value) (hx : a.eval x = vx) (hread : ReadRow w size vx m news) (hv : SliceV vx) (h1 : ∀ u ∈ news, u.oneCell' = true)
    (h63 : n + m ≤ maxLen) (hbytes : (n + m) * bytes ≤ 140737488355328) (hbase : base ≤ w.heap.size)
    (hK : ∀ v' w', w'.ownsRow base e size v' (n + m) (xs ++ news) → w.grownBy w' v.ownBlock → wpList P ops Q rest (a.put o.dst v') w') : wpList P ops Q (o :: rest) a w :=
  wpList_plain hg fun _ hK' => wp_append_read s x t hop base e i z size bytes ht hi hz hsize hby hzs hsz v n xs hs hown vx m news hx hread hv h1 h63 hbytes hbase fun v' w' h2 h3 => hK' _ _ (hK v' w' h2 h3)
end
end Go.Proofs.YtedddaojcknemaaDoor

namespace Go.Proofs.YtedddaojcknemaaDoor
open Go.ChangeShapes Go.WideShapes Go.RowKit Go.Deep

section
variable {H : Type} {enc : TypeId × Value → H}
theorem int_of {W : World} {n : Nat} {c : Value} {x : DataW H × List MemPlace} (h : DataW.trod enc Tryd.prog W 0 (fun _ => true) true n 3 [c] = some x) : ∃ z, c = .int .i64 z := by
  obtain ⟨z, hz, _⟩ := DataW.trod_int Tryd.underlying3 h
  simp at hz
  exact ⟨z, hz⟩
set_option maxRecDepth 100000 in
theorem spell_of {W : World} {n : Nat} {cs : List Value} {x : DataW H × List MemPlace} (hl : cs.length = 5) (h : DataW.trod enc Tryd.prog W 0 (fun _ => true) true n 32 cs = some x) : ∃ sp, cs = spCells sp := by
  obtain ⟨xs, n', _, _, _, hx, hf⟩ := DataW.trod_struct Tryd.underlying32 h
  have hc : Tryd.prog.cellsOf 3 = 1 := by kernel_rfl
  match cs, hl with
  | [c0, c1, c2, c3, c4], _ =>
    match xs, hx with
    | [y0, y1, y2, y3, y4], _ =>
      have f0 : DataW.trod enc Tryd.prog W 0 (fun _ => true) true n' 3 (([c0, c1, c2, c3, c4].drop 0).take (Tryd.prog.cellsOf 3)) = some y0 := hf 0 _ rfl
      have f1 : DataW.trod enc Tryd.prog W 0 (fun _ => true) true n' 3 (([c0, c1, c2, c3, c4].drop 1).take (Tryd.prog.cellsOf 3)) = some y1 := hf 1 _ rfl
      have f2 : DataW.trod enc Tryd.prog W 0 (fun _ => true) true n' 3 (([c0, c1, c2, c3, c4].drop 2).take (Tryd.prog.cellsOf 3)) = some y2 := hf 2 _ rfl
      have f3 : DataW.trod enc Tryd.prog W 0 (fun _ => true) true n' 3 (([c0, c1, c2, c3, c4].drop 3).take (Tryd.prog.cellsOf 3)) = some y3 := hf 3 _ rfl
      have f4 : DataW.trod enc Tryd.prog W 0 (fun _ => true) true n' 3 (([c0, c1, c2, c3, c4].drop 4).take (Tryd.prog.cellsOf 3)) = some y4 := hf 4 _ rfl
      rw [hc] at f0 f1 f2 f3 f4
      obtain ⟨z0, rfl⟩ := int_of f0
      obtain ⟨z1, rfl⟩ := int_of f1
      obtain ⟨z2, rfl⟩ := int_of f2
      obtain ⟨z3, rfl⟩ := int_of f3
      obtain ⟨z4, rfl⟩ := int_of f4
      exact ⟨⟨z0, z1, z2, z3, z4⟩, rfl⟩
theorem spells_of : ∀ {L : List (List Value)}, (∀ cs ∈ L, ∃ sp, cs = spCells sp) → ∃ l : List Sp, l.length = L.length ∧ spFlat l = L.flatten
  | [], _ => ⟨[], rfl, rfl⟩
  | c :: L, h => by
    obtain ⟨sp, rfl⟩ := h c (by simp)
    obtain ⟨l, h1, h2⟩ := spells_of (L := L) fun cs hcs => h cs (by simp [hcs])
    refine ⟨sp :: l, by simp [h1], ?_⟩
    show spCells sp ++ spFlat l = _
    rw [h2, List.flatten_cons]
set_option maxRecDepth 100000 in
theorem open_spells {W : World} {r : Reach} {b0 : Nat} {v : Value} {d : DataW H} {ps : List MemPlace} (hval : Value.okWide Tryd.prog W r b0 22 v) (h : DataW.Trod enc Tryd.prog W 0 (fun _ => true) true 22 v d ps) :
    ∃ l : List Sp, ReadRow W 5 v l.length (spFlat l) := by
  obtain ⟨L, h1, h2⟩ := open_rows Tryd.underlying22 (show Tryd.prog.cellsOf 32 = 5 by kernel_rfl) (by decide) hval h
  obtain ⟨l, h3, h4⟩ := spells_of (L := L) fun cs hcs => by
    obtain ⟨hl, n, x, hx⟩ := h1 cs hcs
    exact spell_of hl hx
  exact ⟨l, by rw [h3, h4]; exact h2⟩
end
end Go.Proofs.YtedddaojcknemaaDoor

namespace Go.Proofs.YtedddaojcknemaaDoor
open Go.ChangeShapes Go.WideShapes Go.RowKit Go.Deep

section
variable {H : Type} {enc : TypeId × Value → H}
theorem open_sliceV {P : Program} {W : World} {r : Reach} {b0 : Nat} {t e : TypeId} {v : Value} {d : DataW H} {ps : List MemPlace} (ht : P.underlying t = some (.slice e)) (hval : Value.okWide P W r b0 t v) (h : DataW.Trod enc P W 0 (fun _ => true) true t v d ps) : SliceV v := by
  obtain ⟨fuel, h⟩ := h
  obtain ⟨a0, n0, c0, rfl⟩ := okWide_slice ht hval
  have hcs : (Value.slice a0 n0 c0).cells.toList = [.slice a0 n0 c0] := by simp [Value.cells]
  rw [hcs] at h
  rcases open_slice ht h with ⟨h0, _⟩ | ⟨a, len, cap, m, n, D, Pl, hs, _⟩
  · simp only [List.cons.injEq, and_true] at h0
    exact .inl h0
  · simp only [List.cons.injEq, and_true] at hs
    exact .inr ⟨a, len, cap, hs⟩
set_option maxRecDepth 100000 in
theorem open_spellsV {W : World} {r : Reach} {b0 : Nat} {v : Value} {d : DataW H} {ps : List MemPlace} (hval : Value.okWide Tryd.prog W r b0 22 v) (h : DataW.Trod enc Tryd.prog W 0 (fun _ => true) true 22 v d ps) :
    ∃ l : List Sp, ReadRow W 5 v l.length (spFlat l) ∧ SliceV v := by
  obtain ⟨l, hl⟩ := open_spells hval h
  exact ⟨l, hl, open_sliceV Tryd.underlying22 hval h⟩
set_option maxRecDepth 100000 in
theorem open_spell {W : World} {r : Reach} {b0 : Nat} {v : Value} {d : DataW H} {ps : List MemPlace} (hval : Value.okWide Tryd.prog W r b0 32 v) (h : DataW.Trod enc Tryd.prog W 0 (fun _ => true) true 32 v d ps) :
    ∃ s : Sp, v = spV s := by
  obtain ⟨cs, rfl, hsz⟩ := okWide_struct Tryd.underlying32 hval
  obtain ⟨fuel, h⟩ := h
  have hl : (Value.agg cs).cells.toList.length = 5 := by
    have : (Value.agg cs).cells = cs := by simp [Value.cells]
    rw [this]
    have hc : Tryd.prog.cellsOf 32 = 5 := by kernel_rfl
    rw [hc] at hsz
    simpa using hsz
  obtain ⟨s, hs⟩ := spell_of hl h
  refine ⟨s, ?_⟩
  have h2 : (Value.agg cs).cells = cs := by simp [Value.cells]
  rw [h2] at hs
  unfold spV
  congr 1
  exact Array.ext' hs
end

def laidW : List (String × DataW Unit) := Rows.weatherLastRow.laid
set_option maxRecDepth 100000 in
theorem table_of {W : World} (h : laidMetH Tryd.prog laidW W) : TabW W := by
  have h1 : laidMet Tryd.prog laidW W := h
  have h2 := (laidMet.tail (laidMet.tail h1))
  have e : (Rows.laid_internal_strconv_uint64pow10 : DataW Unit) = Lib.tabData .u64 Lib.pow10Tab := by kernel_rfl
  have h3 : laidMet Tryd.prog (("internal/strconv.uint64pow10", Lib.tabData .u64 Lib.pow10Tab) :: [("strconv.ErrRange", Rows.laid_strconv_ErrRange), ("strconv.ErrSyntax", Rows.laid_strconv_ErrSyntax)]) W := by
    rw [← e]; exact h2
  exact Lib.tabIs_of_head (g := 0) (by kernel_rfl) (t := 133) (by kernel_rfl) Tryd.underlying133 Tryd.underlying117 (by kernel_rfl) (by kernel_rfl) h3
end Go.Proofs.YtedddaojcknemaaDoor
