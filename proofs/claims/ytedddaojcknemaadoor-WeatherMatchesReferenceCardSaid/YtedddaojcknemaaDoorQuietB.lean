/- A region that draws its order, that only reads, and whose callees lay new memory alone: what a walk of it needs; equality of conditions and of spells. -/
import Derived.Test.YtedddaojcknemaaDoorAllD
import Derived.Lib.QuietBelow
import Derived.BigQuiet
import Derived.DeepKeys
import Derived.WalkSmall
namespace Go.Proofs.YtedddaojcknemaaDoor
open Go.RowKit Go.Sort

/-- A callee's contract that ends in 'Below', in every world of the class. -/
theorem quietB {f : FuncId} {args : Array Value} {w : World} {v : Value} (h : ∀ W, Below w.heap.size w W → Calls Tryd.prog f args W fun e w' => e = .returned v ∧ Below W.heap.size W w') (d : Nat) (os : Array Obj) :
    Calls Tryd.prog f args (grow (redrawn w d) os) fun e w'' => e = .returned v ∧ ∃ p : Regrown, w'' = grow (redrawn w p.d) p.os := Calls.regrown_of (h _ (below_regrown w d os))

theorem eq_arr4 (d : Nat) (a0 a1 a2 a3 b0 b1 b2 b3 : Int) (w : World) : (Op.equalIn (d + 1 + 1) 24 (.agg #[.int .i64 a0, .int .i64 a1, .int .i64 a2, .int .i64 a3]) (.agg #[.int .i64 b0, .int .i64 b1, .int .i64 b2, .int .i64 b3])).run Tryd.prog w = .ok (a0 == b0 && (a1 == b1 && (a2 == b2 && a3 == b3))) w := by
  have p0 : ∀ (x0 x1 x2 x3 : Value) (w : World), (part 3 #[x0, x1, x2, x3] 0).run Tryd.prog w = .ok x0 w := fun _ _ _ _ _ => by kernel_rfl
  have p1 : ∀ (x0 x1 x2 x3 : Value) (w : World), (part 3 #[x0, x1, x2, x3] 1).run Tryd.prog w = .ok x1 w := fun _ _ _ _ _ => by kernel_rfl
  have p2 : ∀ (x0 x1 x2 x3 : Value) (w : World), (part 3 #[x0, x1, x2, x3] 2).run Tryd.prog w = .ok x2 w := fun _ _ _ _ _ => by kernel_rfl
  have p3 : ∀ (x0 x1 x2 x3 : Value) (w : World), (part 3 #[x0, x1, x2, x3] 3).run Tryd.prog w = .ok x3 w := fun _ _ _ _ _ => by kernel_rfl
  obtain ⟨i, hi, _⟩ := Option.map_eq_some_iff.1 (show (Tryd.prog.info? 3).map (·.size) = some 1 by kernel_rfl)
  rw [run_equalIn_array w (d + 1) _ _ Tryd.underlying24 hi]
  have hc : Tryd.prog.cellsOf 3 = 1 := by kernel_rfl
  rw [hc, show List.range 4 = [0, 1, 2, 3] from rfl]
  have he : ∀ a b : Int, (Op.equalIn (d + 1) 3 (.int .i64 a) (.int .i64 b)).run Tryd.prog w = .ok (a == b) w := fun a b => run_equalIn_int w d _ _ _ a b Tryd.underlying3
  simp only [Op.eqItems, Sem.run_bind, Nat.mul_one, p0, p1, p2, p3, Result.andThen_ok, he, Sem.run_ite, Sem.run_pure]
  cases (a0 == b0) <;> cases (a1 == b1) <;> cases (a2 == b2) <;> cases (a3 == b3) <;> rfl

theorem list3 {α β : Type} {f : α → β} {l : List α} {x y z : β} (h : l.map f = [x, y, z]) : ∃ a b c, l = [a, b, c] ∧ f a = x ∧ f b = y ∧ f c = z := by
  cases l with
  | nil => cases h
  | cons a l =>
    cases l with
    | nil => cases h
    | cons b l =>
      cases l with
      | nil => cases h
      | cons c l =>
        cases l with
        | nil =>
          simp only [List.map_cons, List.map_nil, List.cons.injEq, and_true] at h
          exact ⟨a, b, c, rfl, h⟩
        | cons d l => simp at h
/-- Conditions against conditions. -/
theorem eq_cd (c d : Cd) (w : World) : (Op.equalIn 10000 26 (cdV c) (cdV d)).run Tryd.prog w = .ok (decide (c = d)) w := by
  obtain ⟨a0, a1, a2, a3, a4, a5⟩ := c
  obtain ⟨b0, b1, b2, b3, b4, b5⟩ := d
  unfold cdV cdCells
  rw [run_equalIn_struct w 9999 _ _ _ (by kernel_rfl) (by kernel_rfl)]
  have hf : (Tryd.prog.fieldsOf 26).toList.map (fun f => (f.name, f.type, f.offset)) = [("Clear", 24, 0), ("Seeing", 3, 4), ("Open", 4, 5)] := by kernel_rfl
  generalize (Tryd.prog.fieldsOf 26).toList = fs at hf
  obtain ⟨f0, f1, f2, rfl, h0, h1, h2⟩ := list3 hf
  simp only [Prod.mk.injEq] at h0 h1 h2
  obtain ⟨n0, t0, o0⟩ := h0
  obtain ⟨n1, t1, o1⟩ := h1
  obtain ⟨n2, t2, o2⟩ := h2
  have p0 : ∀ (x0 x1 x2 x3 x4 : Int) (b : Bool) (w : World), (part 24 #[.int .i64 x0, .int .i64 x1, .int .i64 x2, .int .i64 x3, .int .i64 x4, .bool b] 0).run Tryd.prog w = .ok (.agg #[.int .i64 x0, .int .i64 x1, .int .i64 x2, .int .i64 x3]) w := fun _ _ _ _ _ _ _ => by kernel_rfl
  have p1 : ∀ (x0 x1 x2 x3 x4 x5 : Value) (w : World), (part 3 #[x0, x1, x2, x3, x4, x5] 4).run Tryd.prog w = .ok x4 w := fun _ _ _ _ _ _ _ => by kernel_rfl
  have p2 : ∀ (x0 x1 x2 x3 x4 x5 : Value) (w : World), (part 4 #[x0, x1, x2, x3, x4, x5] 5).run Tryd.prog w = .ok x5 w := fun _ _ _ _ _ _ _ => by kernel_rfl
  have e0 := eq_arr4 9997 a0 a1 a2 a3 b0 b1 b2 b3 w
  have e1 := run_equalIn_int (P := Tryd.prog) w 9998 3 .i64 .i64 a4 b4 Tryd.underlying3
  have e2 := run_equalIn_bool (P := Tryd.prog) w 9998 4 a5 b5 Tryd.underlying4
  have d0 : ("Clear" : String) ≠ "_" := by decide
  have d1 : ("Seeing" : String) ≠ "_" := by decide
  have d2 : ("Open" : String) ≠ "_" := by decide
  simp only [Op.eqFields, n0, t0, o0, n1, t1, o1, n2, t2, o2, if_pos d0, if_pos d1, if_pos d2, Sem.run_bind, p0, p1, p2, Result.andThen_ok, e0, e1, e2, Sem.run_ite, Sem.run_pure]
  have hd : decide ((⟨a0, a1, a2, a3, a4, a5⟩ : Cd) = ⟨b0, b1, b2, b3, b4, b5⟩) = ((a0 == b0 && (a1 == b1 && (a2 == b2 && a3 == b3))) && (a4 == b4 && a5 == b5)) := by
    rw [Bool.eq_iff_iff]; simp [and_assoc]
  rw [hd]
  cases (a0 == b0 && (a1 == b1 && (a2 == b2 && a3 == b3))) <;> cases (a4 == b4) <;> cases (a5 == b5) <;> rfl

theorem list5 {α β : Type} {f : α → β} {l : List α} {x y z u v : β} (h : l.map f = [x, y, z, u, v]) : ∃ a b c d e, l = [a, b, c, d, e] ∧ f a = x ∧ f b = y ∧ f c = z ∧ f d = u ∧ f e = v := by
  cases l with
  | nil => cases h
  | cons a l =>
    simp only [List.map_cons, List.cons.injEq] at h
    cases l with
    | nil => simp at h
    | cons b l =>
      simp only [List.map_cons, List.cons.injEq] at h
      obtain ⟨c, d, e, rfl, h1, h2, h3⟩ := list3 h.2.2
      exact ⟨a, b, c, d, e, rfl, h.1, h.2.1, h1, h2, h3⟩
/-- A spell against a spell. -/
theorem eq_sp (c d : Sp) (w : World) : (Op.equalIn 10000 32 (spV c) (spV d)).run Tryd.prog w = .ok (decide (c = d)) w := by
  obtain ⟨a0, a1, a2, a3, a4⟩ := c
  obtain ⟨b0, b1, b2, b3, b4⟩ := d
  unfold spV
  rw [run_equalIn_struct w 9999 _ _ _ (by kernel_rfl) (by kernel_rfl)]
  have hf : (Tryd.prog.fieldsOf 32).toList.map (fun f => (f.name, f.type, f.offset)) = [("Kind", 3, 0), ("Quarter", 3, 1), ("N", 3, 2), ("From", 3, 3), ("Until", 3, 4)] := by kernel_rfl
  generalize (Tryd.prog.fieldsOf 32).toList = fs at hf
  obtain ⟨f0, f1, f2, f3, f4, rfl, h0, h1, h2, h3, h4⟩ := list5 hf
  simp only [Prod.mk.injEq] at h0 h1 h2 h3 h4
  obtain ⟨n0, t0, o0⟩ := h0
  obtain ⟨n1, t1, o1⟩ := h1
  obtain ⟨n2, t2, o2⟩ := h2
  obtain ⟨n3, t3, o3⟩ := h3
  obtain ⟨n4, t4, o4⟩ := h4
  have p0 : ∀ (x0 x1 x2 x3 x4 : Value) (w : World), (part 3 #[x0, x1, x2, x3, x4] 0).run Tryd.prog w = .ok x0 w := fun _ _ _ _ _ _ => by kernel_rfl
  have p1 : ∀ (x0 x1 x2 x3 x4 : Value) (w : World), (part 3 #[x0, x1, x2, x3, x4] 1).run Tryd.prog w = .ok x1 w := fun _ _ _ _ _ _ => by kernel_rfl
  have p2 : ∀ (x0 x1 x2 x3 x4 : Value) (w : World), (part 3 #[x0, x1, x2, x3, x4] 2).run Tryd.prog w = .ok x2 w := fun _ _ _ _ _ _ => by kernel_rfl
  have p3 : ∀ (x0 x1 x2 x3 x4 : Value) (w : World), (part 3 #[x0, x1, x2, x3, x4] 3).run Tryd.prog w = .ok x3 w := fun _ _ _ _ _ _ => by kernel_rfl
  have p4 : ∀ (x0 x1 x2 x3 x4 : Value) (w : World), (part 3 #[x0, x1, x2, x3, x4] 4).run Tryd.prog w = .ok x4 w := fun _ _ _ _ _ _ => by kernel_rfl
  have he : ∀ a b : Int, (Op.equalIn 9999 3 (.int .i64 a) (.int .i64 b)).run Tryd.prog w = .ok (a == b) w := fun a b => run_equalIn_int (P := Tryd.prog) w 9998 3 .i64 .i64 a b Tryd.underlying3
  have d0 : ("Kind" : String) ≠ "_" := by decide
  have d1 : ("Quarter" : String) ≠ "_" := by decide
  have d2 : ("N" : String) ≠ "_" := by decide
  have d3 : ("From" : String) ≠ "_" := by decide
  have d4 : ("Until" : String) ≠ "_" := by decide
  simp only [Op.eqFields, n0, t0, o0, n1, t1, o1, n2, t2, o2, n3, t3, o3, n4, t4, o4, if_pos d0, if_pos d1, if_pos d2, if_pos d3, if_pos d4, Sem.run_bind, p0, p1, p2, p3, p4, Result.andThen_ok, he, Sem.run_ite, Sem.run_pure]
  have hd : decide ((⟨a0, a1, a2, a3, a4⟩ : Sp) = ⟨b0, b1, b2, b3, b4⟩) = (a0 == b0 && (a1 == b1 && (a2 == b2 && (a3 == b3 && a4 == b4)))) := by
    rw [Bool.eq_iff_iff]; simp
  rw [hd]
  cases (a0 == b0) <;> cases (a1 == b1) <;> cases (a2 == b2) <;> cases (a3 == b3) <;> cases (a4 == b4) <;> rfl
theorem neq_sp (c d : Sp) (w : World) : (binOp .neq 32 (spV c) (spV d)).run Tryd.prog w = .ok (.bool (!decide (c = d))) w := by
  have := run_neq_struct (P := Tryd.prog) w 32 #[.int .i64 c.k, .int .i64 c.q, .int .i64 c.n, .int .i64 c.f, .int .i64 c.u] #[.int .i64 d.k, .int .i64 d.q, .int .i64 d.n, .int .i64 d.f, .int .i64 d.u]
  unfold spV
  rw [this]
  have h := eq_sp c d w
  unfold spV at h
  rw [h]; rfl
theorem neq_cd (c d : Cd) (w : World) : (binOp .neq 26 (cdV c) (cdV d)).run Tryd.prog w = .ok (.bool (!decide (c = d))) w := by
  have := run_neq_struct (P := Tryd.prog) w 26 (cdCells c).toArray (cdCells d).toArray
  unfold cdV
  rw [this]
  have h := eq_cd c d w
  unfold cdV at h
  rw [h]; rfl
theorem eql_cd (c d : Cd) (w : World) : (binOp .eql 26 (cdV c) (cdV d)).run Tryd.prog w = .ok (.bool (decide (c = d))) w := by
  have := run_eql_struct (P := Tryd.prog) w 26 (cdCells c).toArray (cdCells d).toArray
  unfold cdV
  rw [this]
  have h := eq_cd c d w
  unfold cdV at h
  rw [h]; rfl

theorem take_eq_succ {α : Type} {a b : List α} {i : Nat} {x : α} (h : a.take i = b.take i) (ha : a[i]? = some x) (hb : b[i]? = some x) : a.take (i + 1) = b.take (i + 1) := by
  rw [List.take_add_one, List.take_add_one, h, ha, hb]
/-- Spells against spells, as the law compares them. -/
theorem same_any (la lb : List Sp) (va vb : Value) (w : World) (hA : ReadRow w 5 va la.length (spFlat la)) (hB : ReadRow w 5 vb lb.length (spFlat lb)) :
    Calls Tryd.prog 21 #[va, vb] w fun e w' => e = .returned (.bool (decide (la = lb))) ∧ Below w.heap.size w w' := by
  have HA := Lib.hid hA; have HB := Lib.hid hB
  obtain ⟨a, ca, rfl, ha1, ha2, _⟩ := hA.slice
  obtain ⟨b, cb, rfl, hb1, hb2, _⟩ := hB.slice
  clear hA hB
  unfold maxLen at ha2 hb2
  by_cases hl : la.length = lb.length
  · have hlb : ((la.length : Int) != (lb.length : Int)) = false := by simp [hl]
    have HL := Lib.hid hl; clear hl
    go_enter Tryd.func21, Tryd.ntmps21
    go_wp2_with fail
    go_loopw [5] (fun x wr => Hid (∃ i : Nat, x = .int .i64 i ∧ i ≤ la.length ∧ la.take i = lb.take i ∧ ∃ k, wr = w.drewN k)) (fun x _ => la.length - (intOf x).toNat)
    case atStart => exact Lib.hid ⟨0, rfl, Nat.zero_le _, rfl, 0, rfl⟩
    case round =>
      obtain ⟨i, rfl, hi, ht, k, rfl⟩ := hrel.out
      have HT := Lib.hid ht; clear ht hrel
      by_cases hlt : i < la.length
      · obtain ⟨x, hx⟩ : ∃ x, la[i]? = some x := ⟨_, List.getElem?_eq_getElem hlt⟩
        obtain ⟨y, hy⟩ : ∃ y, lb[i]? = some y := ⟨_, List.getElem?_eq_getElem (by have := HL.out; omega)⟩
        have hlt2 : (i : Int) < (lb.length : Int) := by have := HL.out; omega
        obtain ⟨g, off, c', hv, _, _, hg, c0, c1, c2, c3, c4⟩ := readSp5 HA.out i x hx
        obtain ⟨g', off', c'', hv', _, _, hg', d0, d1, d2, d3, d4⟩ := readSp5 HB.out i y hy
        cases hv; cases hv'
        have HX := Lib.hid (And.intro hx hy); clear hx hy
        have hq := neq_sp x y
        unfold spV at hq
        obtain ⟨B, hB⟩ : ∃ B, B = decide (x = y) := ⟨_, rfl⟩
        rw [← hB] at hq
        have HBD := Lib.hid hB; clear hB
        go_wp2_with fail
        go_quiet (fail)
        cases B
        · go_wp2_with fail
          go_ret
          refine ⟨ret_bool ?_, below_drewN (below_drewN (Below.refl _ _) k) nq⟩
          symm
          rw [decide_eq_false_iff_not]
          rintro rfl
          have h1 := of_decide_eq_false HBD.out.symm
          have h2 := HX.out.1.symm.trans HX.out.2
          exact h1 (Option.some.inj h2)
        · have HX2 := Lib.hid (take_eq_succ HT.out HX.out.1 (by rw [HX.out.2, of_decide_eq_true HBD.out.symm]))
          go_wp2_with fail
          go_roundw
          case rel => exact Lib.hid ⟨i + 1, by simp, by omega, HX2.out, k + nq, rfl⟩
          case measure => simp [intOf]; omega
      · go_wp2_with fail
        go_ret
        refine ⟨ret_bool ?_, below_drewN (Below.refl _ _) k⟩
        symm
        rw [decide_eq_true_iff]
        have h1 := HT.out
        rw [List.take_of_length_le (by omega), List.take_of_length_le (by have := HL.out; omega)] at h1
        exact h1
  · have hlb : ((la.length : Int) != (lb.length : Int)) = true := by simp; omega
    have HL := Lib.hid hl; clear hl
    go_enter Tryd.func21, Tryd.ntmps21
    go_wp2_with fail
    go_ret
    refine ⟨ret_bool ?_, Below.refl _ _⟩
    symm
    rw [decide_eq_false_iff_not]
    rintro rfl
    exact HL.out rfl
end Go.Proofs.YtedddaojcknemaaDoor
