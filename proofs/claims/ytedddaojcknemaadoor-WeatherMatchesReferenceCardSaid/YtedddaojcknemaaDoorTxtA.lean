/- weather.Text: what its round carries. -/
import Derived.Test.YtedddaojcknemaaDoorTxtQ
import Derived.Test.YtedddaojcknemaaDoorBld
import Derived.Test.YtedddaojcknemaaDoorAllA
import Derived.Test.YtedddaojcknemaaDoorParG
import Derived.WalkSmall
import Derived.Lib.AppendIntMem
namespace Go.Proofs.YtedddaojcknemaaDoor
open Go.RowKit

def TabW (w : World) : Prop := Lib.TabIs Tryd.prog w "internal/strconv.uint64pow10" .u64 Lib.pow10Tab
theorem TabW.below {w w' : World} (h : TabW w) (hb : Below w.heap.size w w') : TabW w' := by
  unfold TabW Lib.TabIs World.var? at h ⊢
  obtain ⟨g, hg, h⟩ := Option.bind_eq_some_iff.1 h
  rw [hg, Option.bind_some]
  have hl : g < w.heap.size := by
    rcases Nat.lt_or_ge g w.heap.size with h' | h'
    · exact h'
    · simp only [Array.getElem?_eq_none h'] at h; cases h
  rw [hb.block g hl]; exact h

theorem itoa_any (n : Int) (w : World) (h0 : 0 ≤ n) (h1 : n ≤ 100000) (hT : TabW w) : Calls Tryd.prog 37 #[.int .i64 n] w fun e w' => e = .returned (.string ⟨(Lib.itoa n).toArray⟩) ∧ Below w.heap.size w w' := by
  refine (Tryd.strconv_Itoa n (by omega) (by omega) w hT).mono ?_
  rintro e w' ⟨rfl, k, os, rfl⟩
  exact ⟨rfl, Lib.below_grow _ _ (Nat.le_refl _) _ _⟩

theorem builder_below {T e : TypeId} {B b : Nat} {bs : List Value} {w w' : World} (h : Lib.IsBuilder T e B b bs w) (hb : Below w.heap.size w w') : Lib.IsBuilder T e B b bs w' := by
  have key : ∀ p, Lib.BuilderAt T e B b p bs w → Lib.BuilderAt T e B b p bs w' := by
    intro p ⟨h1, v, h2, h3, h4⟩
    exact ⟨h1, v, (hb.block b (Array.getElem?_eq_some_iff.1 h2).1).trans h2, ownsRow_below h3 hb, h4⟩
  exact h.elim (fun h => .inl (key _ h)) (fun h => .inr (key _ h))

/-- What a round of Text carries: the builder with its bytes, the spell's copy. -/
structure TS (b s : Nat) (sp : Sp) (bs : List UInt8) (w0 w : World) : Prop where
  hb : Lib.IsBuilder 77 5 w0.heap.size b (Lib.byteCells bs) w
  hs : w.heap[s]? = some (.cells (spCells sp).toArray 32 (0, 0))
  bel : Below w0.heap.size w0 w
  ne : s ≠ b

theorem TS.below {b s : Nat} {sp : Sp} {bs : List UInt8} {w0 w w' : World} (h : TS b s sp bs w0 w) (hb : Below w.heap.size w w') : TS b s sp bs w0 w' :=
  ⟨builder_below h.hb hb, (hb.block s (Array.getElem?_eq_some_iff.1 h.hs).1).trans h.hs, h.bel.trans (hb.mono h.bel.size), h.ne⟩
theorem TS.write {b s : Nat} {sp : Sp} {bs : List UInt8} {w0 w w' : World} {t : ByteArray} {e : Ending} (h : TS b s sp bs w0 w) (hp : WritePost w0.heap.size b (Lib.byteCells bs) t w e w') : TS b s sp (bs ++ t.data.toList) w0 w' := by
  obtain ⟨_, h2, h3, h4⟩ := hp
  refine ⟨.inr ?_, h4 s _ h.hs h.ne (fun cs hc => ?_), h.bel.trans h3, h.ne⟩
  · rw [Lib.byteCells_append]; exact h2
  · injection hc with _ ht _
    exact absurd ht (by decide)
theorem TS.writes {b s : Nat} {sp : Sp} {bs : List UInt8} {w0 w : World} (h : TS b s sp bs w0 w) (t : ByteArray) (hl : bs.length + t.size ≤ 100000) :
    Calls Tryd.prog 36 #[.pointer (some ⟨b, 0, none⟩), .string t] w (WritePost w0.heap.size b (Lib.byteCells bs) t w) :=
  write_any _ b _ t w h.hb (by rw [Lib.byteCells_length]; omega) h.bel.size
theorem TS.cells {b s : Nat} {sp : Sp} {bs : List UInt8} {w0 w : World} (h : TS b s sp bs w0 w) :
    w.cell? ⟨s, 0, none⟩ = some (.int .i64 sp.k) ∧ w.cell? ⟨s, 1, none⟩ = some (.int .i64 sp.q) ∧ w.cell? ⟨s, 2, none⟩ = some (.int .i64 sp.n) ∧ w.cell? ⟨s, 3, none⟩ = some (.int .i64 sp.f) ∧ w.cell? ⟨s, 4, none⟩ = some (.int .i64 sp.u) :=
  ⟨cell_of_row _ _ 0 _ _ _ h.hs, cell_of_row _ _ 1 _ _ _ h.hs, cell_of_row _ _ 2 _ _ _ h.hs, cell_of_row _ _ 3 _ _ _ h.hs, cell_of_row _ _ 4 _ _ _ h.hs⟩

theorem bytes_append (a b : ByteArray) : (a ++ b).data.toList = a.data.toList ++ b.data.toList := by simp
theorem bytes_size (a : ByteArray) : a.size = a.data.toList.length := by simp
theorem itoa_ts {b s : Nat} {sp : Sp} {bs : List UInt8} {w0 w : World} (hT : TabW w0) (n : Int) (h0 : 0 ≤ n) (h1 : n ≤ 100000) (h : Hid (TS b s sp bs w0 w)) :
    Calls Tryd.prog 37 #[.int .i64 n] w fun e w' => e = .returned (.string ⟨(Lib.itoa n).toArray⟩) ∧ Hid (TS b s sp bs w0 w') := by
  refine (itoa_any n w h0 h1 (hT.below h.out.bel)).mono ?_
  rintro e w' ⟨rfl, hb⟩
  exact ⟨rfl, Lib.hid (h.out.below hb)⟩
theorem write_ts {b s : Nat} {sp : Sp} {bs : List UInt8} {w0 w : World} (t : ByteArray) (hl : bs.length + t.size ≤ 100000) (h : Hid (TS b s sp bs w0 w)) :
    Calls Tryd.prog 36 #[.pointer (some ⟨b, 0, none⟩), .string t] w fun e w' => e = .returned (.tuple #[.int .i64 t.size, .nilIface]) ∧ Hid (TS b s sp (bs ++ t.data.toList) w0 w') := by
  refine (h.out.writes t hl).mono ?_
  intro e w' hp
  exact ⟨hp.1, Lib.hid (h.out.write hp)⟩

/-- The cells of a kind. -/
def fnN (k : Int) : FuncId := if k = 1 then 45 else if k = 2 then 47 else 49
def fnV (k : Int) : FuncId := if k = 1 then 46 else if k = 2 then 48 else 50
def kCells (k : Int) : Array Value := #[.string ⟨(Tx.wordOf k).toArray⟩, .func (.func (fnN k)) #[] #[], .func (.func (fnV k)) #[] #[]]
/-- Behind the look-up of the kind. -/
def KindAt (b s : Nat) (sp : Sp) (bs : List UInt8) (w0 : World) (s7 : Value) (wx : World) : Prop :=
  ∃ g, s7 = .pointer (some ⟨g, 0, none⟩) ∧ wx.heap[g]? = some (.cells (kCells sp.k) 65 (0, 0)) ∧ g ≠ b ∧ TS b s sp bs w0 wx
theorem TS.lt {b s : Nat} {sp : Sp} {bs : List UInt8} {w0 w : World} (h : TS b s sp bs w0 w) : b < w.heap.size := by
  rcases h.hb with h | h <;> exact h.lt
theorem kindAt1 {b s : Nat} {sp : Sp} {bs : List UInt8} {w0 w : World} {A : Obj} (h : TS b s sp bs w0 (w.alloc A)) : KindAt b s sp bs w0 (.pointer (some ⟨w.heap.size + 1 + 1, 0, none⟩)) (((w.alloc A).alloc kindMap).alloc (.cells (kCells sp.k) 65)).drew := by
  have hl := h.lt
  have hz := World.size_alloc w A
  exact ⟨_, rfl, heap_alloc3_new _ _ _ _, by omega, h.below (((Below.refl _ _).alloc (Nat.le_refl _) _).alloc (by simp) _).drew⟩
theorem kindAt2 {b s : Nat} {sp : Sp} {bs : List UInt8} {w0 w : World} {A : Obj} (h : TS b s sp bs w0 (w.alloc A)) : KindAt b s sp bs w0 (.pointer (some ⟨w.heap.size + 1, 0, none⟩)) (((w.alloc A).alloc (.cells (kCells sp.k) 65)).alloc kindMap).drew := by
  have hl := h.lt
  have hz := World.size_alloc w A
  exact ⟨_, rfl, heap_alloc3_mid _ _ _ _, by omega, h.below (((Below.refl _ _).alloc (Nat.le_refl _) _).alloc (by simp) _).drew⟩

theorem kCells_look (w : World) (A : Obj) (k : Int) (hk : k = 1 ∨ k = 2 ∨ k = 3) :
    (Instr.lookup 60 (.map (some (w.heap.size + 1))) (.int .i64 k) false).run Tryd.prog ((w.alloc A).alloc kindMap).drew = .ok (.agg (kCells k)) ((w.alloc A).alloc kindMap).drew ∧
    (∀ o, (Instr.lookup 60 (.map (some (w.heap.size + 1))) (.int .i64 k) false).run Tryd.prog (((w.alloc A).alloc kindMap).alloc o).drew = .ok (.agg (kCells k)) (((w.alloc A).alloc kindMap).alloc o).drew) ∧
    (∀ o, (Instr.lookup 60 (.map (some (w.heap.size + 1 + 1))) (.int .i64 k) false).run Tryd.prog (((w.alloc A).alloc o).alloc kindMap).drew = .ok (.agg (kCells k)) (((w.alloc A).alloc o).alloc kindMap).drew) := by
  have h : ∀ (W : World) (b : Nat), W.heap[b]? = some kindMap → (Instr.lookup 60 (.map (some b)) (.int .i64 k) false).run Tryd.prog W = .ok (.agg (kCells k)) W := by
    intro W b hb
    rcases hk with rfl | rfl | rfl
    · exact kind_get W b hb 1 0 kind1 rfl
    · exact kind_get W b hb 2 1 kind2 rfl
    · exact kind_get W b hb 3 2 kind3 rfl
  exact ⟨h _ _ (heap_alloc2_new _ _ _), fun _ => h _ _ (heap_alloc3_mid _ _ _ _), fun _ => h _ _ (heap_alloc3_new _ _ _ _)⟩

/-- The numbers of a kind, in their order. -/
def numsOf (sp : Sp) : List Int := if sp.k = 1 then [sp.q, sp.n] else if sp.k = 2 then [sp.n] else []
def numsTxt (l : List Int) : List UInt8 := l.flatMap fun n => 32 :: Lib.itoa n
theorem numsTxt_of (sp : Sp) : numsTxt (numsOf sp) = Tx.numsText sp := by
  unfold numsOf Tx.numsText
  split
  · simp [numsTxt]
  · split
    · simp [numsTxt]
    · rfl
/-- The slice of pointers to the numbers. -/
def NumsAt (s : Nat) (sp : Sp) (a : Option Addr) (wx : World) : Prop :=
  ∀ (j : Nat) (n : Int), (numsOf sp)[j]? = some n → ∃ g off : Nat, a = some ⟨g, 0, none⟩ ∧ wx.heap[g]? = some (.cells (numPs sp.k s).toArray 68 (0, 0)) ∧ (numPs sp.k s)[j]? = some (Value.pointer (some ⟨s, off, none⟩)) ∧ (spCells sp)[off]? = some (Value.int .i64 n)
theorem numsAt_of {s : Nat} {sp : Sp} {a : Option Addr} {wx : World} (h : sp.k = 3 ∨ ∃ g, a = some ⟨g, 0, none⟩ ∧ wx.heap[g]? = some (.cells (numPs sp.k s).toArray 68 (0, 0))) (hk : sp.k = 1 ∨ sp.k = 2 ∨ sp.k = 3) : NumsAt s sp a wx := by
  intro j n hj
  unfold numsOf at hj
  rcases hk with hk | hk | hk
  · rw [if_pos hk] at hj
    obtain ⟨g, h1, h2⟩ := h.resolve_left (by omega)
    have hp : numPs sp.k s = [.pointer (some ⟨s, 1, none⟩), .pointer (some ⟨s, 2, none⟩)] := by unfold numPs; rw [if_pos hk]
    match j, hj with
    | 0, hj => simp at hj; subst hj; exact ⟨g, 1, h1, h2, by rw [hp]; rfl, rfl⟩
    | 1, hj => simp at hj; subst hj; exact ⟨g, 2, h1, h2, by rw [hp]; rfl, rfl⟩
  · rw [if_neg (by omega), if_pos hk] at hj
    obtain ⟨g, h1, h2⟩ := h.resolve_left (by omega)
    have hp : numPs sp.k s = [.pointer (some ⟨s, 2, none⟩)] := by unfold numPs; rw [if_neg (by omega), if_pos hk]
    match j, hj with
    | 0, hj => simp at hj; subst hj; exact ⟨g, 2, h1, h2, by rw [hp]; rfl, rfl⟩
  · rw [if_neg (by omega), if_neg (by omega)] at hj
    simp at hj
theorem numPs_len (s : Nat) (sp : Sp) : (numPs sp.k s).length = (numsOf sp).length := by
  unfold numPs numsOf; split
  · rfl
  · split <;> rfl
end Go.Proofs.YtedddaojcknemaaDoor
