/- Parse: its start and its ways out. -/
import Derived.Test.YtedddaojcknemaaDoorParC
import Derived.Deep.CutBlock
namespace Go.Proofs.YtedddaojcknemaaDoor
open Go.RowKit

def ParsePost (s : ByteArray) (w : World) (e : Ending) (w' : World) : Prop :=
  ∃ v, e = .returned (.tuple #[v, .int .i64 (Pz.parse s.data.toList).err, .int .i64 (Pz.parse s.data.toList).at_]) ∧ w'.ownsRow w.heap.size 32 5 v (Pz.parse s.data.toList).sps.length (spFlat (Pz.parse s.data.toList).sps) ∧ Below w.heap.size w w'

theorem parse_post_fail {s : ByteArray} {w0 w' : World} {e a : Int} (h : Pz.parse s.data.toList = ⟨[], e, a⟩) (hb : Below w0.heap.size w0 w') :
    ParsePost s w0 (.returned (.tuple #[.slice none 0 0, .int .i64 e, .int .i64 a])) w' := by
  refine ⟨_, by rw [h], ?_, hb⟩
  rw [h]
  exact World.ownsRow_nil _ _ _ _


theorem four_rows (w : World) (A B C D : Obj) : ((((w.alloc A).alloc B).alloc C).alloc D).heap[w.heap.size]? = some A ∧ ((((w.alloc A).alloc B).alloc C).alloc D).heap[w.heap.size + 1]? = some B ∧
    ((((w.alloc A).alloc B).alloc C).alloc D).heap[w.heap.size + 1 + 1]? = some C ∧ ((((w.alloc A).alloc B).alloc C).alloc D).heap[w.heap.size + 1 + 1 + 1]? = some D := by
  refine ⟨mustKeep (heap_alloc3_old w A B C) D, mustKeep (heap_alloc3_mid w A B C) D, mustKeep (heap_alloc3_new w A B C) D, ?_⟩
  have h := heap_alloc_new (((w.alloc A).alloc B).alloc C) D
  simpa using h
/-- Parse's variables as they stand behind Lex. -/
theorem parse_rows (s : ByteArray) (w w1 : World) (h : Below ((((w.alloc (.cells #[.string s] 9)).alloc (.cells #[.slice none 0 0] 22)).alloc (.cells #[.int .i64 0] 27)).alloc (.cells #[.int .i64 0] 3)).heap.size
      ((((w.alloc (.cells #[.string s] 9)).alloc (.cells #[.slice none 0 0] 22)).alloc (.cells #[.int .i64 0] 27)).alloc (.cells #[.int .i64 0] 3)) w1) :
    w1.heap[w.heap.size]? = some (.cells #[.string s] 9 (0, 0)) ∧ w1.heap[w.heap.size + 1]? = some (.cells #[.slice none 0 0] 22 (0, 0)) ∧
    w1.heap[w.heap.size + 1 + 1]? = some (.cells #[.int .i64 0] 27 (0, 0)) ∧ w1.heap[w.heap.size + 1 + 1 + 1]? = some (.cells #[.int .i64 0] 3 (0, 0)) ∧ w.heap.size + 1 + 1 + 1 + 1 ≤ w1.heap.size ∧ Below w.heap.size w w1 := by
  obtain ⟨h1, h2, h3, h4⟩ := four_rows w (.cells #[.string s] 9) (.cells #[.slice none 0 0] 22) (.cells #[.int .i64 0] 27) (.cells #[.int .i64 0] 3)
  have hs := h.size
  simp only [World.size_alloc] at hs
  refine ⟨(h.block _ (by simp; omega)).trans h1, (h.block _ (by simp)).trans h2, (h.block _ (by simp)).trans h3, (h.block _ (by simp)).trans h4, hs, ?_⟩
  exact ((((((Below.refl _ _).alloc (Nat.le_refl _) _).alloc (by simp) _).alloc (by simp; omega) _).alloc (by simp; omega) _)).trans (h.mono (by simp only [World.size_alloc]; omega))

/-- What the loop over spells carries. -/
def ParseRel (s : ByteArray) (w0 : World) (b1 b2 b3 b4 b5 b6 : Nat) (k : Nat) (w : World) : Prop :=
  ∃ B l out, PF s w0 b1 b2 b3 b4 b5 b6 B l out w ∧ Pz.go s.size k l out = Pz.parse s.data.toList ∧ l.length ≤ k


theorem lexL_len : ∀ (k off : Nat) (l : List UInt8) (out : List Lx.Tok), out.length ≤ 5000 → (Lx.lexL k off l out).toks.length ≤ 5000
  | 0, _, _, _, h => h
  | _ + 1, _, [], _, h => h
  | k + 1, off, c :: r, out, h => by
    unfold Lx.lexL
    split
    · simp
    · split
      · simp
      · exact lexL_len k _ _ _ (by simp; omega)
theorem lex_len (l : List UInt8) (toks : List Lx.Tok) (at_ : Int) (h : Lx.lex l = ⟨toks, 0, at_⟩) : toks.length ≤ 5000 ∧ l.length ≤ 20000 := by
  unfold Lx.lex at h
  split at h
  · simp at h
  · refine ⟨?_, by omega⟩
    have := lexL_len (l.length + 1) (l.length - (Lx.gap false l).length) (Lx.gap false l) [] (by simp)
    rw [h] at this
    exact this

theorem ret0 (a : Act) (w : World) (R : Ending → World → Prop) (b2 b3 b4 : Nat) (v2 v3 v4 : Value) (hd : a.defers = [])
    (p2 : a.tmps.getD 2 undef = .pointer (some ⟨b2, 0, none⟩)) (p3 : a.tmps.getD 3 undef = .pointer (some ⟨b3, 0, none⟩)) (p4 : a.tmps.getD 4 undef = .pointer (some ⟨b4, 0, none⟩))
    (h2 : w.cell? ⟨b2, 0, none⟩ = some v2) (h3 : w.cell? ⟨b3, 0, none⟩ = some v3) (h4 : w.cell? ⟨b4, 0, none⟩ = some v4)
    (hR : R (.returned (.tuple #[v2, v3, v4])) w) :
    bodyPostD Tryd.prog Tryd.f14 R Exit.ret a w := by
  unfold bodyPostD
  simp only [hd]
  exact ⟨_, results_cell3 rfl _ _ b2 b3 b4 _ _ _ p2 p3 p4 (loadVar_slice _ _ _ h2) (loadVar_errno _ _ _ h3) (loadVar_int _ _ _ h4), hR⟩

theorem set_keep {w : World} {b k i : Nat} {o : Obj} (h : w.heap[k]? = some o) (hk : k ≠ b) (v : Value) : (w.setCell ⟨b, i, none⟩ v).heap[k]? = some o := (heap_setCell_other w ⟨b, i, none⟩ k v hk).trans h

/-- Parse's variables at the loop's start. -/
theorem start_pf {s : ByteArray} {w w1 : World} {b1 b2 b3 b4 c : Nat} {toks : List Lx.Tok} {a : Option Addr} (at_ : Int)
    (hr : w1.heap[b1]? = some (.cells #[.string s] 9 (0, 0)) ∧ w1.heap[b2]? = some (.cells #[.slice none 0 0] 22 (0, 0)) ∧
      w1.heap[b3]? = some (.cells #[.int .i64 0] 27 (0, 0)) ∧ w1.heap[b4]? = some (.cells #[.int .i64 0] 3 (0, 0)) ∧ b4 + 1 ≤ w1.heap.size ∧ Below b1 w w1)
    (hE : b1 = w.heap.size ∧ b1 + 1 = b2 ∧ b1 + 1 + 1 = b3 ∧ b1 + 1 + 1 + 1 = b4)
    (hO : w1.ownsRow w.heap.size 50 4 (.slice a toks.length c) toks.length (tokFlat toks)) (hl : toks.length ≤ 5000) (hs : s.size ≤ 20000) :
    PF s w b1 b2 b3 b4 w1.heap.size (w1.heap.size + 1) (w1.heap.size + 1 + 1) toks []
      ((((w1.setCell ⟨b3, 0, none⟩ (.int .i64 0)).setCell ⟨b4, 0, none⟩ (.int .i64 at_)).alloc (.cells #[.slice a toks.length c] 46)).alloc (.cells #[nextV5 w1.heap.size b1] 58)) := by
  obtain ⟨r1, r2, r3, r4, hsz, hB⟩ := hr
  obtain ⟨e1, e2, e3, e4⟩ := hE
  have q1 := mustKeep (mustKeep (set_keep (set_keep r1 (b := b3) (i := 0) (by omega) (.int .i64 0)) (b := b4) (i := 0) (by omega) (.int .i64 at_)) (.cells #[.slice a toks.length c] 46)) (.cells #[nextV5 w1.heap.size b1] 58)
  have q2 := mustKeep (mustKeep (set_keep (set_keep r2 (b := b3) (i := 0) (by omega) (.int .i64 0)) (b := b4) (i := 0) (by omega) (.int .i64 at_)) (.cells #[.slice a toks.length c] 46)) (.cells #[nextV5 w1.heap.size b1] 58)
  have q3 := mustKeep (mustKeep (set_keep (heap_setCell_same w1 b3 0 _ _ (.int .i64 0) r3) (b := b4) (i := 0) (by omega) (.int .i64 at_)) (.cells #[.slice a toks.length c] 46)) (.cells #[nextV5 w1.heap.size b1] 58)
  have q4 := mustKeep (mustKeep (heap_setCell_same (w1.setCell ⟨b3, 0, none⟩ (.int .i64 0)) b4 0 _ _ (.int .i64 at_) (set_keep r4 (b := b3) (i := 0) (by omega) (.int .i64 0))) (.cells #[.slice a toks.length c] 46)) (.cells #[nextV5 w1.heap.size b1] 58)
  have BW : Below b1 w1 ((((w1.setCell ⟨b3, 0, none⟩ (.int .i64 0)).setCell ⟨b4, 0, none⟩ (.int .i64 at_)).alloc (.cells #[.slice a toks.length c] 46)).alloc (.cells #[nextV5 w1.heap.size b1] 58)) :=
    ((((Below.refl _ _).setCell (by show b1 ≤ b3; omega) _).setCell (by show b1 ≤ b4; omega) _).alloc (by simp [World.setCell]; omega) _).alloc (by simp [World.setCell]; omega) _
  have hz : (((w1.setCell ⟨b3, 0, none⟩ (.int .i64 0)).setCell ⟨b4, 0, none⟩ (.int .i64 at_)).heap.size = w1.heap.size) := by simp [World.setCell]
  have q5 : _ = some _ := heap_alloc2_old ((w1.setCell ⟨b3, 0, none⟩ (.int .i64 0)).setCell ⟨b4, 0, none⟩ (.int .i64 at_)) (.cells #[.slice a toks.length c] 46) (.cells #[nextV5 w1.heap.size b1] 58)
  have q6 : _ = some _ := heap_alloc2_new ((w1.setCell ⟨b3, 0, none⟩ (.int .i64 0)).setCell ⟨b4, 0, none⟩ (.int .i64 at_)) (.cells #[.slice a toks.length c] 46) (.cells #[nextV5 w1.heap.size b1] 58)
  rw [hz] at q5 q6
  refine ⟨q1, ⟨_, q2, World.ownsRow_nil _ _ _ _, by rintro k ⟨⟩⟩, q3, ⟨_, q4⟩, ⟨_, q5, ?_, ?_⟩, q6, ?_, ⟨by omega, by omega, by omega, by omega, by omega, by omega, by omega, by simp [World.setCell]⟩, hl, hs, by simp⟩
  · have ho : w1.ownsRow w.heap.size 50 4 (.slice a toks.length c) toks.length (tokFlat toks) := hO
    have hne : ∀ g cur cap, (.slice a toks.length c : Value) = .slice (some ⟨g, 0, none⟩) toks.length cap → w1.heap[g]? = some (.cells cur 50 (0, 0)) → g ≠ b3 ∧ g ≠ b4 := by
      intro g cur cap _ hg
      exact ⟨blk_ne hg r3 (by decide), blk_ne hg r4 (by decide)⟩
    refine (ReadRow.of_owns ho).of_block (by simp [World.setCell]; omega) fun a' m c' hv hn => ?_
    rcases ho.2 with ⟨h1, h2⟩ | ⟨g, cap, cur, hv2, hb, hg, hrest⟩
    · rw [hv] at h1; cases h1
    · rw [hv] at hv2
      cases hv2
      obtain ⟨n3, n4⟩ := hne g cur _ hv hg
      exact (mustKeep (mustKeep (set_keep (set_keep hg (i := 0) n3 (.int .i64 0)) (i := 0) n4 (.int .i64 at_)) _) _).trans hg.symm
  · by_cases h0 : toks.length = 0
    · exact .inl h0
    · refine .inr fun k hk => ?_
      have := hO.lt k hk
      omega
  · exact (e1 ▸ hB).trans (e1 ▸ BW)


/-- A failure's way out. -/
theorem pf_fail {s : ByteArray} {w0 : World} {b1 b2 b3 b4 : Nat} (a : Act) (w : World) (e at_ : Int) (hd : a.defers = [parseDefer b2 b3 b4])
    (p2 : a.tmps.getD 2 undef = .pointer (some ⟨b2, 0, none⟩)) (p3 : a.tmps.getD 3 undef = .pointer (some ⟨b3, 0, none⟩)) (p4 : a.tmps.getD 4 undef = .pointer (some ⟨b4, 0, none⟩))
    (hX : PX w0 b1 b2 b3 b4 w) (hP : Pz.parse s.data.toList = ⟨[], e, at_⟩) : bodyPostD Tryd.prog Tryd.f14 (ParsePost s w0) (Exit.panic (failE e at_)) a w := by
  obtain ⟨v2, h2⟩ := hX.h2
  obtain ⟨v3, h3⟩ := hX.h3
  obtain ⟨v4, h4⟩ := hX.h4
  obtain ⟨k1, k2, k3, k4⟩ := hX.lt
  refine parse_panic a w (ParsePost s w0) b2 b3 b4 v2 v3 v4 e at_ hd p2 p3 p4 h2 h3 h4 ?_
  intro w' hb
  have hb' := hb w0.heap.size (by omega) (by omega) (by omega)
  exact parse_post_fail hP (hX.hb.trans hb')

theorem set1 {w : World} {b : Nat} {u : Value} {t : TypeId} (v : Value) (h : w.heap[b]? = some (.cells #[u] t (0, 0))) : (w.setCell ⟨b, 0, none⟩ v).heap[b]? = some (.cells #[v] t (0, 0)) := heap_setCell_same w b 0 _ _ v h
theorem cell1 {w : World} {b : Nat} {u : Value} {t : TypeId} (h : w.heap[b]? = some (.cells #[u] t (0, 0))) : w.cell? ⟨b, 0, none⟩ = some u := cell_of_row w b 0 _ _ _ h

/-- The world at the early return. -/
theorem early_cells {w w1 : World} {b1 b2 b3 b4 : Nat} {v : Value} {e at_ : Int} (o : Obj) (hr : w1.heap[b1]? = some (.cells #[v] 9 (0, 0)) ∧ w1.heap[b2]? = some (.cells #[.slice none 0 0] 22 (0, 0)) ∧
      w1.heap[b3]? = some (.cells #[.int .i64 0] 27 (0, 0)) ∧ w1.heap[b4]? = some (.cells #[.int .i64 0] 3 (0, 0)) ∧ b4 + 1 ≤ w1.heap.size ∧ Below b1 w w1)
    (hE : b1 = w.heap.size ∧ b1 + 1 = b2 ∧ b1 + 1 + 1 = b3 ∧ b1 + 1 + 1 + 1 = b4) {W : World}
    (hW : W = ((((((w1.setCell ⟨b3, 0, none⟩ (.int .i64 e)).setCell ⟨b4, 0, none⟩ (.int .i64 at_)).setCell ⟨b2, 0, none⟩ (.slice none 0 0)).setCell ⟨b3, 0, none⟩ (.int .i64 e)).setCell ⟨b4, 0, none⟩ (.int .i64 at_)).alloc o).drew) :
    W.cell? ⟨b2, 0, none⟩ = some (.slice none 0 0) ∧ W.cell? ⟨b3, 0, none⟩ = some (.int .i64 e) ∧ W.cell? ⟨b4, 0, none⟩ = some (.int .i64 at_) ∧ Below w.heap.size w W := by
  subst hW
  obtain ⟨r1, r2, r3, r4, hsz, hB⟩ := hr
  obtain ⟨e1, e2, e3, e4⟩ := hE
  have z2 := set_keep (set_keep r2 (b := b3) (i := 0) (by omega) (.int .i64 e)) (b := b4) (i := 0) (by omega) (.int .i64 at_)
  have z3 := set_keep (set1 (.int .i64 e) r3) (b := b4) (i := 0) (by omega) (.int .i64 at_)
  have z4 := set1 (.int .i64 at_) (set_keep r4 (b := b3) (i := 0) (by omega) (.int .i64 e))
  have y2 := set1 (.slice none 0 0) z2
  have y3 := set_keep z3 (b := b2) (i := 0) (by omega) (.slice none 0 0)
  have y4 := set_keep z4 (b := b2) (i := 0) (by omega) (.slice none 0 0)
  have x2 := set_keep (set_keep y2 (b := b3) (i := 0) (by omega) (.int .i64 e)) (b := b4) (i := 0) (by omega) (.int .i64 at_)
  have x3 := set_keep (set1 (.int .i64 e) y3) (b := b4) (i := 0) (by omega) (.int .i64 at_)
  have x4 := set1 (.int .i64 at_) (set_keep y4 (b := b3) (i := 0) (by omega) (.int .i64 e))
  refine ⟨cell1 (mustKeep x2 o), cell1 (mustKeep x3 o), cell1 (mustKeep x4 o), ?_⟩
  have hb' : Below w.heap.size w w1 := e1 ▸ hB
  exact ((((((hb'.setCell (by show _ ≤ b3; omega) _).setCell (by show _ ≤ b4; omega) _).setCell (by show _ ≤ b2; omega) _).setCell (by show _ ≤ b3; omega) _).setCell (by show _ ≤ b4; omega) _).alloc (by simp [World.setCell]; omega) _).drew
end Go.Proofs.YtedddaojcknemaaDoor
