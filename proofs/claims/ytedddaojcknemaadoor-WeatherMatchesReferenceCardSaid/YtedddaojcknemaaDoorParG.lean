/- Parse: the numbers of a spell, and the spell's block. -/
import Derived.Test.YtedddaojcknemaaDoorParF
namespace Go.Proofs.YtedddaojcknemaaDoor
open Go.RowKit

/-- Parse's variables, and the spell under way. -/
structure SpIs (s : ByteArray) (w0 : World) (b1 b2 b3 b4 b5 b6 B : Nat) (l : List Lx.Tok) (out : List Sp) (b8 : Nat) (sp : Sp) (w : World) : Prop where
  pf : PF s w0 b1 b2 b3 b4 b5 b6 B l out w
  r8 : w.heap[b8]? = some (.cells (spCells sp).toArray 32 (0, 0))
  hb : B ≤ b8

section
variable {s : ByteArray} {w0 : World} {b1 b2 b3 b4 b5 b6 B : Nat} {l r : List Lx.Tok} {out : List Sp} {b8 : Nat} {sp : Sp} {w w' : World}

theorem SpIs.lt8 (h : SpIs s w0 b1 b2 b3 b4 b5 b6 B l out b8 sp w) : b8 < w.heap.size := (Array.getElem?_eq_some_iff.1 h.r8).1
theorem SpIs.below (h : SpIs s w0 b1 b2 b3 b4 b5 b6 B l out b8 sp w) (hg : Below w.heap.size w w') : SpIs s w0 b1 b2 b3 b4 b5 b6 B l out b8 sp w' :=
  ⟨h.pf.below (hg.mono h.pf.lt.2.2.2.2.2.2.2), (hg.block _ h.lt8).trans h.r8, h.hb⟩
theorem SpIs.next (h : SpIs s w0 b1 b2 b3 b4 b5 b6 B l out b8 sp w) (hg : w.grownBy w' (some b5)) (hp : PF s w0 b1 b2 b3 b4 b5 b6 B r out w') : SpIs s w0 b1 b2 b3 b4 b5 b6 B r out b8 sp w' :=
  ⟨hp, (hg.block _ h.lt8 (by have := h.pf.lt; have := h.hb; simp; omega)).trans h.r8, h.hb⟩
theorem SpIs.setq (h : SpIs s w0 b1 b2 b3 b4 b5 b6 B l out b8 sp w) (x : Int) : SpIs s w0 b1 b2 b3 b4 b5 b6 B l out b8 { sp with q := x } (w.setCell ⟨b8, 1, none⟩ (.int .i64 x)) :=
  ⟨h.pf.below ((Below.refl _ _).setCell h.hb _), heap_setCell_same w b8 1 _ _ _ h.r8, h.hb⟩
theorem SpIs.setn (h : SpIs s w0 b1 b2 b3 b4 b5 b6 B l out b8 sp w) (x : Int) : SpIs s w0 b1 b2 b3 b4 b5 b6 B l out b8 { sp with n := x } (w.setCell ⟨b8, 2, none⟩ (.int .i64 x)) :=
  ⟨h.pf.below ((Below.refl _ _).setCell h.hb _), heap_setCell_same w b8 2 _ _ _ h.r8, h.hb⟩
theorem SpIs.setf (h : SpIs s w0 b1 b2 b3 b4 b5 b6 B l out b8 sp w) (x : Int) : SpIs s w0 b1 b2 b3 b4 b5 b6 B l out b8 { sp with f := x } (w.setCell ⟨b8, 3, none⟩ (.int .i64 x)) :=
  ⟨h.pf.below ((Below.refl _ _).setCell h.hb _), heap_setCell_same w b8 3 _ _ _ h.r8, h.hb⟩
theorem SpIs.setu (h : SpIs s w0 b1 b2 b3 b4 b5 b6 B l out b8 sp w) (x : Int) : SpIs s w0 b1 b2 b3 b4 b5 b6 B l out b8 { sp with u := x } (w.setCell ⟨b8, 4, none⟩ (.int .i64 x)) :=
  ⟨h.pf.below ((Below.refl _ _).setCell h.hb _), heap_setCell_same w b8 4 _ _ _ h.r8, h.hb⟩

def NxSp (s : ByteArray) (w0 : World) (b1 b2 b3 b4 b5 b6 B : Nat) (l : List Lx.Tok) (out : List Sp) (b8 : Nat) (sp : Sp) (w : World) (kind : Int) (e : Ending) (w' : World) : Prop :=
  w.grownBy w' (some b5) ∧ match Pz.nx s.size kind l with
  | .fail er a => e = .panicked (failE er a) ∧ PX w0 b1 b2 b3 b4 w'
  | .ok t r => e = .returned (tokV t.kind t.text t.n t.at_) ∧ SpIs s w0 b1 b2 b3 b4 b5 b6 B r out b8 sp w' ∧ l.length = r.length + 1
def MuSp (s : ByteArray) (w0 : World) (b1 b2 b3 b4 b5 b6 B : Nat) (l : List Lx.Tok) (out : List Sp) (b8 : Nat) (sp : Sp) (w : World) (kind : Int) (text : List UInt8) (e : Ending) (w' : World) : Prop :=
  w.grownBy w' (some b5) ∧ match Pz.mu s.size kind text l with
  | .fail er a => e = .panicked (failE er a) ∧ PX w0 b1 b2 b3 b4 w'
  | .ok t r => e = .returned (.int .i64 t) ∧ SpIs s w0 b1 b2 b3 b4 b5 b6 B r out b8 sp w' ∧ l.length = r.length + 1
theorem nxt_sp (h : SpIs s w0 b1 b2 b3 b4 b5 b6 B l out b8 sp w) (kind : Int) :
    Calls Tryd.prog 27 #[.int .i64 kind, .pointer (some ⟨b5, 0, none⟩), .pointer (some ⟨b1, 0, none⟩)] w (NxSp s w0 b1 b2 b3 b4 b5 b6 B l out b8 sp w kind) := by
  refine (nxt_pf h.pf kind).mono ?_
  rintro e w' ⟨hg, hp⟩
  refine ⟨hg, ?_⟩
  cases hx : Pz.nx s.size kind l with
  | fail er a => rw [hx] at hp; exact hp
  | ok t r => rw [hx] at hp; exact ⟨hp.1, h.next hg hp.2, nx_len hx⟩
theorem must_sp (h : SpIs s w0 b1 b2 b3 b4 b5 b6 B l out b8 sp w) (kind : Int) (text : ByteArray) (tl : List UInt8) (ht : text.data.toList = tl) :
    Calls Tryd.prog 28 #[.int .i64 kind, .string text, .pointer (some ⟨b6, 0, none⟩)] w (MuSp s w0 b1 b2 b3 b4 b5 b6 B l out b8 sp w kind tl) := by
  subst ht
  refine (must_pf h.pf kind text).mono ?_
  rintro e w' ⟨hg, hp⟩
  refine ⟨hg, ?_⟩
  cases hx : Pz.mu s.size kind text.data.toList l with
  | fail er a => rw [hx] at hp; exact hp
  | ok t r => rw [hx] at hp; exact ⟨hp.1, h.next hg hp.2, mu_len hx⟩
end

/-- The pointers to a kind's numbers. -/
def numPs (K : Int) (b8 : Nat) : List Value := if K = 1 then [.pointer (some ⟨b8, 1, none⟩), .pointer (some ⟨b8, 2, none⟩)] else if K = 2 then [.pointer (some ⟨b8, 2, none⟩)] else []
def NumRow (K : Int) (b8 : Nat) (wx : World) (B : Nat) (a : Option Addr) : Prop := K = 3 ∨ ∃ g, a = some ⟨g, 0, none⟩ ∧ B ≤ g ∧ g ≠ b8 ∧ wx.heap[g]? = some (.cells (numPs K b8).toArray 68 (0, 0))
def NumCut (K : Int) (b8 B : Nat) (w : World) (s59 s60 s61 : Value) (wx : World) : Prop :=
  ∃ a c, s59 = .slice a (numPs K b8).length c ∧ s60 = .int .i64 (numPs K b8).length ∧ s61 = .int .i64 0 ∧ NumRow K b8 wx B a ∧ Below w.heap.size w wx

theorem numCut12 {K : Int} {b8 B g : Nat} {wr w' : World} (ps : List Value) (hps : numPs K b8 = ps) (hg : w'.heap[g]? = some (.cells ps.toArray 68 (0, 0))) (hgs : (wr.alloc kindMap).drew.heap.size ≤ g)
    (hgb : Below (wr.alloc kindMap).drew.heap.size (wr.alloc kindMap).drew w') (hl : b8 < wr.heap.size) (hB : B ≤ b8) : NumCut K b8 B wr (.slice (some ⟨g, 0, none⟩) ps.length ps.length) (.int .i64 ps.length) (.int .i64 0) w' := by
  have hz : (wr.alloc kindMap).drew.heap.size = wr.heap.size + 1 := World.size_alloc _ _
  rw [hz] at hgs hgb
  refine ⟨_, ps.length, by rw [hps], by rw [hps], rfl, .inr ⟨g, rfl, by omega, by omega, by rw [hps]; exact hg⟩, ?_⟩
  exact (((Below.refl _ _).alloc (Nat.le_refl _) _).drew).trans (hgb.mono (by omega))
theorem numCut3 {b8 B : Nat} {wr : World} : NumCut 3 b8 B wr (.slice none 0 0) (.int .i64 0) (.int .i64 0) (wr.alloc kindMap).drew :=
  ⟨none, 0, rfl, rfl, rfl, .inl rfl, ((Below.refl _ _).alloc (Nat.le_refl _) _).drew⟩
theorem NumRow.step {K : Int} {b8 b5 B : Nat} {wr w' : World} {a : Option Addr} (h : NumRow K b8 wr B a) (hg : wr.grownBy w' (some b5)) (hB : b5 < B) (i : Nat) (v : Value) : NumRow K b8 (w'.setCell ⟨b8, i, none⟩ v) B a := by
  rcases h with h | ⟨g, rfl, h1, h2, h3⟩
  · exact .inl h
  · exact .inr ⟨g, rfl, h1, h2, set_keep ((hg.block g (Array.getElem?_eq_some_iff.1 h3).1 (by intro e; cases e; omega)).trans h3) h2 _⟩

/-- What the loop over the numbers carries. -/
def NumRel (s : ByteArray) (w0 : World) (b1 b2 b3 b4 b5 b6 B : Nat) (out : List Sp) (b8 : Nat) (K : Int) (k' : Nat) (a : Option Addr) (R : Pz.POut) (g : Nat) (s61 : Value) (wx : World) : Prop :=
  ∃ (i : Nat) (q n : Int) (l : List Lx.Tok), s61 = .int .i64 i ∧ SpIs s w0 b1 b2 b3 b4 b5 b6 B l out b8 ⟨K, q, n, 0, 0⟩ wx ∧ l.length ≤ k' ∧ NumRow K b8 wx B a ∧
    ((K = 1 ∧ i = 0 ∧ n = 0 ∧ g = 2 ∧ Pz.s2q s.size (Pz.go s.size k') out K l = R) ∨ (K = 1 ∧ i = 1 ∧ n = 0 ∧ g = 1 ∧ Pz.s2n s.size (Pz.go s.size k') out K q l = R) ∨
     (K = 2 ∧ i = 0 ∧ q = 0 ∧ g = 1 ∧ Pz.s2n s.size (Pz.go s.size k') out K 0 l = R) ∨ (i = (numPs K b8).length ∧ g = 0 ∧ Pz.s3 s.size (Pz.go s.size k') out K q n l = R))
theorem numRel_start {s : ByteArray} {w0 : World} {b1 b2 b3 b4 b5 b6 B : Nat} {l : List Lx.Tok} {out : List Sp} {b8 : Nat} {K : Int} {k' : Nat} {a : Option Addr} {R : Pz.POut} {wx : World}
    (h : SpIs s w0 b1 b2 b3 b4 b5 b6 B l out b8 ⟨K, 0, 0, 0, 0⟩ wx) (hl : l.length ≤ k') (ha : NumRow K b8 wx B a) (hK : K = 1 ∨ K = 2 ∨ K = 3) (hR : Pz.s2 s.size (Pz.go s.size k') out K l = R) :
    NumRel s w0 b1 b2 b3 b4 b5 b6 B out b8 K k' a R (numPs K b8).length (.int .i64 0) wx := by
  refine ⟨0, 0, 0, l, rfl, h, hl, ha, ?_⟩
  rcases hK with rfl | rfl | rfl
  · exact .inl ⟨rfl, rfl, rfl, rfl, hR⟩
  · exact .inr (.inr (.inl ⟨rfl, rfl, rfl, rfl, hR⟩))
  · exact .inr (.inr (.inr ⟨rfl, rfl, hR⟩))

/-- A spell more. -/
theorem PF.push {s : ByteArray} {w0 : World} {b1 b2 b3 b4 b5 b6 B : Nat} {l : List Lx.Tok} {out : List Sp} {w w4 : World} {v2 v' : Value} {sp : Sp} (h : PF s w0 b1 b2 b3 b4 b5 b6 B l out w)
    (hown : w.ownsRow (b6 + 1) 32 5 v2 out.length (spFlat out)) (hg : w.grownBy w4 v2.ownBlock)
    (hown' : w4.ownsRow (b6 + 1) 32 5 v' (out ++ [sp]).length (spFlat (out ++ [sp]))) (hn : out.length < 200) : PF s w0 b1 b2 b3 b4 b5 b6 w4.heap.size l (out ++ [sp]) (w4.setCell ⟨b2, 0, none⟩ v') := by
  obtain ⟨k1, k2, k3, k4, k5, k6, k7, k8⟩ := h.lt
  have hsz := hg.size
  have t : ∀ {k : Nat}, k ≤ b6 → w4.heap[k]? = w.heap[k]? := fun {k} hk => hg.block k (by omega) (by intro e; have := (hown.lt k e.symm).1; omega)
  obtain ⟨u2, q2, o2, e2⟩ := h.h2
  obtain ⟨v4, q4⟩ := h.h4
  obtain ⟨v5, q5, r5, e5⟩ := h.h5
  have q2' := set1 v' ((t (by omega)).trans q2)
  refine ⟨set_keep ((t (by omega)).trans h.h1) (by omega) _, ⟨v', q2', ownsRow_setCell_below hown' (by show b2 < _; omega) _, fun k hk => (hown'.lt k hk).2⟩, set_keep ((t (by omega)).trans h.h3) (by omega) _, ⟨v4, set_keep ((t (by omega)).trans q4) (by omega) _⟩,
    ⟨v5, set_keep ((t (by omega)).trans q5) (by omega) _, ?_, e5⟩, set_keep ((t (by omega)).trans h.h6) (by omega) _, ?_, ⟨k1, k2, k3, k4, k5, k6, by omega, by simp [World.setCell]⟩, h.hl, h.hs, by simp; omega⟩
  · refine r5.of_block (by simp [World.setCell]; omega) fun a m c hv hn => ?_
    subst hv
    rcases e5 with e5 | e5
    · exact absurd e5 hn
    · have hk := e5 a.block rfl
      rw [heap_setCell_other _ ⟨b2, 0, none⟩ _ _ ?_]
      · exact t (by omega)
      · intro he
        have he' : a.block = b2 := he
        obtain ⟨a', c', hsl, _, _, hcells⟩ := r5.slice
        cases hsl
        obtain ⟨g, off, hgo, hc⟩ := hcells hn
        cases hgo
        have hb2 : g = b2 := he'
        subst hb2
        have hlen : (tokFlat l).length = l.length * 4 := r5.1
        have h0 : ∀ j, j < 4 → w.cell? ⟨g, off + j, none⟩ = (tokFlat l)[j]? := fun j hj => by
          have hj' : j < (tokFlat l).length := by omega
          rw [List.getElem?_eq_getElem hj']
          exact hc j _ (List.getElem?_eq_getElem hj')
        have h1 := h0 1 (by omega)
        rw [cell_of_row _ _ _ _ _ _ q2] at h1
        rw [Array.getElem?_eq_none (by simp)] at h1
        rw [List.getElem?_eq_getElem (by omega)] at h1
        cases h1
  · have hbb := h.hb.grown hg h.hb.size (fun k hk => by have := (hown.lt k hk).1; omega)
    exact hbb.setCell (by show _ ≤ b2; omega) _
theorem tok_field (k n a : Int) (t : ByteArray) (w : World) : (Instr.field 50 (.agg #[.int .i64 k, .string t, .int .i64 n, .int .i64 a]) 2).run Tryd.prog w = .ok (.int .i64 n) w := by kernel_rfl
theorem info_sp : (Tryd.prog.info? 32).map (fun i => (i.zero, i.size, i.bytes)) = some (some (spV ⟨0, 0, 0, 0, 0⟩), 5, 40) := by kernel_rfl
theorem sp_one (s : Sp) : ∀ u ∈ spCells s, u.oneCell' = true := by
  intro u hu
  simp [spCells] at hu
  rcases hu with rfl | rfl | rfl | rfl | rfl <;> rfl
end Go.Proofs.YtedddaojcknemaaDoor
