import Derived.Test.YtedddaojcknemaaDoorWeaB
import Derived.Test.YtedddaojcknemaaDoorRow
namespace Go.Proofs.YtedddaojcknemaaDoor
open Go.RowKit

/-- The panic that Parse's closures raise. -/
def failE (e a : Int) : List PanicEntry := [{ v := .iface 56 (.agg #[.int .i64 e, .int .i64 a]), recovered := false }]

/-- What next does to the tokens that are left. -/
def NextPost (w : World) (v : Value) (b5 : Nat) (sz : Int) (kind : Int) (l : List Lx.Tok) (e : Ending) (w' : World) : Prop :=
  w.grownBy w' (some b5) ∧
  match l with
  | [] => e = .panicked (failE 6 sz)
  | t :: r => if t.kind = kind then e = .returned (tokV t.kind t.text t.n t.at_) ∧ ∃ v', w'.heap[b5]? = some (.cells #[v'] 46 (0, 0)) ∧ ReadRow w' 4 v' r.length (tokFlat r) ∧ v'.ownBlock = v.ownBlock
    else e = .panicked (failE 5 t.at_)

set_option maxRecDepth 100000 in
set_option maxHeartbeats 1000000 in
theorem next_none (w : World) (b5 b1 : Nat) (s : ByteArray) (kind : Int) (v : Value) (hT : w.heap[b5]? = some (.cells #[v] 46 (0, 0))) (hX : w.heap[b1]? = some (.cells #[.string s] 9 (0, 0))) (hR : ReadRow w 4 v 0 []) (_hm : s.size ≤ 20000) :
    Calls Tryd.prog 27 #[.int .i64 kind, .pointer (some ⟨b5, 0, none⟩), .pointer (some ⟨b1, 0, none⟩)] w (NextPost w v b5 s.size kind []) := by
  obtain ⟨a, c, rfl, _, _, _⟩ := hR.slice
  have c5 := (cell_of_row _ _ 0 _ _ _ hT).trans (show _ = some (Value.slice a 0 c) from rfl)
  have c1 := (cell_of_row _ _ 0 _ _ _ hX).trans (show _ = some (Value.string s) from rfl)
  have l5 := (Array.getElem?_eq_some_iff.1 hT).1
  have l1 := (Array.getElem?_eq_some_iff.1 hX).1
  clear hT hX hR
  go_enter Tryd.func27, Tryd.ntmps27
  go_wp2
  exact ⟨rfl, World.grownBy_alloc _ _ _, rfl⟩

theorem readTok_cells {w : World} {v : Value} {t : Lx.Tok} {r : List Lx.Tok} (hR : ReadRow w 4 v (r.length + 1) (tokFlat (t :: r))) :
    ∃ g off c, v = .slice (some ⟨g, off, none⟩) (r.length + 1) c ∧ r.length + 1 ≤ c ∧ c ≤ maxLen ∧ g < w.heap.size ∧ w.cell? ⟨g, off, none⟩ = some (.int .i64 t.kind) ∧ w.cell? ⟨g, off + 1, none⟩ = some (.string ⟨t.text.toArray⟩) ∧
      w.cell? ⟨g, off + 2, none⟩ = some (.int .i64 t.n) ∧ w.cell? ⟨g, off + 3, none⟩ = some (.int .i64 t.at_) := by
  obtain ⟨a, c, rfl, h2, h3, h4⟩ := hR.slice
  obtain ⟨g, off, rfl, hc⟩ := h4 (by omega)
  refine ⟨g, off, c, rfl, h2, h3, hR.lt _ _ _ rfl (by omega), hc 0 _ rfl, hc 1 _ rfl, hc 2 _ rfl, hc 3 _ rfl⟩

theorem tokens_apart {w : World} {g off b5 : Nat} {v u1 u2 : Value} {t : TypeId} (hT : w.heap[b5]? = some (.cells #[v] t (0, 0))) (_h0 : w.cell? ⟨g, off, none⟩ = some u1) (h1 : w.cell? ⟨g, off + 1, none⟩ = some u2) : g ≠ b5 := by
  rintro rfl
  rw [cell_of_row _ _ _ _ _ _ hT] at h1
  have : (#[v] : Array Value).size ≤ off + 1 := by simp
  rw [Array.getElem?_eq_none this] at h1
  cases h1

theorem nextPost_ok (w : World) (b5 : Nat) (sz kind : Int) (t : Lx.Tok) (r : List Lx.Tok) (g off : Nat) {c : Nat} (hk : t.kind = kind) (v' : Value) (hown : v'.ownBlock = some g) (hT : w.heap[b5]? = some (.cells #[.slice (some ⟨g, off, none⟩) (r.length + 1) c] 46 (0, 0))) (hap : g ≠ b5) (_hg : g < w.heap.size)
    (_hR : ReadRow w 4 (.slice (some ⟨g, off, none⟩) (r.length + 1) c) (r.length + 1) (tokFlat (t :: r))) (hv : ReadRow w 4 v' r.length (tokFlat r)) (o1 o2 : Obj) :
    NextPost w (.slice (some ⟨g, off, none⟩) (r.length + 1) c) b5 sz kind (t :: r) (.returned (tokV t.kind t.text t.n t.at_)) (((w.setCell ⟨b5, 0, none⟩ v').alloc o1).alloc o2) := by
  have hg1 : w.grownBy (w.setCell ⟨b5, 0, none⟩ v') (some b5) := grown_set (World.grownBy.refl _ _) _ _ rfl
  have hg2 : w.grownBy (((w.setCell ⟨b5, 0, none⟩ v').alloc o1).alloc o2) (some b5) := (hg1.trans (World.grownBy_alloc _ _ _)).trans (World.grownBy_alloc _ _ _)
  refine ⟨hg2, ?_⟩
  show if t.kind = kind then _ else _
  rw [if_pos hk]
  have l5 := (Array.getElem?_eq_some_iff.1 hT).1
  refine ⟨rfl, v', ?_, ?_, hown.trans rfl⟩
  · have h1 := heap_setCell_same w b5 0 _ _ v' hT
    have hs : (w.setCell ⟨b5, 0, none⟩ v').heap.size = w.heap.size := by simp [World.setCell]
    exact ((Below.heap_alloc _ o2 b5 (by simp; omega)).trans (Below.heap_alloc _ o1 b5 (by omega))).trans h1
  · refine hv.grown hg2 ?_
    by_cases hn : r.length = 0
    · exact .inl hn
    · exact .inr (by rw [hown]; simpa using hap)

set_option maxRecDepth 100000 in
set_option maxHeartbeats 2000000 in
theorem next_some (w : World) (b5 b1 : Nat) (s : ByteArray) (kind : Int) (v : Value) (t : Lx.Tok) (r : List Lx.Tok) (hT : w.heap[b5]? = some (.cells #[v] 46 (0, 0)))
    (hR : ReadRow w 4 v (r.length + 1) (tokFlat (t :: r))) (hm : r.length < 5000) :
    Calls Tryd.prog 27 #[.int .i64 kind, .pointer (some ⟨b5, 0, none⟩), .pointer (some ⟨b1, 0, none⟩)] w (NextPost w v b5 s.size kind (t :: r)) := by
  obtain ⟨g, off, c, rfl, h2, h3, hg, q0, q1, q2, q3⟩ := readTok_cells hR
  have hap := tokens_apart hT q0 q1
  have c5 := (cell_of_row _ _ 0 _ _ _ hT).trans (show _ = some (Value.slice (some ⟨g, off, none⟩) (r.length + 1) c) from rfl)
  have f5 := frozen_of_row _ _ 0 _ _ hT
  have l5 := (Array.getElem?_eq_some_iff.1 hT).1
  have HT := Lib.hid hT; have HR := Lib.hid hR; clear hT hR
  have hlen : ((r.length : Int) + 1 == 0) = false := by simp; omega
  obtain ⟨tk, tt, tn, ta⟩ := t
  simp only [] at q0 q1 q2 q3
  by_cases hk : tk = kind
  · have hkb : (tk != kind) = false := by simp [hk]
    have HK := Lib.hid hk; clear hk
    by_cases hc1 : c = 1
    · go_enter Tryd.func27, Tryd.ntmps27
      go_wp2
      refine bodyPost_ret (v := tokV tk tt tn ta) (by simp [results, Tryd.results27, go_sem, tokV]) rfl ?_
      refine nextPost_ok _ _ _ _ _ _ _ _ HK.out (.slice (some ⟨g, off, none⟩) r.length 0) rfl (by exact HT.out) hap hg HR.out ?_ _ _
      exact HR.out.tail rfl _ (fun hn => by omega) 0 ⟨by omega, by unfold maxLen; omega⟩
    · go_enter Tryd.func27, Tryd.ntmps27
      go_wp2
      refine bodyPost_ret (v := tokV tk tt tn ta) (by simp [results, Tryd.results27, go_sem, tokV]) rfl ?_
      refine nextPost_ok _ _ _ _ _ _ _ _ HK.out (.slice (some ⟨g, off + 4, none⟩) r.length (c - 1)) rfl (by exact HT.out) hap hg HR.out ?_ _ _
      exact HR.out.tail rfl _ (fun _ => rfl) (c - 1) ⟨by omega, by omega⟩
  · have hkb : (tk != kind) = true := by simpa using hk
    have HK := Lib.hid hk; clear hk
    go_enter Tryd.func27, Tryd.ntmps27
    go_wp2
    refine ⟨rfl, World.grownBy.trans (World.grownBy_alloc _ _ _) (World.grownBy_alloc _ _ _), ?_⟩
    show if tk = kind then _ else _
    rw [if_neg HK.out]
    rfl

/-- next: the token at the head, if it is of the kind. -/
theorem nxt_any (w : World) (b5 b1 : Nat) (s : ByteArray) (kind : Int) (v : Value) (l : List Lx.Tok) (hT : w.heap[b5]? = some (.cells #[v] 46 (0, 0))) (hX : w.heap[b1]? = some (.cells #[.string s] 9 (0, 0)))
    (hR : ReadRow w 4 v l.length (tokFlat l)) (hm : s.size ≤ 20000) (hl : l.length ≤ 5000) :
    Calls Tryd.prog 27 #[.int .i64 kind, .pointer (some ⟨b5, 0, none⟩), .pointer (some ⟨b1, 0, none⟩)] w (NextPost w v b5 s.size kind l) := by
  cases l with
  | nil => exact next_none w b5 b1 s kind v hT hX hR hm
  | cons t r => exact next_some w b5 b1 s kind v t r hT hR (by simp at hl; omega)

/-- What must does. -/
def MustPost (w : World) (v : Value) (b5 : Nat) (sz : Int) (kind : Int) (text : List UInt8) (l : List Lx.Tok) (e : Ending) (w' : World) : Prop :=
  w.grownBy w' (some b5) ∧
  match l with
  | [] => e = .panicked (failE 6 sz)
  | t :: r => if t.kind = kind ∧ t.text = text then e = .returned (.int .i64 t.at_) ∧ ∃ v', w'.heap[b5]? = some (.cells #[v'] 46 (0, 0)) ∧ ReadRow w' 4 v' r.length (tokFlat r) ∧ v'.ownBlock = v.ownBlock
    else e = .panicked (failE 5 t.at_)

theorem mustKeep {w : World} {b : Nat} {o : Obj} (h : w.heap[b]? = some o) (o' : Obj) : (w.alloc o').heap[b]? = some o :=
  (Below.heap_alloc _ o' b (Array.getElem?_eq_some_iff.1 h).1).trans h

set_option maxRecDepth 100000 in
set_option maxHeartbeats 2000000 in
theorem must_any (w : World) (b6 b5 b1 : Nat) (s : ByteArray) (kind : Int) (text : ByteArray) (v : Value) (l : List Lx.Tok) (hN : w.heap[b6]? = some (.cells #[.func (.func 27) #[] #[.pointer (some ⟨b5, 0, none⟩), .pointer (some ⟨b1, 0, none⟩)]] 58 (0, 0)))
    (hT : w.heap[b5]? = some (.cells #[v] 46 (0, 0))) (hX : w.heap[b1]? = some (.cells #[.string s] 9 (0, 0)))
    (hR : ReadRow w 4 v l.length (tokFlat l)) (hm : s.size ≤ 20000) (hl : l.length ≤ 5000) :
    Calls Tryd.prog 28 #[.int .i64 kind, .string text, .pointer (some ⟨b6, 0, none⟩)] w (MustPost w v b5 s.size kind text.data.toList l) := by
  have c6 := (cell_of_row _ _ 0 _ _ _ hN).trans (show _ = some (Value.func (.func 27) #[] #[.pointer (some ⟨b5, 0, none⟩), .pointer (some ⟨b1, 0, none⟩)]) from rfl)
  have HR := Lib.hid hR; have HT := Lib.hid hT; have HX := Lib.hid hX
  clear hN hT hX hR
  go_enter Tryd.func28, Tryd.ntmps28
  go_wp2_with fail
  refine (nxt_any w b5 b1 s kind v l HT.out HX.out HR.out hm hl).mono ?_
  rintro e w1 ⟨hg, h⟩
  have HG := Lib.hid hg; clear hg
  cases l with
  | nil =>
    obtain rfl : e = _ := h
    go_wp2_with fail
    exact ⟨rfl, HG.out, rfl⟩
  | cons t r =>
    have h' : if t.kind = kind then _ else _ := h
    clear h
    by_cases hk : t.kind = kind
    · rw [if_pos hk] at h'
      obtain ⟨rfl, v', h1, h2, h3⟩ := h'
      have HH := Lib.hid (And.intro h1 (And.intro h2 h3)); clear h1 h2 h3
      unfold tokV
      by_cases ht : t.text = text.data.toList
      · have hb : (!t.text == text.toList) = false := by rw [Lib.toList_data, ht]; simp
        have HTX := Lib.hid ht; clear ht
        go_wp2_with fail
        go_ret
        refine ⟨HG.out.trans (World.grownBy_alloc _ _ _), ?_⟩
        show if t.kind = kind ∧ _ then _ else _
        rw [if_pos ⟨hk, HTX.out⟩]
        exact ⟨rfl, v', mustKeep HH.out.1 _, HH.out.2.1.below ((Below.refl _ _).alloc (Nat.le_refl _) _), HH.out.2.2⟩
      · have hb : (!t.text == text.toList) = true := by rw [Lib.toList_data]; simpa using ht
        have HTX := Lib.hid ht; clear ht
        go_wp2_with fail
        refine ⟨rfl, HG.out.trans (World.grownBy_alloc _ _ _), ?_⟩
        show if t.kind = kind ∧ _ then _ else _
        rw [if_neg (fun h => HTX.out h.2)]
        rfl
    · rw [if_neg hk] at h'
      obtain rfl : e = _ := h'
      go_wp2_with fail
      refine ⟨rfl, HG.out, ?_⟩
      show if t.kind = kind ∧ _ then _ else _
      rw [if_neg (fun h => hk h.1)]
end Go.Proofs.YtedddaojcknemaaDoor
