/- The reference's Parse: walked; it gives what weather.Parse gives. -/
import Derived.Test.YtedddaojcknemaaDoorRefP
import Derived.Test.YtedddaojcknemaaDoorParE
import Derived.Test.YtedddaojcknemaaDoorRefA
namespace Go.Proofs.YtedddaojcknemaaDoor
open Go.RowKit

theorem RDB.below {b : Nat} {sz : Int} {R : Rz.Rd} {w w' : World} (h : RDB b sz R w) (hB : Below (b + 1) w w') : RDB b sz R w' := by
  obtain ⟨v, hb, hr, hn, hl⟩ := h
  refine ⟨v, (hB.block b (by omega)).trans hb, ?_, hn, hl⟩
  refine hr.of_block hB.size fun a m c hv hn' => ?_
  subst hv
  rcases hn with hn | hn
  · exact absurd hn hn'
  · exact hB.block _ (by have := hn a.block rfl; omega)

theorem RDB.grown {b : Nat} {sz : Int} {R : Rz.Rd} {w w' : World} {row : Option Nat} (h : RDB b sz R w) (hg : w.grownBy w' row) (hn : ∀ k, row = some k → b < k) (hb : b < w.heap.size) : RDB b sz R w' := by
  obtain ⟨v, h1, hr, hm, hl⟩ := h
  refine ⟨v, (hg.block b hb (by intro e; have := hn b e.symm; omega)).trans h1, hr.of_block hg.size (fun a m c hv hn' => hg.block a.block (hr.lt a m c hv hn') ?_), hm, hl⟩
  intro e
  rcases hm with hm | hm
  · exact hn' hm
  · have h5 := hm a.block (by rw [hv]; rfl)
    have h6 := hn _ e.symm
    omega
/-- Parse's state within a round. -/
structure PS (sz : Int) (w : World) (br bs : Nat) (R : Rz.Rd) (v : Value) (out : List Sp) (sp : Sp) (W : World) : Prop where
  rd : RDB br sz R W
  ro : W.ownsRow (br + 1) 32 5 v out.length (spFlat out)
  ob : ∀ k, v.ownBlock = some k → k < bs
  hs : W.heap[bs]? = some (.cells (spCells sp).toArray 32 (0, 0))
  hb : Below w.heap.size w W
  lt : w.heap.size ≤ br ∧ br < bs ∧ bs < W.heap.size
section
variable {sz : Int} {w : World} {br bs : Nat} {R R' : Rz.Rd} {v : Value} {out : List Sp} {sp : Sp} {W W' : World}
theorem PS.call (h : PS sz w br bs R v out sp W) (hp : RPost br sz R' W W') : PS sz w br bs R' v out sp W' where
  rd := hp.2
  ro := h.ro.kept hp.1 (by
    by_cases hv : v.ownBlock = none
    · exact .inl hv
    · refine .inr fun e => ?_
      have := (h.ro.lt _ e).1
      omega)
  ob := h.ob
  hs := (hp.1.block bs h.lt.2.2 (by have := h.lt.2.1; simp; omega)).trans h.hs
  hb := h.hb.grown hp.1 h.hb.size (by rintro k ⟨⟩; exact h.lt.1)
  lt := ⟨h.lt.1, h.lt.2.1, Nat.lt_of_lt_of_le h.lt.2.2 hp.1.size⟩
theorem PS.store (h : PS sz w br bs R v out sp W) (i : Nat) (u : Value) (sp' : Sp) (he : (spCells sp).toArray.setIfInBounds i u = (spCells sp').toArray) : PS sz w br bs R v out sp' (W.setCell ⟨bs, i, none⟩ u) where
  rd := h.rd.below ((Below.refl _ _).setCell (by show br + 1 ≤ bs; have := h.lt.2.1; omega) _)
  ro := by
    refine h.ro.kept (row := some bs) (grown_set (World.grownBy.refl _ _) _ _ rfl) ?_
    by_cases hv : v.ownBlock = none
    · exact .inl hv
    · refine .inr fun e => ?_
      have := h.ob _ e
      omega
  ob := h.ob
  hs := by rw [← he]; exact heap_setCell_same _ bs i _ _ u h.hs
  hb := h.hb.setCell (by show w.heap.size ≤ bs; have := h.lt; omega) _
  lt := ⟨h.lt.1, h.lt.2.1, by simpa [World.setCell] using h.lt.2.2⟩
/-- The slice r.l moved on. -/
theorem PS.tail {t : Lx.Tok} {q : List Lx.Tok} {e a : Int} {v' : Value} (h : PS sz w br bs ⟨t :: q, e, a⟩ v out sp W) (hp : RPost br sz ⟨q, e, a⟩ W (W.setCell ⟨br, 0, none⟩ v')) : PS sz w br bs ⟨q, e, a⟩ v out sp (W.setCell ⟨br, 0, none⟩ v') := h.call hp
end

theorem tail_run {t : Lx.Tok} {q : List Lx.Tok} {g off cp : Nat} {w : World} (h2 : q.length + 1 ≤ cp) (h3 : cp ≤ maxLen) (hm : q.length ≤ 5000) (hR : ReadRow w 4 (.slice (some ⟨g, off, none⟩) (q.length + 1) cp) (q.length + 1) (tokFlat (t :: q))) :
    ∃ v', (∀ W, (Instr.slice 46 (.slice (some ⟨g, off, none⟩) (q.length + 1) cp) (some (.int .i64 1)) none none).run Tryd.prog W = .ok v' W) ∧ ReadRow w 4 v' q.length (tokFlat q) ∧ v'.ownBlock = some g := by
  unfold maxLen at h3
  have h1 : ¬ ((q.length : Int) + 1 < 1) := by omega
  by_cases hc : cp = 1
  · refine ⟨.slice (some ⟨g, off, none⟩) q.length 0, fun W => ?_, hR.tail rfl _ (fun hn => by omega) 0 ⟨by omega, by unfold maxLen; omega⟩, rfl⟩
    have : q.length = 0 := by omega
    subst hc
    simp [go_sem, Tryd.underlying46, h1]
  · refine ⟨.slice (some ⟨g, off + 4, none⟩) q.length (cp - 1), fun W => ?_, hR.tail rfl _ (fun _ => rfl) (cp - 1) ⟨by omega, by unfold maxLen; omega⟩, rfl⟩
    simp [go_sem, Tryd.underlying46, hc, h1]
theorem ps_start {sz : Int} {w wr : World} {br : Nat} {t : Lx.Tok} {q : List Lx.Tok} {a : Int} {v v' : Value} {out : List Sp} {w0 : Value} (sp : Sp) (hb : wr.heap[br]? = some (.cells #[w0, .int .i64 sz, .int .i64 0, .int .i64 a] 71 (0, 0)))
    (hr : ReadRow wr 4 v' q.length (tokFlat q)) (g : Nat) (hv : v'.ownBlock = some g) (hg : g < br) (hl : q.length ≤ 5000) (ho : wr.ownsRow (br + 1) 32 5 v out.length (spFlat out)) (hB : Below w.heap.size w wr) (h1 : w.heap.size ≤ br) (h2 : br < wr.heap.size) (_ht : t = t) :
    PS sz w br wr.heap.size ⟨q, 0, a⟩ v out sp ((wr.setCell ⟨br, 0, none⟩ v').alloc (.cells (spCells sp).toArray 32)) := by
  have hp := set0_post (sz := sz) (e := 0) (a := a) hb hr (.inr (fun k hk => by rw [hv] at hk; cases hk; exact hg)) hl
  have hz : (wr.setCell ⟨br, 0, none⟩ v').heap.size = wr.heap.size := by simp [World.setCell]
  refine ⟨hp.2.below ((Below.refl _ _).alloc (by rw [hz]; omega) _), ?_, fun k hk => (ho.lt k hk).2, ?_, (hB.setCell (by exact h1) _).alloc (by rw [hz]; exact hB.size) _, h1, h2, by simp [hz]⟩
  · refine (ho.kept hp.1 ?_).alloc _
    by_cases hv : v.ownBlock = none
    · exact .inl hv
    · refine .inr fun e => ?_
      have := (ho.lt _ e).1
      omega
  · have := heap_alloc_new (wr.setCell ⟨br, 0, none⟩ v') (.cells (spCells sp).toArray 32)
    rw [hz] at this; exact this
theorem ps_start0 {sz : Int} {w wr : World} {br : Nat} {R : Rz.Rd} {v : Value} {out : List Sp} (sp : Sp) (hr : RDB br sz R wr) (ho : wr.ownsRow (br + 1) 32 5 v out.length (spFlat out)) (hB : Below w.heap.size w wr) (h1 : w.heap.size ≤ br) (h2 : br < wr.heap.size) :
    PS sz w br wr.heap.size R v out sp (wr.alloc (.cells (spCells sp).toArray 32)) :=
  ⟨hr.below ((Below.refl _ _).alloc (by omega) _), ho.alloc _, fun k hk => (ho.lt k hk).2, heap_alloc_new _ _, hB.alloc hB.size _, h1, h2, by simp⟩
/-- What the loop over spells carries. -/
def RPRel (s : ByteArray) (w : World) (br k : Nat) (v : Value) (W : World) : Prop :=
  ∃ l a out, RDB br s.size ⟨l, 0, a⟩ W ∧ W.ownsRow (br + 1) 32 5 v out.length (spFlat out) ∧ out.length ≤ 200 ∧ Below w.heap.size w W ∧ w.heap.size ≤ br ∧ br < W.heap.size ∧
    Pz.go s.size k l out = Pz.parse s.data.toList ∧ l.length ≤ k

set_option maxRecDepth 100000 in
set_option maxHeartbeats 8000000 in
theorem rparse_ok (s : ByteArray) (w : World) : Calls Tryd.prog 15 #[.string s] w (ParsePost s w) := by
  obtain ⟨i0, hi, hz0, hz1, hz2⟩ := info_parts info_sp
  have HZ := Lib.hid (And.intro hi (And.intro hz0 (And.intro hz1 hz2)))
  clear hi hz0 hz1 hz2
  go_enter Tryd.func15, Tryd.ntmps15
  go_wp2_with fail
  refine (rlex_any s _).mono ?_
  rintro e w1 ⟨v, rfl, o1, B1⟩
  have HO := Lib.hid o1; have HB1 := Lib.hid B1; clear o1 B1
  have hsz1 := HB1.out.size
  cases hlx : Lx.lex s.data.toList with
  | mk toks err at_ =>
  have HO2 : Hid (w1.ownsRow w.heap.size 50 4 v toks.length (tokFlat toks)) := Lib.hid (by have := HO.out; rw [hlx] at this; exact this)
  clear HO
  simp only []
  have HLX := Lib.hid hlx; clear hlx
  obtain ⟨a, c, rfl⟩ := ownsRow_slice HO2.out
  by_cases he : err = 0
  · subst he
    have heb : ((0 : Int) != 0) = false := rfl
    obtain ⟨hl, hs⟩ := lex_len _ _ _ HLX.out
    have HGO : Hid (Pz.go s.size toks.length toks [] = Pz.parse s.data.toList) := Lib.hid (by unfold Pz.parse; rw [HLX.out]; simp)
    have hs2 : s.size ≤ 20000 := by simpa using hs
    have HL := Lib.hid hl; clear hl hs
    go_wp2_with fail
    have hst : Hid (RPRel s w w1.heap.size toks.length (.slice none 0 0) (w1.alloc (.cells #[.slice a toks.length c, .int .i64 s.size, .int .i64 0, .int .i64 0] 71))) := Lib.hid
      ⟨toks, 0, [], ⟨_, heap_alloc_new _ _, (ReadRow.of_owns HO2.out).below ((Below.refl _ _).alloc (Nat.le_refl _) _), .inr (fun k hk => (HO2.out.lt k hk).2), HL.out⟩, World.ownsRow_nil _ _ _ _, by simp, HB1.out.alloc hsz1 _, hsz1, by simp, HGO.out, Nat.le_refl _⟩
    obtain ⟨br, hbr⟩ : ∃ b, b = w1.heap.size := ⟨_, rfl⟩
    rw [← hbr] at hst ⊢
    generalize w1.alloc (.cells #[.slice a toks.length c, .int .i64 s.size, .int .i64 0, .int .i64 0] 71) = W at hst ⊢
    clear HB1 HO2 HLX HGO hsz1 hbr HL
    go_loopg [9] toks.length (fun k x wx => Hid (RPRel s w br k x wx))
    case atStart => exact hst
    case round =>
      obtain ⟨l, at2, out, hrd, hro, hol, hbel, hwb, hbw, hgo, hlk⟩ := hrel.out
      obtain ⟨a2, c2, rfl⟩ := ownsRow_slice hro
      have HR := Lib.hid hrd; have HO := Lib.hid hro; have HB := Lib.hid hbel; have HG := Lib.hid hgo
      clear hst hrel hrd hro hbel hgo
      cases l with
      | nil =>
        obtain ⟨ad, cp, hb, hr⟩ := reader_none HR.out
        have d0 := (cell_of_row _ _ 0 _ _ _ hb).trans (show _ = some (Value.slice ad 0 cp) from rfl)
        clear hb hr
        have hP : Hid (Pz.parse s.data.toList = ⟨out, 0, 0⟩) := Lib.hid (by
          rw [← HG.out]
          cases gk <;> simp [Pz.go])
        go_wp2_with fail
        go_ret3
        exact ⟨_, by rw [hP.out]; rfl, by rw [hP.out]; exact ownsRow_base HO.out (by omega), HB.out⟩
      | cons t q =>
        obtain ⟨k', rfl⟩ : ∃ k', gk = k' + 1 := ⟨gk - 1, by simp at hlk; omega⟩
        have hqk : q.length ≤ k' := by simp at hlk; omega
        have HG0 : Hid (Rz.t0 s.size (Pz.go s.size k') out ⟨t :: q, 0, at2⟩ = Pz.parse s.data.toList) := Lib.hid (by rw [Rz.t0_live, ← HG.out]; rfl)
        obtain ⟨g, off, cp, hgb, h2, h3, hql, hb, hr, q0, q1, q2, q3⟩ := reader_cells HR.out
        have hne : g ≠ br := by omega
        have d0 := (cell_of_row _ _ 0 _ _ _ hb).trans (show _ = some (Value.slice (some ⟨g, off, none⟩) (q.length + 1) cp) from rfl)
        have f0 := frozen_of_row _ _ 0 _ _ hb
        have hgw : g < wr.heap.size := by omega
        have HRW := Lib.hid (And.intro hb hr)
        clear hb hr HG hlk
        have hlen2 : (0 : Int) < (q.length : Int) + 1 := by omega
        obtain ⟨tk, tt, tn, ta⟩ := t
        simp only [] at q0 q1 q2 q3
        obtain ⟨v', hsl, hvr, hvo⟩ := tail_run (t := ⟨tk, tt, tn, ta⟩) h2 h3 hql HRW.out.2
        obtain ⟨a5, c5, rfl, _⟩ := hvr.slice
        have HV := Lib.hid (And.intro hvr hvo); clear hvr hvo
        obtain ⟨kk, hkk⟩ : ∃ k, k = Pz.kw (Rz.word ⟨⟨tk, tt, tn, ta⟩ :: q, 0, at2⟩) := ⟨_, rfl⟩
        by_cases hk : tk = 1
        case' neg =>
          have hkb : (tk == 1) = false := by simpa using hk
          have HKW : Hid (Pz.kw (Rz.word ⟨⟨tk, tt, tn, ta⟩ :: q, 0, at2⟩) = 0) := Lib.hid (by unfold Rz.word; simp only []; rw [if_neg hk]; rfl)
          clear hk hkk
          go_wp2_with fail
          have HP0 : Hid (PS s.size w br wr.heap.size _ (.slice a2 out.length c2) out ⟨0, 0, 0, 0, 0⟩ (wr.alloc (.cells #[.int .i64 0, .int .i64 0, .int .i64 0, .int .i64 0, .int .i64 0] 32))) := Lib.hid (ps_start0 (w := w) ⟨0, 0, 0, 0, 0⟩ HR.out HO.out HB.out hwb hbw)
          generalize wr.alloc (.cells #[.int .i64 0, .int .i64 0, .int .i64 0, .int .i64 0, .int .i64 0] 32) = W0 at HP0 ⊢
          obtain ⟨bs, hbs⟩ : ∃ b, b = wr.heap.size := ⟨_, rfl⟩
          rw [← hbs] at HP0 ⊢
          clear hbs
          refine (rfail_any br s.size _ _ HP0.out.rd).mono ?_
          rintro e w2 ⟨rfl, hp⟩
          have HL : Hid (Rz.LenOk k' (Rz.fail s.size ⟨⟨tk, tt, tn, ta⟩ :: q, 0, at2⟩)) := Lib.hid Rz.fail_len0
          have HK1 : Hid (Rz.t3 s.size (Pz.go s.size k') out 0 0 0 (Rz.fail s.size ⟨⟨tk, tt, tn, ta⟩ :: q, 0, at2⟩) = Pz.parse s.data.toList) := Lib.hid (by
            have hh := HG0.out
            unfold Rz.t0 at hh
            rw [HKW.out] at hh
            exact hh)
          have HP1 := Lib.hid (HP0.out.call hp); clear hp HP0
          clear HG0 HKW d0 f0 q0 q1 q2 q3 hsl HRW HV HR HO HB
          go_wp2_with fail
          obtain ⟨R, k3, q3, n3, W3, hW3, HP, HK, HL⟩ : ∃ R k q n W3, W3 = w2 ∧ Hid (PS s.size w br bs R (.slice a2 out.length c2) out ⟨k, q, n, 0, 0⟩ W3) ∧ Hid (Rz.t3 s.size (Pz.go s.size k') out k q n R = Pz.parse s.data.toList) ∧ Hid (Rz.LenOk k' R) := ⟨_, 0, 0, 0, _, rfl, HP1, HK1, HL⟩
          rw [← hW3]; clear hW3
        case' pos =>
          subst hk
          by_cases k1 : tt = [99, 108, 111, 117, 100]
          case' pos =>
            have hb1 : (tt == [99, 108, 111, 117, 100]) = true := by simp [k1]
            have HKW : Hid (Pz.kw tt = 1) := Lib.hid (by rw [k1]; rfl)
            clear k1 hkk
            go_wp2_with fail
            have HP0 : Hid (PS s.size w br wr.heap.size ⟨q, 0, at2⟩ (.slice a2 out.length c2) out ⟨1, 0, 0, 0, 0⟩ ((wr.setCell ⟨br, 0, none⟩ (.slice a5 q.length c5)).alloc (.cells #[.int .i64 1, .int .i64 0, .int .i64 0, .int .i64 0, .int .i64 0] 32))) := Lib.hid (ps_start (t := ⟨1, tt, tn, ta⟩) (w := w) ⟨1, 0, 0, 0, 0⟩ HRW.out.1 HV.out.1 g HV.out.2 hgb hql HO.out HB.out hwb hbw rfl)
            generalize (wr.setCell ⟨br, 0, none⟩ (.slice a5 q.length c5)).alloc (.cells #[.int .i64 1, .int .i64 0, .int .i64 0, .int .i64 0, .int .i64 0] 32) = W0 at HP0 ⊢
            obtain ⟨bs, hbs⟩ : ∃ b, b = wr.heap.size := ⟨_, rfl⟩
            rw [← hbs] at HP0 ⊢
            clear hbs
            have HL : Hid (Rz.LenOk k' ⟨q, 0, at2⟩) := Lib.hid (fun _ => hqk)
            have HK0 : Hid (Rz.t2q s.size (Pz.go s.size k') out 1 ⟨q, 0, at2⟩ = Pz.parse s.data.toList) := Lib.hid (by
              have hh := HG0.out
              have hw : Rz.word ⟨⟨1, tt, tn, ta⟩ :: q, 0, at2⟩ = tt := rfl
              unfold Rz.t0 at hh
              rw [hw, HKW.out] at hh
              exact hh)
            clear HG0 HKW d0 f0 q0 q1 q2 q3 hsl HRW HV HR HO HB
            refine (rnum_any br s.size _ _ HP0.out.rd).mono ?_
            rintro e w2 ⟨rfl, hp⟩
            generalize hN : Rz.num s.size _ = nr at hp ⊢
            obtain ⟨n1, R1⟩ := nr
            simp only [] at hp ⊢
            replace HL : Hid (Rz.LenOk k' R1) := Lib.hid (by have hh := Rz.num_len (sz := s.size) HL.out; rw [hN] at hh; exact hh)
            have HK1 : Hid (Rz.t2n s.size (Pz.go s.size k') out 1 n1 R1 = Pz.parse s.data.toList) := Lib.hid (by have hh := HK0.out; unfold Rz.t2q at hh; rw [hN] at hh; exact hh)
            have HPa := Lib.hid (HP0.out.call hp); clear hp hN
            have s1 := (cell_of_row _ _ 1 _ _ _ HPa.out.hs).trans (show _ = some (Value.int .i64 0) from rfl)
            have f1 := frozen_of_row _ _ 1 _ _ HPa.out.hs
            go_wp2_with fail
            have HP1 := Lib.hid (HPa.out.store 1 (.int .i64 n1) ⟨1, n1, 0, 0, 0⟩ rfl)
            generalize w2.setCell ⟨bs, 1, none⟩ (.int .i64 n1) = W1 at HP1 ⊢
            clear s1 f1 HPa HP0 HK0
            refine (rnum_any br s.size _ _ HP1.out.rd).mono ?_
            rintro e w3 ⟨rfl, hp⟩
            generalize hN : Rz.num s.size _ = nr at hp ⊢
            obtain ⟨n2, R2⟩ := nr
            simp only [] at hp ⊢
            replace HL : Hid (Rz.LenOk k' R2) := Lib.hid (by have hh := Rz.num_len (sz := s.size) HL.out; rw [hN] at hh; exact hh)
            have HK2 : Hid (Rz.t3 s.size (Pz.go s.size k') out 1 n1 n2 R2 = Pz.parse s.data.toList) := Lib.hid (by have hh := HK1.out; unfold Rz.t2n at hh; rw [hN] at hh; exact hh)
            have HPb := Lib.hid (HP1.out.call hp); clear hp hN
            have s2 := (cell_of_row _ _ 2 _ _ _ HPb.out.hs).trans (show _ = some (Value.int .i64 0) from rfl)
            have f2 := frozen_of_row _ _ 2 _ _ HPb.out.hs
            go_wp2_with fail
            have HP2 := Lib.hid (HPb.out.store 2 (.int .i64 n2) ⟨1, n1, n2, 0, 0⟩ rfl)
            generalize w3.setCell ⟨bs, 2, none⟩ (.int .i64 n2) = W2 at HP2 ⊢
            clear s2 f2 HPb HP1 HK1
            obtain ⟨R, k3, q3, n3, W3, hW3, HP, HK, HL⟩ : ∃ R k q n W3, W3 = W2 ∧ Hid (PS s.size w br bs R (.slice a2 out.length c2) out ⟨k, q, n, 0, 0⟩ W3) ∧ Hid (Rz.t3 s.size (Pz.go s.size k') out k q n R = Pz.parse s.data.toList) ∧ Hid (Rz.LenOk k' R) := ⟨_, 1, n1, n2, _, rfl, HP2, HK2, HL⟩
            rw [← hW3]; clear hW3
          case' neg =>
            have hb1 : (tt == [99, 108, 111, 117, 100]) = false := by simpa using k1
            by_cases k2 : tt = [115, 101, 101, 105, 110, 103]
            case' pos =>
              have hb2 : (tt == [115, 101, 101, 105, 110, 103]) = true := by simp [k2]
              have HKW : Hid (Pz.kw tt = 2) := Lib.hid (by rw [k2]; rfl)
              clear k1 k2 hkk
              go_wp2_with fail
              have HP0 : Hid (PS s.size w br wr.heap.size ⟨q, 0, at2⟩ (.slice a2 out.length c2) out ⟨2, 0, 0, 0, 0⟩ ((wr.setCell ⟨br, 0, none⟩ (.slice a5 q.length c5)).alloc (.cells #[.int .i64 2, .int .i64 0, .int .i64 0, .int .i64 0, .int .i64 0] 32))) := Lib.hid (ps_start (t := ⟨1, tt, tn, ta⟩) (w := w) ⟨2, 0, 0, 0, 0⟩ HRW.out.1 HV.out.1 g HV.out.2 hgb hql HO.out HB.out hwb hbw rfl)
              generalize (wr.setCell ⟨br, 0, none⟩ (.slice a5 q.length c5)).alloc (.cells #[.int .i64 2, .int .i64 0, .int .i64 0, .int .i64 0, .int .i64 0] 32) = W0 at HP0 ⊢
              obtain ⟨bs, hbs⟩ : ∃ b, b = wr.heap.size := ⟨_, rfl⟩
              rw [← hbs] at HP0 ⊢
              clear hbs
              have HL : Hid (Rz.LenOk k' ⟨q, 0, at2⟩) := Lib.hid (fun _ => hqk)
              have HK0 : Hid (Rz.t2n s.size (Pz.go s.size k') out 2 0 ⟨q, 0, at2⟩ = Pz.parse s.data.toList) := Lib.hid (by
                have hh := HG0.out
                have hw : Rz.word ⟨⟨1, tt, tn, ta⟩ :: q, 0, at2⟩ = tt := rfl
                unfold Rz.t0 at hh
                rw [hw, HKW.out] at hh
                exact hh)
              clear HG0 HKW d0 f0 q0 q1 q2 q3 hsl HRW HV HR HO HB
              refine (rnum_any br s.size _ _ HP0.out.rd).mono ?_
              rintro e w2 ⟨rfl, hp⟩
              generalize hN : Rz.num s.size _ = nr at hp ⊢
              obtain ⟨n1, R1⟩ := nr
              simp only [] at hp ⊢
              replace HL : Hid (Rz.LenOk k' R1) := Lib.hid (by have hh := Rz.num_len (sz := s.size) HL.out; rw [hN] at hh; exact hh)
              have HK1 : Hid (Rz.t3 s.size (Pz.go s.size k') out 2 0 n1 R1 = Pz.parse s.data.toList) := Lib.hid (by have hh := HK0.out; unfold Rz.t2n at hh; rw [hN] at hh; exact hh)
              have HPa := Lib.hid (HP0.out.call hp); clear hp hN
              have s2 := (cell_of_row _ _ 2 _ _ _ HPa.out.hs).trans (show _ = some (Value.int .i64 0) from rfl)
              have f2 := frozen_of_row _ _ 2 _ _ HPa.out.hs
              go_wp2_with fail
              have HP1 := Lib.hid (HPa.out.store 2 (.int .i64 n1) ⟨2, 0, n1, 0, 0⟩ rfl)
              generalize w2.setCell ⟨bs, 2, none⟩ (.int .i64 n1) = W1 at HP1 ⊢
              clear s2 f2 HPa HP0 HK0
              obtain ⟨R, k3, q3, n3, W3, hW3, HP, HK, HL⟩ : ∃ R k q n W3, W3 = W1 ∧ Hid (PS s.size w br bs R (.slice a2 out.length c2) out ⟨k, q, n, 0, 0⟩ W3) ∧ Hid (Rz.t3 s.size (Pz.go s.size k') out k q n R = Pz.parse s.data.toList) ∧ Hid (Rz.LenOk k' R) := ⟨_, 2, 0, n1, _, rfl, HP1, HK1, HL⟩
              rw [← hW3]; clear hW3
            case' neg =>
              have hb2 : (tt == [115, 101, 101, 105, 110, 103]) = false := by simpa using k2
              by_cases k3 : tt = [99, 108, 111, 115, 101, 100]
              case' pos =>
                have hb3 : (tt == [99, 108, 111, 115, 101, 100]) = true := by simp [k3]
                have HKW : Hid (Pz.kw tt = 3) := Lib.hid (by rw [k3]; rfl)
                clear k1 k2 k3 hkk
                go_wp2_with fail
                have HP0 : Hid (PS s.size w br wr.heap.size ⟨q, 0, at2⟩ (.slice a2 out.length c2) out ⟨3, 0, 0, 0, 0⟩ ((wr.setCell ⟨br, 0, none⟩ (.slice a5 q.length c5)).alloc (.cells #[.int .i64 3, .int .i64 0, .int .i64 0, .int .i64 0, .int .i64 0] 32))) := Lib.hid (ps_start (t := ⟨1, tt, tn, ta⟩) (w := w) ⟨3, 0, 0, 0, 0⟩ HRW.out.1 HV.out.1 g HV.out.2 hgb hql HO.out HB.out hwb hbw rfl)
                generalize (wr.setCell ⟨br, 0, none⟩ (.slice a5 q.length c5)).alloc (.cells #[.int .i64 3, .int .i64 0, .int .i64 0, .int .i64 0, .int .i64 0] 32) = W0 at HP0 ⊢
                obtain ⟨bs, hbs⟩ : ∃ b, b = wr.heap.size := ⟨_, rfl⟩
                rw [← hbs] at HP0 ⊢
                clear hbs
                have HL : Hid (Rz.LenOk k' ⟨q, 0, at2⟩) := Lib.hid (fun _ => hqk)
                have HK0 : Hid (Rz.t3 s.size (Pz.go s.size k') out 3 0 0 ⟨q, 0, at2⟩ = Pz.parse s.data.toList) := Lib.hid (by
                  have hh := HG0.out
                  have hw : Rz.word ⟨⟨1, tt, tn, ta⟩ :: q, 0, at2⟩ = tt := rfl
                  unfold Rz.t0 at hh
                  rw [hw, HKW.out] at hh
                  exact hh)
                clear HG0 HKW d0 f0 q0 q1 q2 q3 hsl HRW HV HR HO HB
                obtain ⟨R, k3, q3, n3, W3, hW3, HP, HK, HL⟩ : ∃ R k q n W3, W3 = W0 ∧ Hid (PS s.size w br bs R (.slice a2 out.length c2) out ⟨k, q, n, 0, 0⟩ W3) ∧ Hid (Rz.t3 s.size (Pz.go s.size k') out k q n R = Pz.parse s.data.toList) ∧ Hid (Rz.LenOk k' R) := ⟨_, 3, 0, 0, _, rfl, HP0, HK0, HL⟩
                rw [← hW3]; clear hW3
              case' neg =>
                have hb3 : (tt == [99, 108, 111, 115, 101, 100]) = false := by simpa using k3
                have HKW : Hid (Pz.kw (Rz.word ⟨⟨1, tt, tn, ta⟩ :: q, 0, at2⟩) = 0) := Lib.hid (by show Pz.kw tt = 0; unfold Pz.kw; rw [if_neg k1, if_neg k2, if_neg k3])
                clear k1 k2 k3 hkk
                go_wp2_with fail
                have HP0 : Hid (PS s.size w br wr.heap.size _ (.slice a2 out.length c2) out ⟨0, 0, 0, 0, 0⟩ (wr.alloc (.cells #[.int .i64 0, .int .i64 0, .int .i64 0, .int .i64 0, .int .i64 0] 32))) := Lib.hid (ps_start0 (w := w) ⟨0, 0, 0, 0, 0⟩ HR.out HO.out HB.out hwb hbw)
                generalize wr.alloc (.cells #[.int .i64 0, .int .i64 0, .int .i64 0, .int .i64 0, .int .i64 0] 32) = W0 at HP0 ⊢
                obtain ⟨bs, hbs⟩ : ∃ b, b = wr.heap.size := ⟨_, rfl⟩
                rw [← hbs] at HP0 ⊢
                clear hbs
                refine (rfail_any br s.size _ _ HP0.out.rd).mono ?_
                rintro e w2 ⟨rfl, hp⟩
                have HL : Hid (Rz.LenOk k' (Rz.fail s.size ⟨⟨1, tt, tn, ta⟩ :: q, 0, at2⟩)) := Lib.hid Rz.fail_len0
                have HK1 : Hid (Rz.t3 s.size (Pz.go s.size k') out 0 0 0 (Rz.fail s.size ⟨⟨1, tt, tn, ta⟩ :: q, 0, at2⟩) = Pz.parse s.data.toList) := Lib.hid (by
                  have hh := HG0.out
                  unfold Rz.t0 at hh
                  rw [HKW.out] at hh
                  exact hh)
                have HP1 := Lib.hid (HP0.out.call hp); clear hp HP0
                clear HG0 HKW d0 f0 q0 q1 q2 q3 hsl HRW HV HR HO HB
                go_wp2_with fail
                obtain ⟨R, k3, q3, n3, W3, hW3, HP, HK, HL⟩ : ∃ R k q n W3, W3 = w2 ∧ Hid (PS s.size w br bs R (.slice a2 out.length c2) out ⟨k, q, n, 0, 0⟩ W3) ∧ Hid (Rz.t3 s.size (Pz.go s.size k') out k q n R = Pz.parse s.data.toList) ∧ Hid (Rz.LenOk k' R) := ⟨_, 0, 0, 0, _, rfl, HP1, HK1, HL⟩
                rw [← hW3]; clear hW3
        all_goals
          refine (rname_any br s.size 1 ⟨#[102, 114, 111, 109]⟩ _ _ HP.out.rd).mono ?_
          rintro e w4 ⟨rfl, hp⟩
          generalize hN : Rz.name s.size 1 _ _ = R4 at hp
          replace HL : Hid (Rz.LenOk k' R4) := Lib.hid (by rw [← hN]; exact Rz.name_len (sz := s.size) HL.out)
          have HK4 : Hid (Rz.t4 s.size (Pz.go s.size k') out k3 q3 n3 R4 = Pz.parse s.data.toList) := Lib.hid (by have hh := HK.out; unfold Rz.t3 at hh; rw [show Rz.name s.size 1 Pz.fromW _ = R4 from hN] at hh; exact hh)
          have HP4 := Lib.hid (HP.out.call hp); clear hp hN HP HK
          go_wp2_with fail
          refine (rnum_any br s.size _ _ HP4.out.rd).mono ?_
          rintro e w5 ⟨rfl, hp⟩
          generalize hN : Rz.num s.size _ = nr at hp ⊢
          obtain ⟨f5, R5⟩ := nr
          simp only [] at hp ⊢
          replace HL : Hid (Rz.LenOk k' R5) := Lib.hid (by have hh := Rz.num_len (sz := s.size) HL.out; rw [hN] at hh; exact hh)
          have HK5 : Hid (Rz.t5 s.size (Pz.go s.size k') out k3 q3 n3 f5 R5 = Pz.parse s.data.toList) := Lib.hid (by have hh := HK4.out; unfold Rz.t4 at hh; rw [hN] at hh; exact hh)
          have HPc := Lib.hid (HP4.out.call hp); clear hp hN
          have s3 := (cell_of_row _ _ 3 _ _ _ HPc.out.hs).trans (show _ = some (Value.int .i64 0) from rfl)
          have f3 := frozen_of_row _ _ 3 _ _ HPc.out.hs
          go_wp2_with fail
          have HP5 := Lib.hid (HPc.out.store 3 (.int .i64 f5) ⟨k3, q3, n3, f5, 0⟩ rfl)
          generalize w5.setCell ⟨bs, 3, none⟩ (.int .i64 f5) = W5 at HP5 ⊢
          clear s3 f3 HPc HP4 HK4
          refine (rname_any br s.size 1 ⟨#[117, 110, 116, 105, 108]⟩ _ _ HP5.out.rd).mono ?_
          rintro e w6 ⟨rfl, hp⟩
          generalize hN : Rz.name s.size 1 _ _ = R6 at hp
          replace HL : Hid (Rz.LenOk k' R6) := Lib.hid (by rw [← hN]; exact Rz.name_len (sz := s.size) HL.out)
          have HK6 : Hid (Rz.t6 s.size (Pz.go s.size k') out k3 q3 n3 f5 R6 = Pz.parse s.data.toList) := Lib.hid (by have hh := HK5.out; unfold Rz.t5 at hh; rw [show Rz.name s.size 1 Pz.untilW _ = R6 from hN] at hh; exact hh)
          have HP6 := Lib.hid (HP5.out.call hp); clear hp hN HP5 HK5
          go_wp2_with fail
          refine (rnum_any br s.size _ _ HP6.out.rd).mono ?_
          rintro e w7 ⟨rfl, hp⟩
          generalize hN : Rz.num s.size _ = nr at hp ⊢
          obtain ⟨u7, R7⟩ := nr
          simp only [] at hp ⊢
          replace HL : Hid (Rz.LenOk k' R7) := Lib.hid (by have hh := Rz.num_len (sz := s.size) HL.out; rw [hN] at hh; exact hh)
          have HK7 : Hid (Rz.t7 s.size (Pz.go s.size k') out ⟨k3, q3, n3, f5, u7⟩ R7 = Pz.parse s.data.toList) := Lib.hid (by have hh := HK6.out; unfold Rz.t6 at hh; rw [hN] at hh; exact hh)
          have HPd := Lib.hid (HP6.out.call hp); clear hp hN
          have s4 := (cell_of_row _ _ 4 _ _ _ HPd.out.hs).trans (show _ = some (Value.int .i64 0) from rfl)
          have f4 := frozen_of_row _ _ 4 _ _ HPd.out.hs
          have HP7 := Lib.hid (HPd.out.store 4 (.int .i64 u7) ⟨k3, q3, n3, f5, u7⟩ rfl)
          obtain ⟨l7, e7, a7⟩ := R7
          cases l7
          case' nil =>
            obtain ⟨ad7, cp7, hb7, hr7⟩ := reader_none HP7.out.rd
            have d7 := (cell_of_row _ _ 0 _ _ _ hb7).trans (show _ = some (Value.slice ad7 0 cp7) from rfl)
            clear hb7 hr7
            go_wp2_with fail
            clear d7 s4 f4
            generalize w7.setCell ⟨bs, 4, none⟩ (.int .i64 u7) = W7 at HP7 ⊢
            have HK7 : Hid (Rz.t8 (Pz.go s.size k') out ⟨k3, q3, n3, f5, u7⟩ 0 (Rz.name s.size 4 Pz.semiW ⟨[], e7, a7⟩) = Pz.parse s.data.toList) := HK7
          case' cons t7 q7 =>
            obtain ⟨g7, off7, cp7, hgb7, _, _, hql7, hb7, hr7, p0, p1, p2, p3⟩ := reader_cells HP7.out.rd
            have d7 := (cell_of_row _ _ 0 _ _ _ hb7).trans (show _ = some (Value.slice (some ⟨g7, off7, none⟩) (q7.length + 1) cp7) from rfl)
            clear hb7 hr7
            have hlen7 : (0 : Int) < (q7.length : Int) + 1 := by omega
            obtain ⟨tk7, tt7, tn7, ta7⟩ := t7
            simp only [] at p0 p1 p2 p3
            go_wp2_with fail
            clear d7 s4 f4 p0 p1 p2 p3
            generalize w7.setCell ⟨bs, 4, none⟩ (.int .i64 u7) = W7 at HP7 ⊢
            have HK7 : Hid (Rz.t8 (Pz.go s.size k') out ⟨k3, q3, n3, f5, u7⟩ ta7 (Rz.name s.size 4 Pz.semiW ⟨⟨tk7, tt7, tn7, ta7⟩ :: q7, e7, a7⟩) = Pz.parse s.data.toList) := HK7
          all_goals
            refine (rname_any br s.size 4 ⟨#[59]⟩ _ _ HP7.out.rd).mono ?_
            rintro e w8 ⟨rfl, hp⟩
            generalize hN : Rz.name s.size 4 _ _ = R8 at hp
            replace HL : Hid (Rz.LenOk k' R8) := Lib.hid (by rw [← hN]; exact Rz.name_len (sz := s.size) HL.out)
            replace HK7 : Hid (Rz.t8 (Pz.go s.size k') out ⟨k3, q3, n3, f5, u7⟩ _ R8 = Pz.parse s.data.toList) := Lib.hid (by have hh := HK7.out; rw [show Rz.name s.size 4 Pz.semiW _ = R8 from hN] at hh; exact hh)
            have HP8 := Lib.hid (HP7.out.call hp); clear hp hN HP7
            have d8 := reader_err HP8.out.rd
            obtain ⟨l8, e8, a8⟩ := R8
            by_cases he8 : e8 = 0
            · subst he8
              have HK8 : Hid (Pz.s8 (Pz.go s.size k') out ⟨k3, q3, n3, f5, u7⟩ _ l8 = Pz.parse s.data.toList) := Lib.hid (by have hh := HK7.out; unfold Rz.t8 at hh; rw [if_neg (by simp)] at hh; exact hh)
              have s0 := (cell_of_row _ _ 0 _ _ _ HP8.out.hs).trans (show _ = some (Value.int .i64 k3) from rfl)
              have s1 := (cell_of_row _ _ 1 _ _ _ HP8.out.hs).trans (show _ = some (Value.int .i64 q3) from rfl)
              have s2 := (cell_of_row _ _ 2 _ _ _ HP8.out.hs).trans (show _ = some (Value.int .i64 n3) from rfl)
              have s3 := (cell_of_row _ _ 3 _ _ _ HP8.out.hs).trans (show _ = some (Value.int .i64 f5) from rfl)
              have s4 := (cell_of_row _ _ 4 _ _ _ HP8.out.hs).trans (show _ = some (Value.int .i64 u7) from rfl)
              simp only [] at d8
              clear HK7 HPd HP6 HK6
              go_wp2_with fail
              have hsc := rspell_any ⟨k3, q3, n3, f5, u7⟩ w8
              unfold spV at hsc
              refine hsc.mono ?_
              rintro e w9 ⟨rfl, B9⟩
              clear hsc s0 s1 s2 s3 s4 d8
              have HB9 := Lib.hid B9; clear B9
              cases hf : formedB ⟨k3, q3, n3, f5, u7⟩
              · have HX : Hid (Pz.parse s.data.toList = ⟨[], 9, _⟩) := Lib.hid (by rw [← HK8.out]; unfold Pz.s8; rw [if_pos hf])
                clear hf
                go_wp2_with fail
                go_ret3
                exact parse_post_fail HX.out (HP8.out.hb.trans (HB9.out.mono HP8.out.hb.size))
              · by_cases hfull : out.length = 200
                · have hfb : ((out.length : Int) == 200) = true := by simp [hfull]
                  have HX : Hid (Pz.parse s.data.toList = ⟨[], 2, _⟩) := Lib.hid (by rw [← HK8.out]; unfold Pz.s8; rw [if_neg (by simp [hf]), if_pos hfull])
                  clear hf hfull
                  go_wp2_with fail
                  go_ret3
                  exact parse_post_fail HX.out (HP8.out.hb.trans (HB9.out.mono HP8.out.hb.size))
                · have hfb : ((out.length : Int) == 200) = false := by simp; omega
                  have HX : Hid (Pz.go s.size k' l8 (out ++ [⟨k3, q3, n3, f5, u7⟩]) = Pz.parse s.data.toList) := Lib.hid (by rw [← HK8.out]; unfold Pz.s8; rw [if_neg (by simp [hf]), if_neg hfull])
                  have hlo : out.length < 200 := by omega
                  clear hf hfull
                  have hz8 := HP8.out.lt.2.2
                  have hz9 := HB9.out.size
                  have hs9 := (HB9.out.block bs hz8).trans HP8.out.hs
                  have s0 := (cell_of_row _ _ 0 _ _ _ hs9).trans (show _ = some (Value.int .i64 k3) from rfl)
                  have s1 := (cell_of_row _ _ 1 _ _ _ hs9).trans (show _ = some (Value.int .i64 q3) from rfl)
                  have s2 := (cell_of_row _ _ 2 _ _ _ hs9).trans (show _ = some (Value.int .i64 n3) from rfl)
                  have s3 := (cell_of_row _ _ 3 _ _ _ hs9).trans (show _ = some (Value.int .i64 f5) from rfl)
                  have s4 := (cell_of_row _ _ 4 _ _ _ hs9).trans (show _ = some (Value.int .i64 u7) from rfl)
                  have HO9 := Lib.hid ((ownsRow_below HP8.out.ro HB9.out).alloc (.cells (spCells ⟨k3, q3, n3, f5, u7⟩).toArray 32))
                  have hbb : br + 1 ≤ w9.heap.size := by have := HP8.out.lt.2.1; omega
                  clear hs9
                  go_wp2_with (at_builtin; refine wpList_append_own _ rfl (.tmp 141) (.tmp 143) 22 rfl (br + 1) 32 i0 (spV ⟨0, 0, 0, 0, 0⟩) 5 40 Tryd.underlying22 HZ.out.1 HZ.out.2.1 HZ.out.2.2.1 HZ.out.2.2.2 rfl (by decide) _ _ _ rfl HO9.out ⟨w9.heap.size, 0, none⟩ 1 1 (spCells ⟨k3, q3, n3, f5, u7⟩) rfl rfl (news_cells _ _ _ _ rfl) (sp_one _) (by unfold maxLen; omega) (by omega) (by simp; omega) ?_)
                  intro vx wx hown' hgr _
                  have hgx := hgr.size
                  simp only [World.size_alloc] at hgx
                  have HOX := Lib.hid hown'
                  have HGX := Lib.hid hgr
                  clear s0 s1 s2 s3 s4 hown' hgr
                  go_wp2_with fail
                  go_roundg k'
                  case rel =>
                    have hne : (Value.slice a2 out.length c2).ownBlock ≠ some br := by
                      intro e
                      have := (HP8.out.ro.lt _ e).1
                      omega
                    refine Lib.hid ⟨l8, a8, out ++ [⟨k3, q3, n3, f5, u7⟩], ?_, by rw [spFlat_snoc]; simpa using HOX.out, by simp; omega, ?_, HP8.out.lt.1, by omega, HX.out, HL.out rfl⟩
                    · have r1 := HP8.out.rd.below (HB9.out.mono (by have := HP8.out.lt.2.1; omega))
                      have r2 := r1.below ((Below.refl _ w9).alloc hbb (.cells (spCells ⟨k3, q3, n3, f5, u7⟩).toArray 32))
                      exact r2.grown HGX.out (by intro k hk; have := (HO9.out.lt _ hk).1; omega) (by simp; omega)
                    · exact ((HP8.out.hb.trans (HB9.out.mono HP8.out.hb.size)).alloc (by have := HP8.out.hb.size; omega) _).grown HGX.out (by have := HP8.out.hb.size; simp; omega) (fun k hk => by have := (HO9.out.lt _ hk).1; omega)
                  case measure => omega
            · have heb8 : (e8 != 0) = true := by simpa using he8
              have HX : Hid (Pz.parse s.data.toList = ⟨[], e8, a8⟩) := Lib.hid (by rw [← HK7.out]; exact Rz.t8_dead he8)
              have d9 : w8.cell? ⟨br, 3, none⟩ = some (.int .i64 a8) := by
                obtain ⟨v, hb, _⟩ := HP8.out.rd
                exact (cell_of_row _ _ 3 _ _ _ hb).trans rfl
              simp only [] at d8
              clear he8 HK7
              go_wp2_with fail
              go_region
              go_wp2_with fail
              go_ret3
              exact parse_post_fail HX.out HP8.out.hb.drew
  · have heb : (err != 0) = true := by simpa using he
    go_wp2_with fail
    go_ret3
    exact parse_post_fail (by unfold Pz.parse; rw [HLX.out]; exact if_pos he) HB1.out
end Go.Proofs.YtedddaojcknemaaDoor
