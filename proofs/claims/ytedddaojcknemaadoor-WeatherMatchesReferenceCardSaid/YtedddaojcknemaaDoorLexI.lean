import Derived.Test.YtedddaojcknemaaDoorLexI0
namespace Go.Proofs.YtedddaojcknemaaDoor
open Go.RowKit

theorem info_tok3 : (Tryd.prog.info? 50).map (fun i => (i.zero, i.size, i.bytes)) = some (some tok0, 4, 40) := by kernel_rfl

theorem news_cells (w : World) (bk : Nat) (l : List Value) (t : TypeId) (hb : w.heap.size = bk) : ∀ j u, l[j]? = some u → (w.alloc (.cells l.toArray t)).cell? ((⟨bk, 0, none⟩ : Addr).add j) = some u := by
  subst hb
  intro j u hu
  have hadd : (⟨w.heap.size, 0, none⟩ : Addr).add j = ⟨w.heap.size, j, none⟩ := by unfold Addr.add; split <;> simp_all
  rw [hadd, cell_of_row _ _ _ _ _ _ (heap_alloc_new w _)]
  simpa using hu
theorem tok_one (t : Lx.Tok) : ∀ u ∈ tokCells t, u.oneCell' = true := by
  intro u hu
  simp [tokCells] at hu
  rcases hu with rfl | rfl | rfl | rfl <;> rfl
/-- What the loop over tokens carries. -/
def LexRel (s : ByteArray) (b : Nat) (w : World) (v x : Value) (wr : World) : Prop :=
  ∃ (i : Nat) (out : List Lx.Tok), x = .int .i64 i ∧ i ≤ s.size ∧ LexAt s i out ∧ wr.ownsRow (b + 1) 50 4 v out.length (tokFlat out) ∧ out.length ≤ 5000 ∧ Below w.heap.size w wr ∧ IsScan wr b s ∧ b + 1 ≤ wr.heap.size ∧ w.heap.size ≤ b
def LexPost (s : ByteArray) (w : World) (e : Ending) (w' : World) : Prop :=
  ∃ v, e = .returned (.tuple #[v, .int .i64 (Lx.lex s.data.toList).err, .int .i64 (Lx.lex s.data.toList).at_]) ∧ w'.ownsRow w.heap.size 50 4 v (Lx.lex s.data.toList).toks.length (tokFlat (Lx.lex s.data.toList).toks) ∧ Below w.heap.size w w'

set_option maxRecDepth 100000 in
set_option maxHeartbeats 2000000 in
theorem lex_ok (s : ByteArray) (w : World) (hm : s.size ≤ 20000) :
    Calls Tryd.prog 22 #[.string s] w (LexPost s w) := by
  obtain ⟨i0, hi, hz0, hz1, hz2⟩ := info_parts info_tok3
  have HZ := Lib.hid (And.intro hi (And.intro hz0 (And.intro hz1 hz2)))
  clear hi hz0 hz1 hz2
  go_enter Tryd.func22, Tryd.ntmps22
  go_wp2_with fail
  refine (classes_any _).mono ?_
  rintro e w1 ⟨rfl, B1⟩
  go_wp2_with (first
    | (with_reducible refine wpList_build2 rfl 87 0 1 (.tmp 14) (.tmp 15) rfl (.string s) (.agg (tabCells clsTab)) rfl rfl (scanCells s) (scan_built s) ?_)
    | (with_reducible refine wpList_store_row rfl 87 (.tmp 5) (.tmp 16) rfl w1.heap.size 87 _ (scanCells s) rfl rfl (heap_alloc_new _ _) ((scan_size s).trans Tryd.zeroCells87_size.symm) (scan_one s) (by rw [scan_size]; exact info_scan) ?_))
  obtain ⟨W, hW⟩ : ∃ W, W = (w1.alloc (.cells Tryd.zeroCells87 87)).setRow w1.heap.size (scanCells s) := ⟨_, rfl⟩
  rw [← hW]
  have hb1 := B1.size
  have BW : Hid (Below w.heap.size w W) := Lib.hid (by
    rw [hW]
    exact (B1.alloc hb1 _).trans ⟨rfl, rfl, rfl, by simp, fun k hk => setRow_other _ _ _ _ (by omega)⟩)
  have SW : Hid (IsScan W w1.heap.size s) := Lib.hid (scan_is (by rw [hW]; exact setRow_heap _ _ _ _ _ _ (heap_alloc_new _ _)))
  have hsz : w1.heap.size + 1 ≤ W.heap.size := by rw [hW]; simp
  obtain ⟨b, hb⟩ : ∃ b, b = w1.heap.size := ⟨_, rfl⟩
  rw [← hb] at SW hsz hb1 ⊢
  clear hW hb B1
  refine (gap_any s b 0 W SW.out (by omega) (by omega)).mono ?_
  rintro e w2 ⟨rfl, B2⟩
  have H2 := Lib.hid (And.intro (BW.out.trans (B2.mono BW.out.size)) (SW.out.below B2))
  have hsz2 : b + 1 ≤ w2.heap.size := Nat.le_trans hsz B2.size
  clear B2
  have hg0 := gap_drop s 0 (Nat.zero_le _)
  have hg1 := hg0.2.2
  clear hg0
  go_wp2_with fail
  go_loopw [6, 7] (fun v x wr => Hid (LexRel s b w v x wr)) (fun _ x _ => s.size - (intOf x).toNat)
  case atStart => exact Lib.hid ⟨gapEnd s 0, [], rfl, hg1, lexAt_start s hm, World.ownsRow_nil _ _ _ _, Nat.zero_le _, H2.out.1, H2.out.2, hsz2, hb1⟩
  case round =>
    obtain ⟨i, out, rfl, hi, hat, hown, hol, hbel, hsc, hbs, _⟩ := hrel.out
    obtain ⟨a, c, rfl⟩ := ownsRow_slice hown
    have HAT := Lib.hid hat; have HO := Lib.hid hown; have HB := Lib.hid hbel; have HS := Lib.hid hsc
    clear hat hown hbel hsc hrel BW SW H2
    by_cases hlt : i < s.size
    · go_wp2_with fail
      refine (next_any s b i _ HS.out hm hlt).mono ?_
      rintro e w3 ⟨rfl, B3⟩
      have HB3 := Lib.hid B3; clear B3
      have hsz3 := HB3.out.size
      cases hn : Lx.next 2 3 4 6 (s.data.toList.drop i) with
      | fail e =>
        rw [nextV_fail s i e hn]
        have he := next_fail_err _ _ hn
        have HF := Lib.hid (lexAt_fail s i out HAT.out hlt e hn)
        clear hn
        unfold tok0
        rcases he with rfl | rfl | rfl | rfl
        all_goals
          go_wp2_with fail
          go_ret3
          refine ⟨.slice none 0 0, by rw [HF.out]; rfl, by rw [HF.out]; exact World.ownsRow_nil _ _ _ _, ?_⟩
          exact ((HB.out.trans (HB3.out.mono HB.out.size)).alloc (Nat.le_trans HB.out.size hsz3) _)
      | tok kd t n wd =>
        rw [nextV_tok s i kd t n wd hn]
        have hw := next_tok_width _ _ _ _ _ hn
        have hds : s.data.size = s.size := rfl
        simp only [List.length_drop, Array.length_toList, hds] at hw
        clear hds
        have HN := Lib.hid hn; clear hn
        by_cases hfull : out.length = 5000
        · have HF := Lib.hid (lexAt_full s i out HAT.out hlt kd t n wd HN.out hfull)
          have hfb : ((out.length : Int) == 5000) = true := by simp [hfull]
          clear hfull
          unfold tokV
          go_wp2_with fail
          go_ret3
          refine ⟨.slice none 0 0, by rw [HF.out]; rfl, by rw [HF.out]; exact World.ownsRow_nil _ _ _ _, ?_⟩
          exact ((HB.out.trans (HB3.out.mono HB.out.size)).alloc (Nat.le_trans HB.out.size hsz3) _)
        · have HF := Lib.hid (lexAt_step s i out HAT.out hlt kd t n wd HN.out hfull)
          have hfb : ((out.length : Int) == 5000) = false := by simp; omega
          have HO3 := Lib.hid (((ownsRow_below HO.out HB3.out).alloc (.cells (tokCells ⟨kd, t, n, i⟩).toArray 50)).alloc (.cells (tokCells ⟨kd, t, n, i⟩).toArray 50))
          have HS3 := Lib.hid (((HS.out.below HB3.out).alloc (.cells (tokCells ⟨kd, t, n, i⟩).toArray 50)).alloc (.cells (tokCells ⟨kd, t, n, i⟩).toArray 50))
          clear HO
          unfold tokV
          go_wp2_with (at_builtin; refine wpList_append_own _ rfl (.tmp 41) (.tmp 43) 46 rfl (b + 1) 50 i0 tok0 4 40 Tryd.underlying46 HZ.out.1 HZ.out.2.1 HZ.out.2.2.1 HZ.out.2.2.2 rfl (by decide) _ _ _ rfl HO3.out ⟨w3.heap.size + 1, 0, none⟩ 1 1 (tokCells ⟨kd, t, n, i⟩) rfl rfl (news_cells _ _ _ _ (by simp)) (tok_one _) (by unfold maxLen; omega) (by omega) (by simp; omega) ?_)
          intro v' w4 hown' hg' _
          have hsz4 := hg'.size
          simp only [World.size_alloc] at hsz4
          have HB4 : Hid (Below w.heap.size w w4) := Lib.hid ((((HB.out.trans (HB3.out.mono HB.out.size)).alloc (Nat.le_trans HB.out.size hsz3) _).alloc (by have := HB.out.size; simp; omega) _).grown hg' (by have := HB.out.size; simp; omega) (fun k hk => by have := (HO3.out.lt k hk).1; omega))
          have HS4 : Hid (IsScan w4 b s) := Lib.hid (HS3.out.grown hg' (by intro e; have := (HO3.out.lt b e.symm).1; omega))
          have HO4 := Lib.hid hown'
          clear hown' hg' HO3 HS3 HS HB HB3 HAT HN
          go_wp2_with fail
          rw [show (i : Int) + (wd : Int) = ((i + wd : Nat) : Int) by omega]
          refine (gap_any s b (i + wd) w4 HS4.out (by omega) (by omega)).mono ?_
          rintro e w5 ⟨rfl, B5⟩
          have hgd := (gap_drop s (i + wd) (by omega)).2
          have hsz5 := B5.size
          have HB5 := Lib.hid B5; clear B5
          go_wp2_with fail
          go_roundw
          case rel =>
            refine Lib.hid ⟨gapEnd s (i + wd), out ++ [⟨kd, t, n, i⟩], rfl, hgd.2, HF.out, ?_, by simp; omega, HB4.out.trans (HB5.out.mono HB4.out.size), HS4.out.below HB5.out, by omega, by omega⟩
            rw [tokFlat_snoc]
            have := ownsRow_below HO4.out HB5.out
            simpa using this
          case measure => simp [intOf]; omega
    · have HF := Lib.hid (lexAt_end s i out HAT.out (by omega))
      go_wp2_with fail
      go_ret3
      exact ⟨_, by rw [HF.out]; rfl, by rw [HF.out]; exact ownsRow_base HO.out (by omega), HB.out⟩

theorem lex_long (s : ByteArray) (w : World) (hm : ¬ s.size ≤ 20000) : Calls Tryd.prog 22 #[.string s] w (LexPost s w) := by
  have HF : Hid (Lx.lex s.data.toList = ⟨[], 2, -1⟩) := Lib.hid (by unfold Lx.lex; rw [if_pos (by simpa using Nat.lt_of_not_le hm)])
  have h : (20000 : Int) < (s.size : Int) := by omega
  go_enter Tryd.func22, Tryd.ntmps22
  go_wp2_with fail
  go_ret3
  exact ⟨.slice none 0 0, by rw [HF.out]; rfl, by rw [HF.out]; exact World.ownsRow_nil _ _ _ _, Below.refl _ _⟩

/-- Lex: the plain function's tokens, in a row of the call's own. -/
theorem lex_any (s : ByteArray) (w : World) : Calls Tryd.prog 22 #[.string s] w (LexPost s w) := by
  by_cases h : s.size ≤ 20000
  · exact lex_ok s w h
  · exact lex_long s w h
end Go.Proofs.YtedddaojcknemaaDoor
