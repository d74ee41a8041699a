/- Parse, walked. -/
import Derived.Test.YtedddaojcknemaaDoorParG
import Derived.Deep.DeepCutAuto
import Derived.Deep.CutBlock
import Derived.Deep.LoopGhost
namespace Go.Proofs.YtedddaojcknemaaDoor
open Go.RowKit

set_option maxRecDepth 100000 in
set_option maxHeartbeats 4000000 in
theorem parse_any (s : ByteArray) (w : World) : Calls Tryd.prog 14 #[.string s] w (ParsePost s w) := by
  have hmf : ∀ fn first cap w, (Instr.makeFunc fn first cap).run Tryd.prog w = .ok (.func fn first cap) w := fun _ _ _ _ => rfl
  have htf := tok_field
  obtain ⟨i0, hi, hz0, hz1, hz2⟩ := info_parts info_sp
  have HZ := Lib.hid (And.intro hi (And.intro hz0 (And.intro hz1 hz2)))
  clear hi hz0 hz1 hz2
  go_enter_defers Tryd.func14, Tryd.ntmps14
  go_wp2_with fail
  refine (lex_any s _).mono ?_
  rintro e w1 ⟨v, rfl, o1, B1⟩
  have HB1 := Lib.hid (parse_rows s w w1 B1); clear B1
  have HO := Lib.hid (ownsRow_base o1 (base' := w.heap.size) (by simp; omega)); clear o1
  obtain ⟨b1, hb1⟩ : ∃ b, b = w.heap.size := ⟨_, rfl⟩
  rw [← hb1] at HB1 ⊢
  generalize hb4 : b1 + 1 + 1 + 1 = b4 at HB1 ⊢
  generalize hb3 : b1 + 1 + 1 = b3 at HB1 ⊢
  generalize hb2 : b1 + 1 = b2 at HB1 ⊢
  obtain ⟨r1, r2, r3, r4, hsz, hB⟩ := HB1.out
  have l1 : b1 < w1.heap.size := by omega
  have l2 : b2 < w1.heap.size := by omega
  have l3 : b3 < w1.heap.size := by omega
  have l4 : b4 < w1.heap.size := by omega
  have c1 := (cell_of_row _ _ 0 _ _ _ r1).trans (show _ = some (Value.string s) from rfl)
  have c2 := (cell_of_row _ _ 0 _ _ _ r2).trans (show _ = some (Value.slice none 0 0) from rfl)
  have c3 := (cell_of_row _ _ 0 _ _ _ r3).trans (show _ = some (Value.int .i64 0) from rfl)
  have c4 := (cell_of_row _ _ 0 _ _ _ r4).trans (show _ = some (Value.int .i64 0) from rfl)
  have f2 := frozen_of_row _ _ 0 _ _ r2
  have f3 := frozen_of_row _ _ 0 _ _ r3
  have f4 := frozen_of_row _ _ 0 _ _ r4
  clear r1 r2 r3 r4 hsz hB
  have n34 : b3 ≠ b4 := by omega
  have n43 : b4 ≠ b3 := by omega
  have n23 : b2 ≠ b3 := by omega
  have n32 : b3 ≠ b2 := by omega
  have n24 : b2 ≠ b4 := by omega
  have n42 : b4 ≠ b2 := by omega
  have HE := Lib.hid (And.intro hb1 (And.intro hb2 (And.intro hb3 hb4))); clear hb1 hb2 hb3 hb4
  cases hlx : Lx.lex s.data.toList with
  | mk toks err at_ =>
  have HO2 : Hid (w1.ownsRow w.heap.size 50 4 v toks.length (tokFlat toks)) := Lib.hid (by have := HO.out; rw [hlx] at this; exact this)
  clear HO
  simp only []
  have HLX := Lib.hid hlx; clear hlx
  obtain ⟨a, c, rfl⟩ := ownsRow_slice HO2.out
  by_cases he : err = 0
  · subst he
    have heb : ((0 : Int) != 0) = false := rfl
    obtain ⟨hl, hs⟩ := lex_len _ _ _ HLX.out
    have HPF := Lib.hid (start_pf at_ HB1.out HE.out HO2.out hl (by simpa using hs))
    have HGO : Hid (Pz.go s.size toks.length toks [] = Pz.parse s.data.toList) := Lib.hid (by unfold Pz.parse; rw [HLX.out]; simp)
    clear hl hs
    go_wp2_with fail
    clear c1 c2 c3 c4 f2 f3 f4 l1 l2 l3 l4 HB1 HE HO2 HLX
    unfold nextV5 at HPF
    generalize ((((w1.setCell ⟨b3, 0, none⟩ (.int .i64 0)).setCell ⟨b4, 0, none⟩ (.int .i64 at_)).alloc (.cells #[.slice a toks.length c] 46)).alloc (.cells #[.func (.func 27) #[] #[.pointer (some ⟨w1.heap.size, 0, none⟩), .pointer (some ⟨b1, 0, none⟩)]] 58)) = W at HPF ⊢
    generalize w1.heap.size + 1 + 1 = B at HPF ⊢
    generalize w1.heap.size + 1 = b6 at HPF ⊢
    generalize w1.heap.size = b5 at HPF ⊢
    go_loopg [] toks.length (fun k wr => Hid (ParseRel s w b1 b2 b3 b4 b5 b6 k wr))
    case atStart => exact Lib.hid ⟨B, toks, [], HPF.out, HGO.out, Nat.le_refl _⟩
    case round =>
      clear HPF HGO heb W B
      obtain ⟨B, l, out, hF, hk, hlk⟩ := hrel.out
      obtain ⟨v5, q5, R5, e5⟩ := hF.h5
      obtain ⟨v2, q2, o2, e2⟩ := hF.h2
      obtain ⟨a2, c2, rfl⟩ := ownsRow_slice o2
      obtain ⟨v4, q4⟩ := hF.h4
      obtain ⟨a5, c5, rfl, _⟩ := R5.slice
      obtain ⟨m1, m2, m3, m4, m5, m6, m7, m8⟩ := hF.lt
      have d5 := cell1 q5
      have l5 : b5 < wr.heap.size := by omega
      have l6 : b6 < wr.heap.size := by omega
      have d6 := cell1 hF.h6
      unfold nextV5 at d6
      have HF := Lib.hid hF; have HK := Lib.hid hk
      by_cases hl0 : l.length = 0
      · have hgt : ¬ ((0 : Int) < (l.length : Int)) := by omega
        have d2 := cell1 q2
        have f2 := frozen_of_row _ _ 0 _ _ q2
        have d3 := cell1 hF.h3
        have f3 := frozen_of_row _ _ 0 _ _ hF.h3
        have d4 := cell1 q4
        have f4 := frozen_of_row _ _ 0 _ _ q4
        have HQ := Lib.hid (And.intro q2 (And.intro q4 o2))
        clear hF hk hlk q5 R5 e5 q2 o2 e2 q4 m1 m2 m3 m4 m5 m6 m7 m8 hrel
        go_wp2_with fail
        refine parse_return _ _ (ParsePost s w) b2 b3 b4 (.slice a2 out.length c2) (.int .i64 0) (.int .i64 0) rfl rfl rfl rfl ?_ ?_ ?_ ?_
        · exact cell1 (set_keep (set_keep (set1 _ HQ.out.1) n23 _) n24 _)
        · exact cell1 (set_keep (set1 _ (set_keep HF.out.h3 n32 _)) n34 _)
        · exact cell1 (set1 _ (set_keep (set_keep HQ.out.2.1 n42 _) n43 _))
        · intro w' hb
          have hP : Pz.parse s.data.toList = ⟨out, 0, 0⟩ := by
            rw [← HK.out, List.length_eq_zero_iff.1 hl0]
            cases gk <;> simp [Pz.go]
          obtain ⟨m1, m2, m3, m4, m5, m6, m7, m8⟩ := HF.out.lt
          have o3 := ownsRow_below (ownsRow_setCell_below (ownsRow_setCell_below (ownsRow_setCell_below HQ.out.2.2 (a := ⟨b2, 0, none⟩) (by show b2 < _; omega) (.slice a2 out.length c2)) (a := ⟨b3, 0, none⟩) (by show b3 < _; omega) (.int .i64 0)) (a := ⟨b4, 0, none⟩) (by show b4 < _; omega) (.int .i64 0)) hb
          have hbel := HF.out.hb
          refine ⟨_, by rw [hP], by rw [hP]; exact ownsRow_base o3 (by omega), ?_⟩
          refine (((hbel.setCell (p := ⟨b2, 0, none⟩) (by show _ ≤ b2; omega) _).setCell (p := ⟨b3, 0, none⟩) (by show _ ≤ b3; omega) _).setCell (p := ⟨b4, 0, none⟩) (by show _ ≤ b4; omega) _).trans (hb.mono ?_)
          simp [World.setCell]; exact hbel.size
      · have hgt : ((0 : Int) < (l.length : Int)) := by omega
        obtain ⟨k', rfl⟩ : ∃ k', gk = k' + 1 := ⟨gk - 1, by omega⟩
        have HK0 : Hid (Pz.s0 s.size (Pz.go s.size k') out l = Pz.parse s.data.toList) := Lib.hid (by have := HK.out; unfold Pz.go at this; rw [if_neg (by intro e; rw [e] at hl0; exact hl0 rfl)] at this; exact this)
        clear hF hk q5 R5 e5 q2 o2 e2 q4 hrel HK
        have HL := Lib.hid hlk; clear hlk
        go_wp2_with fail
        refine (nxt_pf (HF.out.below ((Below.refl B wr).alloc m8 _)) 1).mono ?_
        rintro e w2 ⟨hg, hp⟩
        have g8 := (hg.block wr.heap.size (by simp) (by simp; omega)).trans (heap_alloc_new wr _)
        have hz2 : wr.heap.size < w2.heap.size := by have := hg.size; simp at this; omega
        obtain ⟨b8, hb8⟩ : ∃ b, b = wr.heap.size := ⟨_, rfl⟩
        rw [← hb8] at g8 hz2 m8 ⊢
        have HB8 := Lib.hid hb8; clear hb8 hg l5 l6 d5 d6
        cases hx : Pz.nx s.size 1 l with
        | fail er ae =>
          simp only [hx] at hp
          obtain ⟨rfl, hX⟩ := hp
          exact pf_fail _ _ er ae rfl rfl rfl rfl hX ((Pz.s0_fail HK0.out hx))
        | ok t r =>
          simp only [hx] at hp
          obtain ⟨rfl, hF2⟩ := hp
          have HK1 := Lib.hid (Pz.s0_ok HK0.out hx)
          have HRL : Hid (r.length ≤ k') := Lib.hid (by have := HL.out; have := nx_len hx; omega)
          clear hx HK0 HF HL
          have HF2 := Lib.hid hF2; clear hF2
          unfold tokV
          go_wp2_with fail
          refine (kinds_any _).mono ?_
          rintro e w3 ⟨he, hw3⟩
          have hst := word_start (t := t) HF2.out g8 m8
          rw [← hw3] at hst
          rw [World.size_alloc] at he
          have hsz3 : w3.heap.size = w2.heap.size + 1 + 1 := by rw [hw3, World.size_alloc, World.size_alloc]
          have hrg := run_range_map (P := Tryd.prog) w3 60 3 65 (w2.heap.size + 1) kindEs 3 Tryd.underlying60 (by rw [hw3]; exact heap_alloc2_new _ _ _)
          rw [hsz3] at hrg
          obtain ⟨b9, hb9⟩ : ∃ b, b = w2.heap.size := ⟨_, rfl⟩
          rw [← hb9] at he hst hrg ⊢
          obtain ⟨bm, hbm⟩ : ∃ b, b = b9 + 1 := ⟨_, rfl⟩
          rw [← hbm] at he hst hrg
          obtain ⟨br, hbr⟩ : ∃ b, b = bm + 1 := ⟨_, rfl⟩
          rw [← hbr] at hst hrg
          have HST := Lib.hid hst; have HBX := Lib.hid (And.intro hb9 (And.intro hbm hbr))
          subst he
          clear hst hw3 hsz3 g8 hz2 hb9 hbm hbr
          go_wp2_with fail
          generalize w3.alloc (.mapIter (some bm) 3 #[] 3) = W3 at HST ⊢
          clear hrg w3
          go_loopg [] 3 (fun k wx => Hid (WordRel s w b1 b2 b3 b4 b5 b6 B r out t b8 b9 bm br k wx))
          case atStart => exact Lib.hid ⟨0, #[], HST.out, by simp [leftOf, kindEs]⟩
          case round =>
            obtain ⟨κ, seen, hW, hk⟩ := hrel.out
            have HW := Lib.hid hW
            have hlt := hW.lt
            rcases word_next wr br bm seen hW.ri hW.rm (by omega) with ⟨h0, hnx⟩ | ⟨e, he, W, hnx, hen, hi, hk', hB, hz, hls⟩
            · have hκ := kindSo_end hW.so (kw_range _) h0
              subst hκ
              have c8 := (cell_of_row _ _ 0 _ _ _ hW.r8).trans (show _ = some (Value.int .i64 (Pz.kw t.text)) from rfl)
              have c9 := (cell_of_row _ _ 3 _ _ _ hW.r9).trans (show _ = some (Value.int .i64 t.at_) from rfl)
              clear hk hlt hW h0
              by_cases hK0 : Pz.kw t.text = 0
              · have hKb : (Pz.kw t.text == 0) = true := by simp [hK0]
                go_wp2_with fail
                exact pf_fail _ _ 5 t.at_ rfl rfl rfl rfl HW.out.pf.px (by have := HK1.out; unfold Pz.s1 at this; rw [if_pos hK0] at this; exact this.symm)
              · have hKb : (Pz.kw t.text == 0) = false := by simpa using hK0
                have HK2 : Hid (Pz.s2 s.size (Pz.go s.size k') out (Pz.kw t.text) r = Pz.parse s.data.toList) := Lib.hid (by have := HK1.out; unfold Pz.s1 at this; rw [if_neg hK0] at this; exact this)
                have hKr := kw_range t.text
                have HSP : Hid (SpIs s w b1 b2 b3 b4 b5 b6 B r out b8 ⟨Pz.kw t.text, 0, 0, 0, 0⟩ wr) := Lib.hid ⟨HW.out.pf, HW.out.r8, HW.out.lt.1⟩
                obtain ⟨K, hKd⟩ : ∃ K, K = Pz.kw t.text := ⟨_, rfl⟩
                rw [← hKd] at HSP HK2 c8 hK0 hKb hKr
                have HKr : Hid (K = 1 ∨ K = 2 ∨ K = 3) := Lib.hid (by rcases hKr with h | h; exact absurd h hK0; exact h)
                clear hKr HW hrel hK0 hKd HK1
                have l8 := HSP.out.lt8
                go_upto_region 17 with fail
                go_cut [59, 60, 61] from 54 to 61 (fun s59 s60 s61 wx => NumCut K b8 B wr s59 s60 s61 wx)
                case first =>
                  have hB8 := HSP.out.hb
                  rcases HKr.out with rfl | rfl | rfl
                  · have l1 : (Instr.lookup 60 (.map (some wr.heap.size)) (.int .i64 1) false).run Tryd.prog (wr.alloc kindMap) = .ok kind1 (wr.alloc kindMap) := kind_get _ _ (heap_alloc_new _ _) 1 0 kind1 rfl
                    have l2 : (Instr.lookup 60 (.map (some wr.heap.size)) (.int .i64 1) false).run Tryd.prog (wr.alloc kindMap).drew = .ok kind1 (wr.alloc kindMap).drew := kind_get (wr.alloc kindMap).drew _ (by exact heap_alloc_new wr kindMap) 1 0 kind1 rfl
                    have hfd : ∀ w, (Instr.field 65 kind1 1).run Tryd.prog w = .ok (.func (.func 45) #[] #[]) w := fun _ => by kernel_rfl
                    simp only [kind1, kindV] at l1 l2 hfd
                    refine wp_region_noPanic ?_
                    go_region_with (first
                      | (go_at_call 29; refine (kinds_any _).mono ?_; rintro e w' ⟨rfl, rfl⟩)
                      | (refine (num1_any _ _).mono ?_; rintro e w' ⟨g, rfl, hg, hgs, hgb⟩))
                    all_goals
                      refine NoPanic.normal ?_
                      go_wp2_with fail
                      go_meet
                      exact (numCut12 (K := 1) _ rfl hg hgs hgb l8 hB8 :)
                  · have l1 : (Instr.lookup 60 (.map (some wr.heap.size)) (.int .i64 2) false).run Tryd.prog (wr.alloc kindMap) = .ok kind2 (wr.alloc kindMap) := kind_get _ _ (heap_alloc_new _ _) 2 1 kind2 rfl
                    have l2 : (Instr.lookup 60 (.map (some wr.heap.size)) (.int .i64 2) false).run Tryd.prog (wr.alloc kindMap).drew = .ok kind2 (wr.alloc kindMap).drew := kind_get (wr.alloc kindMap).drew _ (by exact heap_alloc_new wr kindMap) 2 1 kind2 rfl
                    have hfd : ∀ w, (Instr.field 65 kind2 1).run Tryd.prog w = .ok (.func (.func 47) #[] #[]) w := fun _ => by kernel_rfl
                    simp only [kind2, kindV] at l1 l2 hfd
                    refine wp_region_noPanic ?_
                    go_region_with (first
                      | (go_at_call 29; refine (kinds_any _).mono ?_; rintro e w' ⟨rfl, rfl⟩)
                      | (refine (num2_any _ _).mono ?_; rintro e w' ⟨g, rfl, hg, hgs, hgb⟩))
                    all_goals
                      refine NoPanic.normal ?_
                      go_wp2_with fail
                      go_meet
                      exact (numCut12 (K := 2) _ rfl hg hgs hgb l8 hB8 :)
                  · have l1 : (Instr.lookup 60 (.map (some wr.heap.size)) (.int .i64 3) false).run Tryd.prog (wr.alloc kindMap) = .ok kind3 (wr.alloc kindMap) := kind_get _ _ (heap_alloc_new _ _) 3 2 kind3 rfl
                    have l2 : (Instr.lookup 60 (.map (some wr.heap.size)) (.int .i64 3) false).run Tryd.prog (wr.alloc kindMap).drew = .ok kind3 (wr.alloc kindMap).drew := kind_get (wr.alloc kindMap).drew _ (by exact heap_alloc_new wr kindMap) 3 2 kind3 rfl
                    have hfd : ∀ w, (Instr.field 65 kind3 1).run Tryd.prog w = .ok (.func (.func 49) #[] #[]) w := fun _ => by kernel_rfl
                    simp only [kind3, kindV] at l1 l2 hfd
                    refine wp_region_noPanic ?_
                    go_region_with (first
                      | (go_at_call 29; refine (kinds_any _).mono ?_; rintro e w' ⟨rfl, rfl⟩)
                      | (refine (num3_any _ _).mono ?_; rintro e w' ⟨rfl, rfl⟩))
                    all_goals
                      refine NoPanic.normal ?_
                      go_wp2_with fail
                      go_meet
                      exact numCut3
                case rest =>
                  obtain ⟨an, cn, rfl, rfl, rfl, hrow, hbel⟩ := hcut
                  have HST2 := Lib.hid (numRel_start (HSP.out.below hbel) HRL.out hrow HKr.out HK2.out)
                  clear hrow hbel hnx c8 c9 l8
                  go_wp2_with fail
                  go_loopg [61] (numPs K b8).length (fun g s61 wx => Hid (NumRel s w b1 b2 b3 b4 b5 b6 B out b8 K k' an (Pz.parse s.data.toList) g s61 wx))
                  case atStart => exact HST2
                  case round =>
                    obtain ⟨i, q, n, l3, rfl, h3, hl3, hrow3, hc⟩ := hrel.out
                    clear hrel HST2 HSP HK2
                    rcases hc with ⟨rfl, rfl, rfl, rfl, hR⟩ | ⟨rfl, rfl, rfl, rfl, hR⟩ | ⟨rfl, rfl, rfl, rfl, hR⟩ | ⟨rfl, rfl, hR⟩
                    · obtain ⟨ga, rfl, hgB, hg8, hgr⟩ : ∃ g, an = some ⟨g, 0, none⟩ ∧ B ≤ g ∧ g ≠ b8 ∧ wr.heap[g]? = some (.cells (numPs 1 b8).toArray 68 (0, 0)) := hrow3.resolve_left (by decide)
                      have cg := (cell_of_row _ _ 0 _ _ _ hgr).trans (show _ = some (Value.pointer (some ⟨b8, 1, none⟩)) from rfl)
                      have c6 := cell1 h3.pf.h6
                      unfold nextV5 at c6
                      have HH := Lib.hid (And.intro h3 (And.intro hl3 (And.intro hrow3 hR)))
                      clear h3 hl3 hR hrow3 hgr hgB hg8
                      rw [show (numPs 1 b8).length = 2 from rfl]
                      go_wp2_with fail
                      refine (nxt_sp HH.out.1 2).mono ?_
                      rintro e wA ⟨hgA, hp⟩
                      cases hx : Pz.nx s.size 2 l3 with
                      | fail er ae =>
                        simp only [hx] at hp
                        obtain ⟨rfl, hX⟩ := hp
                        exact pf_fail _ _ er ae rfl rfl rfl rfl hX (Pz.s2q_fail HH.out.2.2.2 hx)
                      | ok tt r3 =>
                        simp only [hx] at hp
                        obtain ⟨rfl, h4, hlen⟩ := hp
                        have f8 := frozen_of_row _ _ 1 _ _ h4.r8
                        have c8 := (cell_of_row _ _ 1 _ _ _ h4.r8).trans (show _ = some (Value.int .i64 _) from rfl)
                        have HI := Lib.hid (And.intro h4 (And.intro hlen (And.intro hgA (Pz.s2q_ok HH.out.2.2.2 hx))))
                        clear hgA h4 hlen hx c6 cg
                        unfold tokV
                        go_wp2_with fail
                        go_roundg 1
                        case rel => exact Lib.hid ⟨1, tt.n, 0, r3, rfl, HI.out.1.setq tt.n, by have := HI.out.2.1; have := HH.out.2.1; omega, HH.out.2.2.1.step HI.out.2.2.1 (by have := HH.out.1.pf.lt; omega) _ _, .inr (.inl ⟨rfl, rfl, rfl, rfl, HI.out.2.2.2⟩)⟩
                        case measure => omega
                    · obtain ⟨ga, rfl, hgB, hg8, hgr⟩ : ∃ g, an = some ⟨g, 0, none⟩ ∧ B ≤ g ∧ g ≠ b8 ∧ wr.heap[g]? = some (.cells (numPs 1 b8).toArray 68 (0, 0)) := hrow3.resolve_left (by decide)
                      have cg := (cell_of_row _ _ 1 _ _ _ hgr).trans (show _ = some (Value.pointer (some ⟨b8, 2, none⟩)) from rfl)
                      have c6 := cell1 h3.pf.h6
                      unfold nextV5 at c6
                      have HH := Lib.hid (And.intro h3 (And.intro hl3 (And.intro hrow3 hR)))
                      clear h3 hl3 hR hrow3 hgr hgB hg8
                      rw [show (numPs 1 b8).length = 2 from rfl]
                      go_wp2_with fail
                      refine (nxt_sp HH.out.1 2).mono ?_
                      rintro e wA ⟨hgA, hp⟩
                      cases hx : Pz.nx s.size 2 l3 with
                      | fail er ae =>
                        simp only [hx] at hp
                        obtain ⟨rfl, hX⟩ := hp
                        exact pf_fail _ _ er ae rfl rfl rfl rfl hX (Pz.s2n_fail HH.out.2.2.2 hx)
                      | ok tt r3 =>
                        simp only [hx] at hp
                        obtain ⟨rfl, h4, hlen⟩ := hp
                        have f8 := frozen_of_row _ _ 2 _ _ h4.r8
                        have c8 := (cell_of_row _ _ 2 _ _ _ h4.r8).trans (show _ = some (Value.int .i64 _) from rfl)
                        have HI := Lib.hid (And.intro h4 (And.intro hlen (And.intro hgA (Pz.s2n_ok HH.out.2.2.2 hx))))
                        clear hgA h4 hlen hx c6 cg
                        unfold tokV
                        go_wp2_with fail
                        go_roundg 0
                        case rel => exact Lib.hid ⟨2, q, tt.n, r3, rfl, HI.out.1.setn tt.n, by have := HI.out.2.1; have := HH.out.2.1; omega, HH.out.2.2.1.step HI.out.2.2.1 (by have := HH.out.1.pf.lt; omega) _ _, .inr (.inr (.inr ⟨rfl, rfl, HI.out.2.2.2⟩))⟩
                        case measure => omega
                    · obtain ⟨ga, rfl, hgB, hg8, hgr⟩ : ∃ g, an = some ⟨g, 0, none⟩ ∧ B ≤ g ∧ g ≠ b8 ∧ wr.heap[g]? = some (.cells (numPs 2 b8).toArray 68 (0, 0)) := hrow3.resolve_left (by decide)
                      have cg := (cell_of_row _ _ 0 _ _ _ hgr).trans (show _ = some (Value.pointer (some ⟨b8, 2, none⟩)) from rfl)
                      have c6 := cell1 h3.pf.h6
                      unfold nextV5 at c6
                      have HH := Lib.hid (And.intro h3 (And.intro hl3 (And.intro hrow3 hR)))
                      clear h3 hl3 hR hrow3 hgr hgB hg8
                      rw [show (numPs 2 b8).length = 1 from rfl]
                      go_wp2_with fail
                      refine (nxt_sp HH.out.1 2).mono ?_
                      rintro e wA ⟨hgA, hp⟩
                      cases hx : Pz.nx s.size 2 l3 with
                      | fail er ae =>
                        simp only [hx] at hp
                        obtain ⟨rfl, hX⟩ := hp
                        exact pf_fail _ _ er ae rfl rfl rfl rfl hX (Pz.s2n_fail HH.out.2.2.2 hx)
                      | ok tt r3 =>
                        simp only [hx] at hp
                        obtain ⟨rfl, h4, hlen⟩ := hp
                        have f8 := frozen_of_row _ _ 2 _ _ h4.r8
                        have c8 := (cell_of_row _ _ 2 _ _ _ h4.r8).trans (show _ = some (Value.int .i64 _) from rfl)
                        have HI := Lib.hid (And.intro h4 (And.intro hlen (And.intro hgA (Pz.s2n_ok HH.out.2.2.2 hx))))
                        clear hgA h4 hlen hx c6 cg
                        unfold tokV
                        go_wp2_with fail
                        go_roundg 0
                        case rel => exact Lib.hid ⟨1, 0, tt.n, r3, rfl, HI.out.1.setn tt.n, by have := HI.out.2.1; have := HH.out.2.1; omega, HH.out.2.2.1.step HI.out.2.2.1 (by have := HH.out.1.pf.lt; omega) _ _, .inr (.inr (.inr ⟨rfl, rfl, HI.out.2.2.2⟩))⟩
                        case measure => omega
                    · have c6 := cell1 h3.pf.h6
                      unfold nextV5 at c6
                      have HA := Lib.hid (And.intro h3 (And.intro hl3 hR)); clear h3 hl3 hR hrow3
                      go_wp2_with fail
                      refine (must_sp HA.out.1 1 _ Pz.fromW (by rfl)).mono ?_
                      rintro e wA ⟨hgA, hp⟩
                      cases hx : Pz.mu s.size 1 Pz.fromW l3 with
                      | fail er ae =>
                        simp only [hx] at hp
                        obtain ⟨rfl, hX⟩ := hp
                        exact pf_fail _ _ er ae rfl rfl rfl rfl hX (Pz.s3_fail HA.out.2.2 hx)
                      | ok e1 l4 =>
                        simp only [hx] at hp
                        obtain ⟨rfl, h4, hlen⟩ := hp
                        have HB := Lib.hid (And.intro h4 (And.intro (show l4.length ≤ k' by have := HA.out.2.1; omega) (Pz.s3_ok HA.out.2.2 hx)))
                        clear h4 hlen hx hgA HA
                        clear c6
                        have c6 := cell1 HB.out.1.pf.h6
                        unfold nextV5 at c6
                        go_wp2_with fail
                        refine (nxt_sp HB.out.1 2).mono ?_
                        rintro e wA ⟨hgA, hp⟩
                        cases hx : Pz.nx s.size 2 l4 with
                        | fail er ae =>
                          simp only [hx] at hp
                          obtain ⟨rfl, hX⟩ := hp
                          exact pf_fail _ _ er ae rfl rfl rfl rfl hX (Pz.s4_fail HB.out.2.2 hx)
                        | ok tf l5 =>
                          simp only [hx] at hp
                          obtain ⟨rfl, h4, hlen⟩ := hp
                          have HC := Lib.hid (And.intro h4 (And.intro (show l5.length ≤ k' by have := HB.out.2.1; omega) (Pz.s4_ok HB.out.2.2 hx)))
                          clear h4 hlen hx hgA HB c6
                          have f8 := frozen_of_row _ _ 3 _ _ HC.out.1.r8
                          have c8 := (cell_of_row _ _ 3 _ _ _ HC.out.1.r8).trans (show _ = some (Value.int .i64 0) from rfl)
                          unfold tokV
                          go_wp2_with fail
                          clear f8 c8
                          have hz : True := trivial
                          refine (must_sp (HC.out.1.setf tf.n) 1 _ Pz.untilW (by rfl)).mono ?_
                          rintro e wA ⟨hgA, hp⟩
                          cases hx : Pz.mu s.size 1 Pz.untilW l5 with
                          | fail er ae =>
                            simp only [hx] at hp
                            obtain ⟨rfl, hX⟩ := hp
                            exact pf_fail _ _ er ae rfl rfl rfl rfl hX (Pz.s5_fail HC.out.2.2 hx)
                          | ok e2 l6 =>
                            simp only [hx] at hp
                            obtain ⟨rfl, h4, hlen⟩ := hp
                            have HD := Lib.hid (And.intro h4 (And.intro (show l6.length ≤ k' by have := HC.out.2.1; omega) (Pz.s5_ok HC.out.2.2 hx)))
                            clear h4 hlen hx hgA HC
                            have c6 := cell1 HD.out.1.pf.h6
                            unfold nextV5 at c6
                            go_wp2_with fail
                            refine (nxt_sp HD.out.1 2).mono ?_
                            rintro e wA ⟨hgA, hp⟩
                            cases hx : Pz.nx s.size 2 l6 with
                            | fail er ae =>
                              simp only [hx] at hp
                              obtain ⟨rfl, hX⟩ := hp
                              exact pf_fail _ _ er ae rfl rfl rfl rfl hX (Pz.s6_fail HD.out.2.2 hx)
                            | ok tu l7 =>
                              simp only [hx] at hp
                              obtain ⟨rfl, h4, hlen⟩ := hp
                              have HE := Lib.hid (And.intro h4 (And.intro (show l7.length ≤ k' by have := HD.out.2.1; omega) (Pz.s6_ok HD.out.2.2 hx)))
                              clear h4 hlen hx hgA HD c6
                              have f8 := frozen_of_row _ _ 4 _ _ HE.out.1.r8
                              have c8 := (cell_of_row _ _ 4 _ _ _ HE.out.1.r8).trans (show _ = some (Value.int .i64 0) from rfl)
                              unfold tokV
                              go_wp2_with fail
                              clear f8 c8
                              refine (must_sp (HE.out.1.setu tu.n) 4 _ Pz.semiW (by rfl)).mono ?_
                              rintro e wA ⟨hgA, hp⟩
                              cases hx : Pz.mu s.size 4 Pz.semiW l7 with
                              | fail er ae =>
                                simp only [hx] at hp
                                obtain ⟨rfl, hX⟩ := hp
                                exact pf_fail _ _ er ae rfl rfl rfl rfl hX (Pz.s7_fail HE.out.2.2 hx)
                              | ok en l8 =>
                                simp only [hx] at hp
                                obtain ⟨rfl, h4, hlen⟩ := hp
                                have HF9 := Lib.hid (And.intro h4 (And.intro (show l8.length ≤ k' by have := HE.out.2.1; omega) (Pz.s7_ok HE.out.2.2 hx)))
                                clear h4 hlen hx hgA HE
                                have d0 := (cell_of_row _ _ 0 _ _ _ HF9.out.1.r8).trans (show _ = some (Value.int .i64 (K)) from rfl)
                                have d1 := (cell_of_row _ _ 1 _ _ _ HF9.out.1.r8).trans (show _ = some (Value.int .i64 (q)) from rfl)
                                have d2 := (cell_of_row _ _ 2 _ _ _ HF9.out.1.r8).trans (show _ = some (Value.int .i64 (n)) from rfl)
                                have d3 := (cell_of_row _ _ 3 _ _ _ HF9.out.1.r8).trans (show _ = some (Value.int .i64 (tf.n)) from rfl)
                                have d4 := (cell_of_row _ _ 4 _ _ _ HF9.out.1.r8).trans (show _ = some (Value.int .i64 (tu.n)) from rfl)
                                go_wp2_with fail
                                refine (formed_any ⟨K, q, n, tf.n, tu.n⟩ _).mono ?_
                                rintro e wF ⟨rfl, hBF⟩
                                have HG : Hid (SpIs s w b1 b2 b3 b4 b5 b6 B l8 out b8 ⟨K, q, n, tf.n, tu.n⟩ wF) := Lib.hid (HF9.out.1.below hBF)
                                clear hBF d0 d1 d2 d3 d4
                                cases hfo : formedB ⟨K, q, n, tf.n, tu.n⟩
                                · have HFO := Lib.hid hfo; clear hfo
                                  go_wp2_with fail
                                  exact pf_fail _ _ 9 en rfl rfl rfl rfl HG.out.pf.px (by have := HF9.out.2.2; unfold Pz.s8 at this; rw [if_pos HFO.out] at this; exact this.symm)
                                · have HFO := Lib.hid hfo; clear hfo
                                  obtain ⟨v2, q2, o2, e2⟩ := HG.out.pf.h2
                                  obtain ⟨aa, ca, rfl⟩ := ownsRow_slice o2
                                  have d2 := cell1 q2
                                  by_cases h200 : out.length = 200
                                  · have hb200 : ((out.length : Int) == 200) = true := by simp [h200]
                                    have H200 := Lib.hid h200; clear h200 q2 o2 e2
                                    go_wp2_with fail
                                    exact pf_fail _ _ 2 en rfl rfl rfl rfl HG.out.pf.px (by have := HF9.out.2.2; unfold Pz.s8 at this; rw [if_neg (by rw [HFO.out]; simp), if_pos H200.out] at this; exact this.symm)
                                  · have hb200 : ((out.length : Int) == 200) = false := by simp; omega
                                    have hlt200 : out.length < 200 := by have := HG.out.pf.ho; omega
                                    have HGO2 : Hid (Pz.go s.size k' l8 (out ++ [⟨K, q, n, tf.n, tu.n⟩]) = Pz.parse s.data.toList) := Lib.hid (by have := HF9.out.2.2; unfold Pz.s8 at this; rw [if_neg (by rw [HFO.out]; simp), if_neg h200] at this; exact this)
                                    have g0 := (cell_of_row _ _ 0 _ _ _ HG.out.r8).trans (show _ = some (Value.int .i64 (K)) from rfl)
                                    have g1 := (cell_of_row _ _ 1 _ _ _ HG.out.r8).trans (show _ = some (Value.int .i64 (q)) from rfl)
                                    have g2 := (cell_of_row _ _ 2 _ _ _ HG.out.r8).trans (show _ = some (Value.int .i64 (n)) from rfl)
                                    have g3 := (cell_of_row _ _ 3 _ _ _ HG.out.r8).trans (show _ = some (Value.int .i64 (tf.n)) from rfl)
                                    have g4 := (cell_of_row _ _ 4 _ _ _ HG.out.r8).trans (show _ = some (Value.int .i64 (tu.n)) from rfl)
                                    have HO3 := Lib.hid (o2.alloc (.cells (spCells ⟨K, q, n, tf.n, tu.n⟩).toArray 32))
                                    have HPA := Lib.hid (HG.out.pf.below ((Below.refl B wF).alloc HG.out.pf.lt.2.2.2.2.2.2.2 (.cells (spCells ⟨K, q, n, tf.n, tu.n⟩).toArray 32)))
                                    have HQ2 := Lib.hid q2; have HLB := Lib.hid (And.intro HG.out.pf.lt hlt200); clear h200 q2 o2 e2 hlt200
                                    have hlo : out.length < 200 := HLB.out.2
                                    have hlb : b6 + 1 ≤ wF.heap.size := by have := HLB.out.1; omega
                                    go_wp2_with (at_builtin; refine wpList_append_own _ rfl (.tmp 97) (.tmp 99) 22 rfl (b6 + 1) 32 i0 (spV ⟨0, 0, 0, 0, 0⟩) 5 40 Tryd.underlying22 HZ.out.1 HZ.out.2.1 HZ.out.2.2.1 HZ.out.2.2.2 rfl (by decide) _ _ _ rfl HO3.out ⟨wF.heap.size, 0, none⟩ 1 1 (spCells ⟨K, q, n, tf.n, tu.n⟩) rfl rfl (news_cells _ _ _ _ rfl) (sp_one _) (by unfold maxLen; omega) (by omega) (by simp; omega) ?_)
                                    intro v' wG hown' hgr _
                                    obtain ⟨av, cv, rfl⟩ := ownsRow_slice hown'
                                    have HPU := Lib.hid (HPA.out.push (sp := ⟨K, q, n, tf.n, tu.n⟩) HO3.out hgr (by rw [spFlat_snoc]; simpa using hown') hlo)
                                    have q2G := (hgr.block b2 (by have := HLB.out.1; simp; omega) (by intro e; have := (HO3.out.lt b2 e.symm).1; have := HLB.out.1; omega)).trans (mustKeep HQ2.out _)
                                    have d2 := cell1 q2G
                                    have f2 := frozen_of_row _ _ 0 _ _ q2G
                                    clear hown' hgr q2G g0 g1 g2 g3 g4
                                    go_wp2_with fail
                                    go_roundg k'
                                    case rel => exact Lib.hid ⟨_, l8, _, HPU.out, HGO2.out, HF9.out.2.1⟩
                                    case measure => omega
            · have c9 := (cell_of_row _ _ 1 _ _ _ ((hk' b9 (by omega)).trans hW.r9)).trans (show _ = some (Value.string ⟨t.text.toArray⟩) from rfl)
              have c8 := (cell_of_row _ _ 0 _ _ _ ((hk' b8 (by omega)).trans hW.r8)).trans (show _ = some (Value.int .i64 κ) from rfl)
              have f8 := frozen_of_row _ _ 0 _ _ ((hk' b8 (by omega)).trans hW.r8)
              have l9 : b9 < W.heap.size := by have := (Array.getElem?_eq_some_iff.1 hW.ri).1; omega
              have l8 : b8 < W.heap.size := by omega
              have HLS := Lib.hid (And.intro hls hk); clear hls hk hlt hW
              simp only [kindEs, List.mem_cons, List.not_mem_nil, or_false] at he
              rcases he with rfl | rfl | rfl
              · simp only [kind1, kindV] at hnx hen
                by_cases hkw : Pz.kw t.text = 1
                · have htx : ([99, 108, 111, 117, 100] == t.text) = true := by rw [(kw_1 t.text).1 hkw]; simp
                  have hWN := Lib.hid (HW.out.hit 0 hi hk' hB hz hkw (.cells #[.string ⟨#[99, 108, 111, 117, 100]⟩, .func (.func 45) #[] #[], .func (.func 46) #[] #[]] 65))
                  clear hi hk' hB hz hkw
                  go_wp2_with fail
                  go_roundg (leftOf kindEs (seen.push 0)).size
                  case rel => exact Lib.hid ⟨_, _, hWN.out, Nat.le_refl _⟩
                  case measure => have := HLS.out; omega
                · have htx : ([99, 108, 111, 117, 100] == t.text) = false := by simpa using fun q => hkw ((kw_1 t.text).2 q)
                  have hWN := Lib.hid (HW.out.miss 0 hi hk' hB hz hkw (.cells #[.string ⟨#[99, 108, 111, 117, 100]⟩, .func (.func 45) #[] #[], .func (.func 46) #[] #[]] 65))
                  clear hi hk' hB hz hkw
                  go_wp2_with fail
                  go_roundg (leftOf kindEs (seen.push 0)).size
                  case rel => exact Lib.hid ⟨_, _, hWN.out, Nat.le_refl _⟩
                  case measure => have := HLS.out; omega
              · simp only [kind2, kindV] at hnx hen
                by_cases hkw : Pz.kw t.text = 2
                · have htx : ([115, 101, 101, 105, 110, 103] == t.text) = true := by rw [(kw_2 t.text).1 hkw]; simp
                  have hWN := Lib.hid (HW.out.hit 1 hi hk' hB hz hkw (.cells #[.string ⟨#[115, 101, 101, 105, 110, 103]⟩, .func (.func 47) #[] #[], .func (.func 48) #[] #[]] 65))
                  clear hi hk' hB hz hkw
                  go_wp2_with fail
                  go_roundg (leftOf kindEs (seen.push 1)).size
                  case rel => exact Lib.hid ⟨_, _, hWN.out, Nat.le_refl _⟩
                  case measure => have := HLS.out; omega
                · have htx : ([115, 101, 101, 105, 110, 103] == t.text) = false := by simpa using fun q => hkw ((kw_2 t.text).2 q)
                  have hWN := Lib.hid (HW.out.miss 1 hi hk' hB hz hkw (.cells #[.string ⟨#[115, 101, 101, 105, 110, 103]⟩, .func (.func 47) #[] #[], .func (.func 48) #[] #[]] 65))
                  clear hi hk' hB hz hkw
                  go_wp2_with fail
                  go_roundg (leftOf kindEs (seen.push 1)).size
                  case rel => exact Lib.hid ⟨_, _, hWN.out, Nat.le_refl _⟩
                  case measure => have := HLS.out; omega
              · simp only [kind3, kindV] at hnx hen
                by_cases hkw : Pz.kw t.text = 3
                · have htx : ([99, 108, 111, 115, 101, 100] == t.text) = true := by rw [(kw_3 t.text).1 hkw]; simp
                  have hWN := Lib.hid (HW.out.hit 2 hi hk' hB hz hkw (.cells #[.string ⟨#[99, 108, 111, 115, 101, 100]⟩, .func (.func 49) #[] #[], .func (.func 50) #[] #[]] 65))
                  clear hi hk' hB hz hkw
                  go_wp2_with fail
                  go_roundg (leftOf kindEs (seen.push 2)).size
                  case rel => exact Lib.hid ⟨_, _, hWN.out, Nat.le_refl _⟩
                  case measure => have := HLS.out; omega
                · have htx : ([99, 108, 111, 115, 101, 100] == t.text) = false := by simpa using fun q => hkw ((kw_3 t.text).2 q)
                  have hWN := Lib.hid (HW.out.miss 2 hi hk' hB hz hkw (.cells #[.string ⟨#[99, 108, 111, 115, 101, 100]⟩, .func (.func 49) #[] #[], .func (.func 50) #[] #[]] 65))
                  clear hi hk' hB hz hkw
                  go_wp2_with fail
                  go_roundg (leftOf kindEs (seen.push 2)).size
                  case rel => exact Lib.hid ⟨_, _, hWN.out, Nat.le_refl _⟩
                  case measure => have := HLS.out; omega
  · have heb : (err != 0) = true := by simpa using he
    have HER := Lib.hid he; clear he
    go_wp2_with fail
    go_region
    go_wp2_with fail
    obtain ⟨k1, k2, k3, k4⟩ := early_cells (e := err) (at_ := at_) _ HB1.out HE.out rfl
    exact ret0 _ _ _ b2 b3 b4 (.slice none 0 0) (.int .i64 err) (.int .i64 at_) rfl rfl rfl rfl k1 k2 k3 (parse_post_fail (by unfold Pz.parse; rw [HLX.out]; simp only []; rw [if_pos HER.out]) k4)
end Go.Proofs.YtedddaojcknemaaDoor
