/- weather.Text: walked. -/
import Derived.Test.YtedddaojcknemaaDoorTxtA
namespace Go.Proofs.YtedddaojcknemaaDoor
open Go.RowKit

def TextRel (l : List Sp) (w : World) (b : Nat) (x : Value) (wr : World) : Prop :=
  ∃ i : Nat, x = .int .i64 i ∧ i ≤ l.length ∧ Lib.IsBuilder 77 5 w.heap.size b (Lib.byteCells (Tx.textL (l.take i))) wr ∧ Below w.heap.size w wr
theorem builder_lt {T e : TypeId} {B b : Nat} {bs : List Value} {w : World} (h : Lib.IsBuilder T e B b bs w) : b < w.heap.size := by
  rcases h with h | h <;> exact h.lt
theorem fresh_at {T e : TypeId} {B : Nat} {w : World} (h : B ≤ w.heap.size) : Lib.IsBuilder T e B w.heap.size [] (w.alloc (.cells #[.pointer none, .slice none 0 0] T)) :=
  Or.inl ⟨h, .slice none 0 0, heap_alloc_new w _, World.ownsRow_nil _ _ _ _, by simp [Value.ownBlock]⟩
/-- The inner loop: the first j numbers are written. -/
def NumsRel (b s : Nat) (sp : Sp) (base : List UInt8) (a : Option Addr) (w0 : World) (x : Value) (wr : World) : Prop :=
  ∃ j : Nat, x = .int .i64 j ∧ j ≤ (numsOf sp).length ∧ TS b s sp (base ++ numsTxt ((numsOf sp).take j)) w0 wr ∧ NumsAt s sp a wr
theorem NumsAt.keep {s : Nat} {sp : Sp} {a : Option Addr} {w w' : World} (h : NumsAt s sp a w) (hk : ∀ (g : Nat) (o : Obj), w.heap[g]? = some o → ∀ cs, o = Obj.cells cs 68 (0, 0) → w'.heap[g]? = some o) : NumsAt s sp a w' := by
  intro j n hj
  obtain ⟨g, off, h1, h2, h3, h4⟩ := h j n hj
  exact ⟨g, off, h1, hk g _ h2 _ rfl, h3, h4⟩
theorem NumsAt.below {s : Nat} {sp : Sp} {a : Option Addr} {w w' : World} (h : NumsAt s sp a w) (hb : Below w.heap.size w w') : NumsAt s sp a w' :=
  h.keep fun g _ hg _ _ => (hb.block g (Array.getElem?_eq_some_iff.1 hg).1).trans hg
theorem NumsAt.write {b s : Nat} {sp : Sp} {a : Option Addr} {w w' : World} {B : Nat} {bs : List Value} {t : ByteArray} {e : Ending} (h : NumsAt s sp a w) (hb : Lib.IsBuilder 77 5 B b bs w) (hp : WritePost B b bs t w e w') : NumsAt s sp a w' :=
  h.keep fun g o hg cs hc => by
    refine hp.2.2.2 g o hg ?_ (fun cs' h' => ?_)
    · rintro rfl
      have hT : ∃ p, Lib.BuilderAt 77 5 B g p bs w := hb.elim (fun h => ⟨_, h⟩) (fun h => ⟨_, h⟩)
      obtain ⟨p, _, v, hv, _⟩ := hT
      rw [hv] at hg
      injection hg with hg
      rw [hc] at hg
      injection hg with _ ht _
      exact absurd ht (by decide)
    · rw [hc] at h'
      injection h' with _ ht _
      exact absurd ht (by decide)
theorem numsTxt_succ {l : List Int} {j : Nat} {n : Int} (h : l[j]? = some n) : numsTxt (l.take (j + 1)) = numsTxt (l.take j) ++ (32 :: Lib.itoa n) := by
  rw [List.take_add_one, h]; unfold numsTxt; rw [List.flatMap_append]; simp
theorem textL_succ {l : List Sp} {i : Nat} {sp : Sp} (h : l[i]? = some sp) : Tx.textL (l.take (i + 1)) = Tx.textL (l.take i) ++ Tx.spText sp := by
  rw [List.take_add_one, h]; unfold Tx.textL; rw [List.flatMap_append]; simp

/-- Behind the call that lists a kind's numbers. -/
def ListAt (b s : Nat) (sp : Sp) (bs : List UInt8) (w0 : World) (s28 s29 s30 : Value) (wx : World) : Prop :=
  ∃ a c, s28 = .slice a (numsOf sp).length c ∧ s29 = .int .i64 (numsOf sp).length ∧ s30 = .int .i64 0 ∧ TS b s sp bs w0 wx ∧ NumsAt s sp a wx
theorem numsOf_len1 {sp : Sp} (h : sp.k = 1) : (numsOf sp).length = 2 := by unfold numsOf; rw [if_pos h]; rfl
theorem numsOf_len2 {sp : Sp} (h : sp.k = 2) : (numsOf sp).length = 1 := by unfold numsOf; rw [if_neg (by omega), if_pos h]; rfl
theorem numsOf_len3 {sp : Sp} (h : sp.k = 3) : (numsOf sp).length = 0 := by unfold numsOf; rw [if_neg (by omega), if_neg (by omega)]; rfl
theorem numPs1 {k : Int} {s : Nat} (h : k = 1) : numPs k s = [.pointer (some ⟨s, 1, none⟩), .pointer (some ⟨s, 2, none⟩)] := by unfold numPs; rw [if_pos h]
theorem numPs2 {k : Int} {s : Nat} (h : k = 2) : numPs k s = [.pointer (some ⟨s, 2, none⟩)] := by unfold numPs; rw [if_neg (by omega), if_pos h]
theorem nums_small {sp : Sp} (h : sp.k = 1 ∧ 0 ≤ sp.q ∧ sp.q ≤ 3 ∧ 0 ≤ sp.n ∧ sp.n ≤ 1000 ∨ sp.k = 2 ∧ sp.q = 0 ∧ 1 ≤ sp.n ∧ sp.n ≤ 100 ∨ sp.k = 3 ∧ sp.q = 0 ∧ sp.n = 0) : ∀ n ∈ numsOf sp, 0 ≤ n ∧ n ≤ 1000 := by
  intro n hn
  unfold numsOf at hn
  rcases h with ⟨h, _⟩ | ⟨h, _⟩ | ⟨h, _⟩
  · rw [if_pos h] at hn; simp at hn; omega
  · rw [if_neg (by omega), if_pos h] at hn; simp at hn; omega
  · rw [if_neg (by omega), if_neg (by omega)] at hn; simp at hn
theorem all_take {l : List Sp} (h : allB l = true) (i : Nat) : (l.take i).all formedB = true ∧ (l.take i).length ≤ 200 := by
  unfold allB at h
  rw [Bool.and_eq_true] at h
  have h2 := of_decide_eq_true h.1
  refine ⟨?_, by rw [List.length_take]; omega⟩
  rw [List.all_eq_true] at h ⊢
  exact fun x hx => h.2 x (List.mem_of_mem_take hx)
theorem text_room {l : List Sp} (h : allB l = true) (i : Nat) {k : Int} : (Tx.textL (l.take i)).length + (⟨(Tx.wordOf k).toArray⟩ : ByteArray).size ≤ 100000 := by
  obtain ⟨h1, h2⟩ := all_take h i
  have h3 := Tx.text_size _ h1
  have h4 : (⟨(Tx.wordOf k).toArray⟩ : ByteArray).size ≤ 6 := by
    show (Tx.wordOf k).toArray.size ≤ 6
    unfold Tx.wordOf; split
    · decide
    · split <;> decide
  omega

theorem text_room2 {l : List Sp} (h : allB l = true) (i : Nat) {k : Int} {sp : Sp} {n : Int} (hn : 0 ≤ n ∧ n ≤ 1000) (hs : ∀ n ∈ numsOf sp, 0 ≤ n ∧ n ≤ 1000) (j : Nat) {t : ByteArray} (ht : t.data.toList = 32 :: Lib.itoa n) :
    (Tx.textL (l.take i) ++ Tx.wordOf k ++ numsTxt ((numsOf sp).take j)).length + t.size ≤ 100000 := by
  have h1 := text_room h i (k := k)
  have h2 : (numsTxt (numsOf sp)).length ≤ 12 := by
    unfold numsOf at hs ⊢
    split
    · rename_i hk
      rw [if_pos hk] at hs
      have a1 := Tx.itoa_len sp.q (hs sp.q (by simp)).1 (by have := (hs sp.q (by simp)).2; omega)
      have a2 := Tx.itoa_len sp.n (hs sp.n (by simp)).1 (by have := (hs sp.n (by simp)).2; omega)
      simp [numsTxt]; omega
    · split
      · rename_i hk hk2
        rw [if_neg hk, if_pos hk2] at hs
        have a2 := Tx.itoa_len sp.n (hs sp.n (by simp)).1 (by have := (hs sp.n (by simp)).2; omega)
        simp [numsTxt]; omega
      · simp [numsTxt]
  have h3 : (numsTxt ((numsOf sp).take j)).length ≤ (numsTxt (numsOf sp)).length := by
    have : numsTxt (numsOf sp) = numsTxt ((numsOf sp).take j) ++ numsTxt ((numsOf sp).drop j) := by
      unfold numsTxt; rw [← List.flatMap_append, List.take_append_drop]
    rw [this, List.length_append]; omega
  have h4 := Tx.itoa_len n hn.1 (by omega)
  have h5 : t.size = (32 :: Lib.itoa n).length := by rw [← ht]; simp
  have h6 : (Tx.wordOf k).length ≤ 6 := by unfold Tx.wordOf; split; simp; split <;> simp
  obtain ⟨h7, h8⟩ := all_take h i
  have h9 := Tx.text_size _ h7
  simp only [List.length_append, List.length_cons] at h5 ⊢
  omega

theorem nums_two (sp : Sp) : (numsOf sp).length ≤ 2 := by
  unfold numsOf; split
  · simp
  · split <;> simp
theorem text_room3 {l : List Sp} (h : allB l = true) {i : Nat} {sp : Sp} (hs : l[i]? = some sp) : (Tx.textL (l.take i) ++ Tx.wordOf sp.k ++ Tx.numsText sp).length + (Tx.endText sp).length ≤ 100000 := by
  obtain ⟨h1, h2⟩ := all_take h (i + 1)
  have h3 := Tx.text_size _ h1
  rw [textL_succ hs] at h3
  unfold Tx.spText at h3
  simp only [List.length_append] at h3 ⊢
  omega
theorem end_room {bs e : List UInt8} {t : ByteArray} (h : bs.length + e.length ≤ 100000) (ht : t.data.toList = e) : bs.length + t.size ≤ 100000 := by
  rw [bytes_size, ht]; exact h

set_option maxRecDepth 100000 in
set_option maxHeartbeats 4000000 in
theorem text_ok (l : List Sp) (v : Value) (w : World) (hR : ReadRow w 5 v l.length (spFlat l)) (hall : allB l = true) (hT : TabW w) :
    Calls Tryd.prog 16 #[v] w fun e w' => e = .returned (.tuple #[.string ⟨(Tx.textL l).toArray⟩, .int .i64 0]) ∧ Below w.heap.size w w' := by
  have HR := Lib.hid hR; have HA := Lib.hid hall; have HT := Lib.hid hT
  obtain ⟨a, c, rfl, hc1, hc2, _⟩ := hR.slice
  clear hR hall hT
  go_enter Tryd.func16, Tryd.ntmps16
  go_wp2_with fail
  refine (all_any l _ w HR.out).mono ?_
  rintro e w1 ⟨rfl, B1⟩
  rw [HA.out]
  have HB1 := Lib.hid B1
  have hz1 := B1.size
  clear B1
  go_wp2_with fail
  have HI : Hid (TextRel l w w1.heap.size (.int .i64 0) (w1.alloc (.cells #[.pointer none, .slice none 0 0] 77))) := Lib.hid ⟨0, rfl, Nat.zero_le _, by rw [List.take_zero]; exact fresh_at hz1, HB1.out.alloc hz1 _⟩
  obtain ⟨b, hb⟩ : ∃ b, b = w1.heap.size := ⟨_, rfl⟩
  rw [← hb] at HI
  rw [← hb]
  clear hb hz1 HB1
  go_loopw [15] (fun x wr => Hid (TextRel l w b x wr)) (fun x _ => l.length - (intOf x).toNat)
  case atStart => exact HI
  case round =>
    obtain ⟨i, rfl, hi, hbl, hbel⟩ := hrel.out
    clear HI hrel
    have hl200 := (all_take HA.out l.length).2
    rw [List.take_length] at hl200
    by_cases hlt : i < l.length
    · obtain ⟨sp, hsp⟩ : ∃ sp, l[i]? = some sp := ⟨_, List.getElem?_eq_getElem hlt⟩
      obtain ⟨g, off, c', hv, _, _, hg, c0, c1, c2, c3, c4⟩ := readSp5 (HR.out.below hbel) i sp hsp
      cases hv
      have hf : formedB sp = true := by
        have := HA.out
        unfold allB at this
        rw [Bool.and_eq_true, List.all_eq_true] at this
        exact this.2 sp (List.mem_of_getElem? hsp)
      have HK := Lib.hid (Tx.formed_nums hf)
      have HSP := Lib.hid hsp
      clear hf hsp
      have HTS : Hid (TS b wr.heap.size sp (Tx.textL (l.take i)) w (wr.alloc (.cells #[.int .i64 sp.k, .int .i64 sp.q, .int .i64 sp.n, .int .i64 sp.f, .int .i64 sp.u] 32))) := Lib.hid
        ⟨builder_below hbl ((Below.refl _ _).alloc (Nat.le_refl _) _), heap_alloc_new _ _, hbel.alloc hbel.size _, by have := builder_lt hbl; omega⟩
      clear hbl hbel
      obtain ⟨l1, l2, l3⟩ := kCells_look wr (.cells #[.int .i64 sp.k, .int .i64 sp.q, .int .i64 sp.n, .int .i64 sp.f, .int .i64 sp.u] 32) sp.k (by have := HK.out.1; omega)
      simp only [kCells] at l1 l2 l3
      obtain ⟨s, hs⟩ : ∃ s, s = wr.heap.size := ⟨_, rfl⟩
      go_upto_region 7 with fail
      go_cut [7] (fun s7 wx => Hid (KindAt b s sp (Tx.textL (l.take i)) w s7 wx))
      case first =>
        go_region_with (go_at_call 29; refine (kinds_any _).mono ?_; rintro e w' ⟨rfl, rfl⟩)
        all_goals
          go_wp2_with fail
          go_meet
          rw [hs]
          first | exact Lib.hid (kindAt1 HTS.out) | exact Lib.hid (kindAt2 HTS.out)
      case rest =>
        obtain ⟨g7, rfl, hg7, hgb, hTS7⟩ := hcut.out
        rw [← hs]
        clear hcut l1 l2 l3 HTS c0 c1 c2 c3 c4 hs
        have k0 := cell_of_row _ _ 0 _ _ _ hg7
        have HG7 := Lib.hid (And.intro hg7 hgb)
        have HT7 := Lib.hid hTS7
        clear hg7 hgb hTS7
        unfold kCells at k0
        go_wp2_with fail
        refine (HT7.out.writes ⟨(Tx.wordOf sp.k).toArray⟩ (text_room HA.out i)).mono ?_
        rintro e w8 hp
        have HT8 := Lib.hid (HT7.out.write hp)
        have hg8 := hp.2.2.2 g7 _ HG7.out.1 HG7.out.2 (fun cs hc => by injection hc with _ ht _; exact absurd ht (by decide))
        obtain rfl := hp.1
        have k1 := cell_of_row _ _ 1 _ _ _ hg8
        unfold kCells at k1
        clear hp hg8 k0 HT7
        go_upto_region 9 with fail
        go_cut [28, 29, 30] (fun s28 s29 s30 wx => Hid (ListAt b s sp (Tx.textL (l.take i) ++ Tx.wordOf sp.k) w s28 s29 s30 wx))
        case first =>
          have hk := HK.out.1
          rcases hk with ⟨hk, _⟩ | ⟨hk, _⟩ | ⟨hk, _⟩
          · have hfn : fnN sp.k = 45 := by unfold fnN; rw [if_pos hk]
            have HKK := Lib.hid hk; clear hk
            rw [hfn] at k1; clear hfn
            go_wp2_with fail
            refine (num1_any s w8).mono ?_
            rintro e w9 ⟨g, rfl, hg, hgs, hgB⟩
            have HL : Hid (ListAt b s sp (Tx.textL (l.take i) ++ Tx.wordOf sp.k) w (.slice (some ⟨g, 0, none⟩) 2 2) (.int .i64 2) (.int .i64 0) w9) := Lib.hid
              ⟨some ⟨g, 0, none⟩, 2, by rw [numsOf_len1 HKK.out], by rw [numsOf_len1 HKK.out]; rfl, rfl, HT8.out.below hgB, numsAt_of (.inr ⟨g, rfl, by rw [numPs1 HKK.out]; exact hg⟩) (.inl HKK.out)⟩
            clear hg hgs hgB
            go_wp2_with fail
            go_meet
            exact HL
          · have hfn : fnN sp.k = 47 := by unfold fnN; rw [if_neg (by omega), if_pos hk]
            have HKK := Lib.hid hk; clear hk
            rw [hfn] at k1; clear hfn
            go_wp2_with fail
            refine (num2_any s w8).mono ?_
            rintro e w9 ⟨g, rfl, hg, hgs, hgB⟩
            have HL : Hid (ListAt b s sp (Tx.textL (l.take i) ++ Tx.wordOf sp.k) w (.slice (some ⟨g, 0, none⟩) 1 1) (.int .i64 1) (.int .i64 0) w9) := Lib.hid
              ⟨some ⟨g, 0, none⟩, 1, by rw [numsOf_len2 HKK.out], by rw [numsOf_len2 HKK.out]; rfl, rfl, HT8.out.below hgB, numsAt_of (.inr ⟨g, rfl, by rw [numPs2 HKK.out]; exact hg⟩) (.inr (.inl HKK.out))⟩
            clear hg hgs hgB
            go_wp2_with fail
            go_meet
            exact HL
          · have hfn : fnN sp.k = 49 := by unfold fnN; rw [if_neg (by omega), if_neg (by omega)]
            have HKK := Lib.hid hk; clear hk
            rw [hfn] at k1; clear hfn
            go_wp2_with fail
            refine (num3_any s w8).mono ?_
            rintro e w9 ⟨rfl, hw9⟩
            rw [hw9]; clear hw9
            have HL : Hid (ListAt b s sp (Tx.textL (l.take i) ++ Tx.wordOf sp.k) w (.slice none 0 0) (.int .i64 0) (.int .i64 0) w8) := Lib.hid
              ⟨none, 0, by rw [numsOf_len3 HKK.out], by rw [numsOf_len3 HKK.out]; rfl, rfl, HT8.out, numsAt_of (.inl HKK.out) (.inr (.inr HKK.out))⟩
            go_wp2_with fail
            go_meet
            exact HL
        case rest =>
          obtain ⟨a, c2, rfl, rfl, rfl, hT9, hN9⟩ := hcut.out
          have HI9 : Hid (NumsRel b s sp (Tx.textL (l.take i) ++ Tx.wordOf sp.k) a w (.int .i64 0) wc) := Lib.hid ⟨0, rfl, Nat.zero_le _, by simpa [numsTxt] using hT9, hN9⟩
          clear hcut hT9 hN9 HT8 k1
          have HKN := Lib.hid (nums_small HK.out.1)
          go_wp2_with fail
          go_loopw [30] (fun x wx => Hid (NumsRel b s sp (Tx.textL (l.take i) ++ Tx.wordOf sp.k) a w x wx)) (fun x _ => (numsOf sp).length - (intOf x).toNat)
          case atStart => exact HI9
          case round =>
            obtain ⟨j, rfl, hj, hT, hN⟩ := hrel.out
            clear HI9 hrel
            have hlen2 := nums_two sp
            by_cases hjl : j < (numsOf sp).length
            · obtain ⟨n, hn⟩ : ∃ n, (numsOf sp)[j]? = some n := ⟨_, List.getElem?_eq_getElem hjl⟩
              obtain ⟨gp, po, rfl, q1, q2, q3⟩ := hN j n hn
              have c1 := (cell_of_row _ _ j _ _ _ q1).trans (show (numPs sp.k s).toArray[j]? = some (Value.pointer (some ⟨s, po, none⟩)) by simpa using q2)
              have c2' := (cell_of_row _ _ po _ _ _ hT.hs).trans (show (spCells sp).toArray[po]? = some (Value.int .i64 n) by simpa using q3)
              have hsm := HKN.out n (List.mem_of_getElem? hn)
              have HTT := Lib.hid (And.intro hT (And.intro hN (And.intro hn hsm)))
              clear hT hN hn q1 q2 q3 hsm
              go_wp2_with fail
              have hil := Tx.itoa_len n HTT.out.2.2.2.1 (by have := HTT.out.2.2.2.2; omega)
              refine (itoa_any n _ HTT.out.2.2.2.1 (by have := HTT.out.2.2.2.2; omega) (HT.out.below HTT.out.1.bel)).mono ?_
              rintro e wA ⟨rfl, hA⟩
              have HTA := Lib.hid (And.intro (HTT.out.1.below hA) (HTT.out.2.1.below hA))
              clear hA c1 c2'
              go_wp2_with fail
              refine (HTA.out.1.writes _ (text_room2 HA.out i HTT.out.2.2.2 HKN.out j (by rw [bytes_append]; rfl))).mono ?_
              rintro e wB hp
              have HTB : Hid (NumsRel b s sp (Tx.textL (l.take i) ++ Tx.wordOf sp.k) (some ⟨gp, 0, none⟩) w (.int .i64 ((j + 1 : Nat) : Int)) wB) := Lib.hid
                ⟨j + 1, rfl, by omega, by
                  have := HTA.out.1.write hp
                  rw [bytes_append, List.append_assoc] at this
                  rw [numsTxt_succ HTT.out.2.2.1]
                  exact this, HTA.out.2.write HTA.out.1.hb hp⟩
              obtain rfl := hp.1
              clear hp
              go_wp2_with fail
              go_roundw
              case rel => exact HTB
              case measure => simp [intOf]; omega
            · have hje : j = (numsOf sp).length := by omega
              have HT14 : Hid (TS b s sp (Tx.textL (l.take i) ++ Tx.wordOf sp.k ++ Tx.numsText sp) w wr) := Lib.hid (by
                subst hje
                rw [List.take_length, numsTxt_of] at hT
                exact hT)
              clear hT hN hje
              have HTd : Hid (TS b s sp (Tx.textL (l.take i) ++ Tx.wordOf sp.k ++ Tx.numsText sp) w wr.drew) := Lib.hid (HT14.out.below (Below.refl _ _).drew)
              obtain ⟨c0, c1, c2', c3, c4⟩ := HT14.out.cells
              obtain ⟨_, hf0, hf1, hu0, hu1, _⟩ := HK.out
              have hfl := Tx.itoa_len sp.f hf0 (by omega)
              have hul := Tx.itoa_len sp.u hu0 (by omega)
              go_upto_region 14 with fail
              have hroom := text_room3 HA.out HSP.out
              have n1 : ¬ 9223372036854775807 < 6 + (Lib.itoa sp.f).length := by omega
              have n2 : ¬ 9223372036854775807 < 6 + (Lib.itoa sp.f).length + 7 := by omega
              have n3 : ¬ 9223372036854775807 < 6 + (Lib.itoa sp.f).length + 7 + (Lib.itoa sp.u).length := by omega
              have n4 : ¬ 9223372036854775807 < 6 + (Lib.itoa sp.f).length + 7 + (Lib.itoa sp.u).length + 2 := by omega
              go_region_held3 (fun w' => w'.cell? ⟨s, 3, none⟩ = some (.int .i64 sp.f) ∧ w'.cell? ⟨s, 4, none⟩ = some (.int .i64 sp.u)) (exact ⟨by assumption, by assumption⟩)
                (first
                | (go_at_call 37; refine (itoa_ts HT.out _ (by omega) (by omega) (by assumption)).mono ?_; rintro e w' ⟨rfl, hts⟩; obtain ⟨_, _, _, c3, c4⟩ := hts.out.cells)
                | (go_at_call 36; refine (write_ts _ (end_room hroom (by simp only [bytes_append]; rfl)) (by assumption)).mono ?_; rintro e w' ⟨rfl, hts⟩; obtain ⟨_, _, _, c3, c4⟩ := hts.out.cells))
              all_goals
                have HR2 : Hid (TextRel l w b (.int .i64 ((i + 1 : Nat) : Int)) w') := Lib.hid ⟨i + 1, rfl, by omega, by
                  have := hts.out.hb
                  simp only [bytes_append] at this
                  rw [textL_succ HSP.out]
                  unfold Tx.spText Tx.endText
                  simpa [List.append_assoc] using this, hts.out.bel⟩
                go_wp2_with fail
                go_roundw
                case rel => exact HR2
                case measure => simp [intOf]; omega
    · have hil : i = l.length := by omega
      subst hil
      rw [List.take_length] at hbl
      have HH := Lib.hid (And.intro hbl hbel)
      clear hbl hbel
      go_wp2_with fail
      refine (Tryd.Builder_String_any w.heap.size b (Tx.textL l) wr HH.out.1 HH.out.2.size).mono ?_
      rintro e w' ⟨rfl, hB⟩
      have HB := Lib.hid (HH.out.2.trans hB); clear hB
      go_wp2_with fail
      go_ret2
      exact ⟨rfl, HB.out⟩
end Go.Proofs.YtedddaojcknemaaDoor
