import Derived.Test.YtedddaojcknemaaDoorIdxAny
import Derived.Deep.LoopGhost
namespace Go.Proofs.YtedddaojcknemaaDoor
open Go.RowKit

theorem iterAt_heap (w : World) (k : Nat) (s : ByteArray) (pos : Nat) (h : k < w.heap.size) : (w.iterAt k s pos).heap[k]? = some (.stringIter s pos) := by
  simp [World.iterAt, h]
theorem below_iterAt {B : Nat} {w W : World} (h : Below B w W) (k : Nat) (hk : B ≤ k) (s : ByteArray) (pos : Nat) : Below B w (W.iterAt k s pos) :=
  h.trans ⟨rfl, rfl, rfl, by simp [World.iterAt], fun j hj => by
    show (W.heap.setIfInBounds k _)[j]? = _
    rw [Array.getElem?_setIfInBounds, if_neg (by omega)]⟩

theorem decode_width_pos1 (s : ByteArray) (i : Nat) (hi : i < s.size) : 1 ≤ (Utf8.decode s i).2 := by
  by_cases h : (s[i]'hi).toNat < 128
  · rw [decode_ascii s i hi h]; exact Nat.le_refl _
  · exact (decode_high s i hi (by omega)).2

set_option maxHeartbeats 4000000 in
set_option maxRecDepth 1000000 in
theorem indexAny_small (s : ByteArray) (w : World) (h8 : s.size ≤ 8) :
    Calls Tryd.prog 61 #[.string s, .string ⟨#[34, 10]⟩] w fun e w' => e = .returned (.int .i64 (Lib.indexAny s.data.toList [34, 10])) ∧ Below w.heap.size w w' := by
  have h8z : decide ((8 : Int) < (s.size : Int)) = false := decide_eq_false (by omega)
  go_enter Tryd.func61, Tryd.ntmps61
  go_wp2_with (go_at_call 74; refine (Tryd.strings_shouldUseASCIISet _ _).mono ?_; rintro e w' ⟨rfl, hw⟩; rw [hw, h8z])
  go_loopg [9, 10] s.size (fun g _ _ wx => ∃ i : Nat, i ≤ s.size ∧ s.size ≤ g + i ∧ wx.heap[w.heap.size]? = some (.stringIter s i) ∧ Below w.heap.size w wx ∧ Lib.NoAny s.data.toList [34, 10] i)
  case atStart => exact ⟨0, Nat.zero_le _, by omega, World.iter_heap _ _ _, (Below.refl _ _).alloc (Nat.le_refl _) _, Lib.NoAny.zero _ _⟩
  case round =>
    obtain ⟨i, hi, hig, hit, hbel, hno⟩ := hrel
    have HN := Lib.hid hno; have HI := Lib.hid hit; have HB := Lib.hid hbel
    clear hno hit hbel
    have hws := HB.out.size
    have hlt : w.heap.size < wr.heap.size := (Array.getElem?_eq_some_iff.1 HI.out).1
    by_cases hend : i = s.size
    · have hnx := fun ty => Lib.run_next_end_at (P := Tryd.prog) wr w.heap.size s i ty HI.out (by omega)
      subst hend
      go_wp2
      go_ret
      exact ⟨by rw [Lib.indexAny_none (by simpa using HN.out)]; rfl, HB.out⟩
    · have hi' : i < s.size := by omega
      have hnx := fun ty => Lib.run_next_any_at (P := Tryd.prog) wr w.heap.size s i ty HI.out hi'
      have hwd := decode_width_pos1 s i hi'
      have hwl := decode_width_le s i hi'
      by_cases hh : (s[i]'hi').toNat < 128
      · have hd := decode_ascii s i hi' hh
        have hd1 : (Utf8.decode s i).1 = (s[i]'hi').toNat := by rw [hd]
        have hd2 : (Utf8.decode s i).2 = 1 := by rw [hd]
        simp only [hd1, hd2] at hnx
        obtain ⟨x, hx⟩ : ∃ x : UInt8, s[i]'hi' = x := ⟨_, rfl⟩
        rw [hx] at hnx hh
        have Hx := Lib.hid (show s.data.toList[i]? = some x by rw [← hx]; exact Lib.data_getElem? s i hi')
        clear hd hd1 hd2 hx hwd hwl
        have hcon := Lib.contains_iff_indexByte [34, 10] x
        cases hin : ([34, 10] : List UInt8).contains x
        · rw [hin] at hcon
          have hn : ¬ ((0 : Int) ≤ Lib.indexByte [34, 10] x) := of_decide_eq_false hcon.symm
          clear hcon
          go_wp2_with fail
          refine (Tryd.strings_IndexRune_ascii ⟨#[34, 10]⟩ _ _ (by omega) (by omega)).mono ?_
          rintro e w' ⟨rfl, hw⟩
          rw [hw, show ((x.toNat : Nat) : Int).toNat.toUInt8 = x by simp, show (⟨#[34, 10]⟩ : ByteArray).data.toList = [34, 10] from rfl]
          go_wp2_with fail
          go_roundg (s.size - (i + 1))
          case measure => omega
          case rel => exact ⟨i + 1, by omega, by omega, iterAt_heap _ _ _ _ hlt, below_iterAt HB.out _ (Nat.le_refl _) _ _, HN.out.succ Hx.out hin⟩
        · rw [hin] at hcon
          have hge : (0 : Int) ≤ Lib.indexByte [34, 10] x := of_decide_eq_true hcon.symm
          clear hcon
          go_wp2_with fail
          refine (Tryd.strings_IndexRune_ascii ⟨#[34, 10]⟩ _ _ (by omega) (by omega)).mono ?_
          rintro e w' ⟨rfl, hw⟩
          rw [hw, show ((x.toNat : Nat) : Int).toNat.toUInt8 = x by simp, show (⟨#[34, 10]⟩ : ByteArray).data.toList = [34, 10] from rfl]
          go_wp2_with fail
          go_ret
          exact ⟨by rw [Lib.indexAny_hit HN.out Hx.out hin]; rfl, below_iterAt HB.out _ (Nat.le_refl _) _ _⟩
      · have hh2 := decode_high s i hi' (by omega)
        have hle := decode_le s i
        have HW := Lib.hid (noAny_wide s i hi' (by omega) HN.out)
        obtain ⟨r, hr⟩ : ∃ r, r = (Utf8.decode s i).1 := ⟨_, rfl⟩
        obtain ⟨k, hk⟩ : ∃ k, k = (Utf8.decode s i).2 := ⟨_, rfl⟩
        rw [← hr] at hh2 hle
        rw [← hk] at hwd hwl hh2 HW
        simp only [← hr, ← hk] at hnx
        have HR := Lib.hid hr; clear hr
        have HK := Lib.hid hk; clear hk
        have h128 := hh2.1
        clear hh2
        go_wp2_with fail
        refine (indexRune_high _ _ (by omega) (by omega)).mono ?_
        rintro e w1 ⟨rfl, hb1⟩
        have HB1 := Lib.hid hb1; clear hb1
        go_wp2_with fail
        go_roundg (s.size - (i + k))
        case measure => omega
        case rel =>
          have hsz : (wr.iterAt w.heap.size s (i + k)).heap.size = wr.heap.size := by simp [World.iterAt]
          exact ⟨i + k, by omega, by omega, (HB1.out.block w.heap.size (by rw [hsz]; exact hlt)).trans (iterAt_heap _ _ _ _ hlt),
            (below_iterAt HB.out _ (Nat.le_refl _) _ _).trans (HB1.out.mono (by rw [hsz]; omega)), HW.out⟩

theorem indexAny_any (s : ByteArray) (w : World) (hm : s.size < 4294967281) :
    Calls Tryd.prog 61 #[.string s, .string ⟨#[34, 10]⟩] w fun e w' => e = .returned (.int .i64 (Lib.indexAny s.data.toList [34, 10])) ∧ Below w.heap.size w w' := by
  by_cases h : s.size ≤ 8
  · exact indexAny_small s w h
  · refine (Tryd.strings_IndexAny_long (fun _ => by kernel_rfl) s ⟨#[34, 10]⟩ w (by decide) (by omega) hm (by decide) (by
      intro j b hb
      match j, hb with
      | 0, hb => simp at hb; subst hb; decide
      | 1, hb => simp at hb; subst hb; decide)).mono ?_
    rintro e w' ⟨rfl, rfl⟩
    exact ⟨rfl, ((Below.refl _ _).alloc (Nat.le_refl _) _).alloc (by simp) _⟩
end Go.Proofs.YtedddaojcknemaaDoor
