/- weather.Text for every list. -/
import Derived.Test.YtedddaojcknemaaDoorTxtB
namespace Go.Proofs.YtedddaojcknemaaDoor
open Go.RowKit

set_option maxRecDepth 100000 in
set_option maxHeartbeats 1000000 in
theorem text_bad (l : List Sp) (v : Value) (w : World) (hR : ReadRow w 5 v l.length (spFlat l)) (hall : allB l = false) :
    Calls Tryd.prog 16 #[v] w fun e w' => e = .returned (.tuple #[.string ⟨#[]⟩, .int .i64 1]) ∧ Below w.heap.size w w' := by
  have HR := Lib.hid hR; have HA := Lib.hid hall
  obtain ⟨a, c, rfl, hc1, hc2, _⟩ := hR.slice
  clear hR hall
  go_enter Tryd.func16, Tryd.ntmps16
  go_wp2_with fail
  refine (all_any l _ w HR.out).mono ?_
  rintro e w1 ⟨rfl, B1⟩
  rw [HA.out]
  have HB1 := Lib.hid B1; clear B1
  go_wp2_with fail
  go_ret2
  exact ⟨rfl, HB1.out⟩

def txtB (l : List Sp) : List UInt8 := if allB l then Tx.textL l else []
def txtE (l : List Sp) : Int := if allB l then 0 else 1
theorem text_any (l : List Sp) (v : Value) (w : World) (hR : ReadRow w 5 v l.length (spFlat l)) (hT : TabW w) :
    Calls Tryd.prog 16 #[v] w fun e w' => e = .returned (.tuple #[.string ⟨(txtB l).toArray⟩, .int .i64 (txtE l)]) ∧ Below w.heap.size w w' := by
  unfold txtB txtE
  cases h : allB l
  · exact text_bad l v w hR h
  · exact text_ok l v w hR h hT
end Go.Proofs.YtedddaojcknemaaDoor
