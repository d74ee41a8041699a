import Derived.Test.YtedddaojcknemaaDoorLexI
namespace Go.Proofs.YtedddaojcknemaaDoor
open Go.RowKit

theorem checkKey_int {P : Program} (em : Bool) (n : Nat) (kt : TypeId) (k : IntKind) (v : Value) (w : World) (hk : P.underlying kt = some (.int k)) : (Instr.checkKey em (n + 1) kt v).run P w = .ok () w := by
  unfold Instr.checkKey
  rw [Sem.run_bind, run_underlying hk]
  simp [Result.andThen]

/-- A store at a new key into a map that is the last block. -/
theorem run_update_new {P : Program} (w : World) (t kt et : TypeId) (es : Array MapEntry) (c : Nat) (k : Int) (v : Value) (ht : P.underlying t = some (.map kt et)) (hk : P.underlying kt = some (.int .i64))
    (hf : Instr.findNow (.int .i64) (.int .i64 k) es.toList 0 = some none) :
    (Instr.mapUpdate t (.map (some w.heap.size)) (.int .i64 k) v).run P (w.alloc (.map es c)) = .ok () (w.alloc (.map (es.push { key := .int .i64 k, val := v, born := c }) (c + 1))) := by
  unfold Instr.mapUpdate Instr.findKey
  have hg := heap_alloc_new w (.map es c)
  have hset : (w.heap.push (.map es c)).setIfInBounds w.heap.size (.map (es.push { key := .int .i64 k, val := v, born := c }) (c + 1)) = w.heap.push (.map (es.push { key := .int .i64 k, val := v, born := c }) (c + 1)) := by
    apply Array.ext'
    simp [Array.setIfInBounds, Array.toList_push]
  have hgo : (getObj w.heap.size).run P (w.alloc (.map es c)) = .ok (.map es c) (w.alloc (.map es c)) := by simp only [getObj, Sem.run, hg]
  have hso : (setObj w.heap.size (.map (es.push { key := .int .i64 k, val := v, born := c }) (c + 1))).run P (w.alloc (.map es c)) = .ok () (w.alloc (.map (es.push { key := .int .i64 k, val := v, born := c }) (c + 1))) := by
    simp only [setObj, Sem.run, hg]
    show Result.ok () { w with heap := (w.heap.push (.map es c)).setIfInBounds w.heap.size (.map (es.push { key := .int .i64 k, val := v, born := c }) (c + 1)) } = _
    rw [hset]
    rfl
  simp only [Sem.run_bind, run_underlying ht, Result.andThen_ok, hgo, checkKey_int false 9999 kt .i64 _ _ hk, run_underlying hk, hf, Sem.run_pure, hso]

/-- A look-up by an integer, with ok. -/
theorem run_lookup_ok {P : Program} (w : World) (b : Nat) (t kt et : TypeId) (es : Array MapEntry) (c : Nat) (k : Int) (ht : P.underlying t = some (.map kt et)) (hk : P.underlying kt = some (.int .i64)) (hb : w.heap[b]? = some (.map es c))
    (j : Nat) (v : Value) (hf : Instr.findNow (.int .i64) (.int .i64 k) es.toList 0 = some (some (j, v))) :
    (Instr.lookup t (.map (some b)) (.int .i64 k) true).run P w = .ok (.tuple #[v, .bool true]) w := by
  unfold Instr.lookup Instr.findKey
  have hgo : (getObj b).run P w = .ok (.map es c) w := by simp only [getObj, Sem.run, hb]
  simp only [Sem.run_bind, run_underlying ht, Result.andThen_ok, hgo, Sem.run_pure, checkKey_int _ 9999 kt .i64 _ _ hk, run_underlying hk, hf]
  rfl
theorem run_lookup_plain {P : Program} (w : World) (b : Nat) (t kt et : TypeId) (es : Array MapEntry) (c : Nat) (k : Int) (ht : P.underlying t = some (.map kt et)) (hk : P.underlying kt = some (.int .i64)) (hb : w.heap[b]? = some (.map es c))
    (j : Nat) (v : Value) (hf : Instr.findNow (.int .i64) (.int .i64 k) es.toList 0 = some (some (j, v))) :
    (Instr.lookup t (.map (some b)) (.int .i64 k) false).run P w = .ok v w := by
  unfold Instr.lookup Instr.findKey
  have hgo : (getObj b).run P w = .ok (.map es c) w := by simp only [getObj, Sem.run, hb]
  simp only [Sem.run_bind, run_underlying ht, Result.andThen_ok, hgo, Sem.run_pure, checkKey_int _ 9999 kt .i64 _ _ hk, run_underlying hk, hf]
  rfl
theorem run_lookup_no {P : Program} (w : World) (b : Nat) (t kt et : TypeId) (es : Array MapEntry) (c : Nat) (k : Int) (ht : P.underlying t = some (.map kt et)) (hk : P.underlying kt = some (.int .i64)) (hb : w.heap[b]? = some (.map es c))
    (z : Value) (hz : (zeroValue et).run P w = .ok z w) (hf : Instr.findNow (.int .i64) (.int .i64 k) es.toList 0 = some none) :
    (Instr.lookup t (.map (some b)) (.int .i64 k) true).run P w = .ok (.tuple #[z, .bool false]) w := by
  unfold Instr.lookup Instr.findKey
  have hgo : (getObj b).run P w = .ok (.map es c) w := by simp only [getObj, Sem.run, hb]
  simp only [Sem.run_bind, run_underlying ht, Result.andThen_ok, hgo, Sem.run_pure, checkKey_int _ 9999 kt .i64 _ _ hk, run_underlying hk, hf, hz]
  rfl

/-! The kinds of spells, as kinds() lays them in a new map. -/
def kindV (word : List UInt8) (f g : Nat) : Value := .agg #[.string ⟨word.toArray⟩, .func (.func f) #[] #[], .func (.func g) #[] #[]]
def kind1 : Value := kindV [99, 108, 111, 117, 100] 45 46
def kind2 : Value := kindV [115, 101, 101, 105, 110, 103] 47 48
def kind3 : Value := kindV [99, 108, 111, 115, 101, 100] 49 50
def kindEs : Array MapEntry := #[⟨.int .i64 1, kind1, 0⟩, ⟨.int .i64 2, kind2, 1⟩, ⟨.int .i64 3, kind3, 2⟩]
def kindMap : Obj := .map kindEs 3

set_option maxRecDepth 100000 in
theorem kinds_any (w : World) : Calls Tryd.prog 29 #[] w fun e w' => e = .returned (.map (some w.heap.size)) ∧ w' = w.alloc kindMap := by
  have hmm := @run_makeMap Tryd.prog
  have h1 : (Instr.mapUpdate 60 (.map (some w.heap.size)) (.int .i64 1) kind1).run Tryd.prog (w.alloc (.map #[] 0)) = .ok () (w.alloc (.map #[⟨.int .i64 1, kind1, 0⟩] 1)) :=
    run_update_new w 60 3 65 #[] 0 1 kind1 Tryd.underlying60 Tryd.underlying3 rfl
  have h2 : (Instr.mapUpdate 60 (.map (some w.heap.size)) (.int .i64 2) kind2).run Tryd.prog (w.alloc (.map #[⟨.int .i64 1, kind1, 0⟩] 1)) = .ok () (w.alloc (.map #[⟨.int .i64 1, kind1, 0⟩, ⟨.int .i64 2, kind2, 1⟩] 2)) :=
    run_update_new w 60 3 65 #[⟨.int .i64 1, kind1, 0⟩] 1 2 kind2 Tryd.underlying60 Tryd.underlying3 rfl
  have h3 : (Instr.mapUpdate 60 (.map (some w.heap.size)) (.int .i64 3) kind3).run Tryd.prog (w.alloc (.map #[⟨.int .i64 1, kind1, 0⟩, ⟨.int .i64 2, kind2, 1⟩] 2)) = .ok () (w.alloc (.map #[⟨.int .i64 1, kind1, 0⟩, ⟨.int .i64 2, kind2, 1⟩, ⟨.int .i64 3, kind3, 2⟩] 3)) :=
    run_update_new w 60 3 65 #[⟨.int .i64 1, kind1, 0⟩, ⟨.int .i64 2, kind2, 1⟩] 2 3 kind3 Tryd.underlying60 Tryd.underlying3 rfl
  simp only [kind1, kind2, kind3, kindV] at h1 h2 h3
  go_enter Tryd.func29, Tryd.ntmps29
  go_wp2
  go_ret
  exact ⟨rfl, rfl⟩

/-! Looking a kind up. -/
theorem kind_look (w : World) (b : Nat) (hb : w.heap[b]? = some kindMap) (k : Int) (j : Nat) (v : Value) (hf : Instr.findNow (.int .i64) (.int .i64 k) kindEs.toList 0 = some (some (j, v))) :
    (Instr.lookup 60 (.map (some b)) (.int .i64 k) true).run Tryd.prog w = .ok (.tuple #[v, .bool true]) w :=
  run_lookup_ok w b _ 3 65 kindEs 3 k Tryd.underlying60 Tryd.underlying3 hb j v hf
theorem kind_get (w : World) (b : Nat) (hb : w.heap[b]? = some kindMap) (k : Int) (j : Nat) (v : Value) (hf : Instr.findNow (.int .i64) (.int .i64 k) kindEs.toList 0 = some (some (j, v))) :
    (Instr.lookup 60 (.map (some b)) (.int .i64 k) false).run Tryd.prog w = .ok v w :=
  run_lookup_plain w b _ 3 65 kindEs 3 k Tryd.underlying60 Tryd.underlying3 hb j v hf
def kindZ : Value := .agg #[.string ⟨#[]⟩, .nilFunc, .nilFunc]
theorem kind_none (w : World) (b : Nat) (hb : w.heap[b]? = some kindMap) (k : Int) (h1 : k ≠ 1) (h2 : k ≠ 2) (h3 : k ≠ 3) :
    (Instr.lookup 60 (.map (some b)) (.int .i64 k) true).run Tryd.prog w = .ok (.tuple #[kindZ, .bool false]) w := by
  refine run_lookup_no w b _ 3 65 kindEs 3 k Tryd.underlying60 Tryd.underlying3 hb kindZ (by kernel_rfl) ?_
  have e1 : (k == 1) = false := by simpa using h1
  have e2 : (k == 2) = false := by simpa using h2
  have e3 : (k == 3) = false := by simpa using h3
  simp [kindEs, Instr.findNow, Instr.sameNow, e1, e2, e3]
end Go.Proofs.YtedddaojcknemaaDoor
