/- Words for the walks of this seat: what a call keeps of the world; the stream of raw numbers. -/
import Derived.WalkKit
import Derived.Lib.Hide
import Derived.Deep.Draws
set_option linter.unusedVariables false
set_option linter.unusedSimpArgs false
namespace Go.Proofs.YtcldaldfonfbgaaGreatDoor
open Go.RowKit

/-- All blocks of w but those of S are as they were; the streams are as they were. -/
structure Kp (S : Nat → Prop) (w w' : World) : Prop where
  os : w'.os = w.os
  tape : w'.tape = w.tape
  output : w'.output = w.output
  size : w.heap.size ≤ w'.heap.size
  block : ∀ k, k < w.heap.size → ¬ S k → w'.heap[k]? = w.heap[k]?

def Non : Nat → Prop := fun _ => False
def Sole (b : Nat) : Nat → Prop := fun k => k = b
theorem non_not (k : Nat) : ¬ Non k := fun h => h

namespace Kp
variable {S S' : Nat → Prop} {a b c w w' : World}
theorem refl (S : Nat → Prop) (w : World) : Kp S w w := ⟨rfl, rfl, rfl, Nat.le_refl _, fun _ _ _ => rfl⟩
theorem trans (h : Kp S a b) (k : Kp S' b c) (hs : ∀ i, S' i → S i ∨ a.heap.size ≤ i) : Kp S a c :=
  ⟨k.os.trans h.os, k.tape.trans h.tape, k.output.trans h.output, Nat.le_trans h.size k.size, fun i hi hn =>
    (k.block i (Nat.lt_of_lt_of_le hi h.size) (fun h2 => (hs i h2).elim hn (fun h3 => by omega))).trans (h.block i hi hn)⟩
theorem then_ (h : Kp S a b) (k : Kp S b c) : Kp S a c := h.trans k fun _ h => .inl h
theorem then0 (h : Kp S a b) (k : Kp Non b c) : Kp S a c := h.trans k fun _ h => h.elim
theorem mono (h : Kp S a b) (hs : ∀ i, S i → S' i) : Kp S' a b := ⟨h.os, h.tape, h.output, h.size, fun i hi hn => h.block i hi fun h2 => hn (hs i h2)⟩
theorem of0 (h : Kp Non a b) : Kp S a b := h.mono fun _ h => h.elim
theorem drew (h : Kp S a b) : Kp S a b.drew := ⟨h.os, h.tape, h.output, h.size, h.block⟩
theorem drewN (h : Kp S a b) (n : Nat) : Kp S a (b.drewN n) := ⟨h.os, h.tape, h.output, h.size, h.block⟩
theorem alloc (h : Kp S a b) (o : Obj) : Kp S a (b.alloc o) :=
  h.then0 ⟨rfl, rfl, rfl, by simp, fun k hk _ => Below.heap_alloc _ _ _ hk⟩
theorem setCell (h : Kp S a b) {p : Addr} (hp : S p.block ∨ a.heap.size ≤ p.block) (u : Value) : Kp S a (b.setCell p u) :=
  h.trans (S' := Sole p.block) ⟨rfl, rfl, rfl, by simp [World.setCell], fun k hk hn => Below.heap_setCell _ _ _ _ hn⟩ fun i hi => by cases hi; exact hp
theorem grown {row : Option Nat} (h : Kp S a b) (k : b.grownBy c row) (hr : ∀ i, row = some i → S i ∨ a.heap.size ≤ i) : Kp S a c :=
  h.trans (S' := fun i => row = some i) ⟨k.os, k.tape, k.output, k.size, fun i hi hn => k.block i hi fun e => hn e.symm⟩ hr
theorem of_below (h : Below w.heap.size w w') : Kp Non w w' := ⟨h.os, h.tape, h.output, h.size, fun k hk _ => h.block k hk⟩
theorem below (h : Kp Non w w') : Below w.heap.size w w' := ⟨h.os, h.tape, h.output, h.size, fun k hk => h.block k hk (non_not k)⟩
theorem cell (h : Kp S w w') {p : Addr} {v : Value} (hn : ¬ S p.block) (hc : w.cell? p = some v) : w'.cell? p = some v :=
  (World.cell?_of_block (h.block p.block (World.block_lt_of_cell? w p hc) hn)).trans hc
theorem obj (h : Kp S w w') {k : Nat} {o : Obj} (hn : ¬ S k) (hc : w.heap[k]? = some o) : w'.heap[k]? = some o :=
  (h.block k (Array.getElem?_eq_some_iff.1 hc).1 hn).trans hc
end Kp

theorem ret_bool {a b : Bool} (h : a = b) : Ending.returned (.bool a) = .returned (.bool b) := by rw [h]
theorem ret_int {k : IntKind} {a b : Int} (h : a = b) : Ending.returned (.int k a) = .returned (.int k b) := by rw [h]
theorem ret_str {a b : ByteArray} (h : a = b) : Ending.returned (.string a) = .returned (.string b) := by rw [h]
def i64ok (x : Int) : Prop := -9223372036854775808 ≤ x ∧ x ≤ 9223372036854775807

/-- A slice's cells: n elements of sz cells each. -/
def Reads (w : World) (A : Option Addr) (n sz : Nat) (cs : List Value) : Prop :=
  cs.length = n * sz ∧ n ≤ maxLen ∧ (0 < n * sz → ∃ g o, A = some ⟨g, o, none⟩ ∧ ∀ j v, cs[j]? = some v → w.cell? ⟨g, o + j, none⟩ = some v)

theorem Reads.kp {w w' : World} {A : Option Addr} {n sz : Nat} {cs : List Value} {S : Nat → Prop} (h : Reads w A n sz cs) (k : Kp S w w') (hS : ∀ a, A = some a → ¬ S a.block) : Reads w' A n sz cs :=
  ⟨h.1, h.2.1, fun hp => by
    obtain ⟨g, o, rfl, hc⟩ := h.2.2 hp
    exact ⟨g, o, rfl, fun j v hv => k.cell (p := ⟨g, o + j, none⟩) (hS ⟨g, o, none⟩ rfl) (hc j v hv)⟩⟩
theorem cell_new (w : World) (cs : Array Value) (T j : Nat) (v : Value) (h : cs[j]? = some v) : (w.alloc (.cells cs T)).cell? ⟨w.heap.size, j, none⟩ = some v := by
  have : (w.alloc (.cells cs T)).heap[w.heap.size]? = some (.cells cs T (0, 0)) := heap_alloc_new w _
  unfold World.cell?; rw [this]; simpa using h
theorem cell_new0 (w : World) (cs : Array Value) (T : Nat) {v : Value} (h : cs[0]? = some v) : (w.alloc (.cells cs T)).cell? ⟨w.heap.size, 0, none⟩ = some v := cell_new w cs T 0 v h
theorem blk_cell {w : World} {b T : Nat} {cs : Array Value} (h : w.heap[b]? = some (.cells cs T (0, 0))) (j : Nat) {v : Value} (hv : cs[j]? = some v) : w.cell? ⟨b, j, none⟩ = some v := by
  unfold World.cell?; rw [h]; simpa using hv
theorem blk_free {w : World} {b T : Nat} {cs : Array Value} (h : w.heap[b]? = some (.cells cs T (0, 0))) (j : Nat) : w.frozen? ⟨b, j, none⟩ = false := by
  unfold World.frozen?; rw [h]; simp
theorem blk_set {w : World} {b T : Nat} {cs : Array Value} (h : w.heap[b]? = some (.cells cs T (0, 0))) (j : Nat) (v : Value) : (w.setCell ⟨b, j, none⟩ v).heap[b]? = some (.cells (cs.setIfInBounds j v) T (0, 0)) := by
  simp only [World.setCell, Array.getElem?_modify, h]; simp
theorem blk_new (w : World) (cs : Array Value) (T : Nat) : (w.alloc (.cells cs T)).heap[w.heap.size]? = some (.cells cs T (0, 0)) := heap_alloc_new w _
theorem blk_lt {w : World} {b : Nat} {o : Obj} (h : w.heap[b]? = some o) : b < w.heap.size := (Array.getElem?_eq_some_iff.1 h).1
theorem wrap64_ok (x : Int) : i64ok (wrap64 x) := by unfold i64ok wrap64; omega
theorem reads_new (w : World) (cs : List Value) (T n sz : Nat) (h : cs.length = n * sz) (hm : n ≤ maxLen) : Reads (w.alloc (.cells cs.toArray T)) (some ⟨w.heap.size, 0, none⟩) n sz cs :=
  ⟨h, hm, fun _ => ⟨w.heap.size, 0, rfl, fun j v hv => by
    have : (w.alloc (.cells cs.toArray T)).heap[w.heap.size]? = some (.cells cs.toArray T (0, 0)) := heap_alloc_new w _
    unfold World.cell?; rw [this]; simpa using hv⟩⟩
end Go.Proofs.YtcldaldfonfbgaaGreatDoor
