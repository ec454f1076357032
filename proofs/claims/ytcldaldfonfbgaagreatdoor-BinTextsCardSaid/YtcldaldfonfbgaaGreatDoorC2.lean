/- The library's variables that are read; Itoa, Join, Split, Cut and their like. -/
import Derived.Test.YtcldaldfonfbgaaGreatDoorC1
import Derived.WalkSmall
set_option linter.unusedVariables false
set_option linter.unusedSimpArgs false
namespace Go.Proofs.YtcldaldfonfbgaaGreatDoor
open Go.RowKit

/-- Above all variables that are read. -/
def gl : Nat := [3, 2, 0, 1].foldl max 0 + 1

structure Env (w : World) : Prop where
  pow10 : Lib.TabIs Tryz.prog w "internal/strconv.uint64pow10" .u64 Lib.pow10Tab
  maxLen : ∃ m, w.cell? ⟨2, 0, none⟩ = some (.int .i64 m)
  errS : ∃ ev, w.cell? ⟨0, 0, none⟩ = some ev ∧ (ev = .nilIface ∨ ∃ te pe, ev = .iface te pe)
  errR : ∃ ev, w.cell? ⟨1, 0, none⟩ = some ev ∧ (ev = .nilIface ∨ ∃ te pe, ev = .iface te pe)
  low : gl ≤ w.heap.size

theorem g_pow10 : Tryz.prog.globalNamed "internal/strconv.uint64pow10" = some 3 := by kernel_rfl
theorem Kp.belowN {S : Nat → Prop} {w w' : World} {B : Nat} (h : Kp S w w') (hS : ∀ i, S i → B ≤ i) (hB : B ≤ w.heap.size) : Below B w w' :=
  ⟨h.os, h.tape, h.output, h.size, fun k hk => h.block k (Nat.lt_of_lt_of_le hk hB) fun hs => by have := hS k hs; omega⟩
theorem Env.kp {S : Nat → Prop} {w w' : World} (h : Env w) (k : Kp S w w') (hS : ∀ i, S i → gl ≤ i) : Env w' := by
  have hb := k.belowN hS h.low
  refine ⟨?_, ?_, ?_, ?_, Nat.le_trans h.low k.size⟩
  · exact var?_below hb g_pow10 (by decide) h.pow10
  · obtain ⟨m, hm⟩ := h.maxLen
    exact ⟨m, k.cell (p := ⟨2, 0, none⟩) (fun hs => absurd (hS _ hs) (by decide)) hm⟩
  · obtain ⟨m, hm, hx⟩ := h.errS
    exact ⟨m, k.cell (p := ⟨0, 0, none⟩) (fun hs => absurd (hS _ hs) (by decide)) hm, hx⟩
  · obtain ⟨m, hm, hx⟩ := h.errR
    exact ⟨m, k.cell (p := ⟨1, 0, none⟩) (fun hs => absurd (hS _ hs) (by decide)) hm, hx⟩
theorem Env.kp0 {w w' : World} (h : Env w) (k : Kp Non w w') : Env w' := h.kp k fun _ h => h.elim
theorem Env.alloc {w : World} (h : Env w) (o : Obj) : Env (w.alloc o) := h.kp0 ((Kp.refl _ _).alloc o)

theorem kp_grow (w : World) (k : Nat) (os : Array Obj) : Kp Non w (Go.Sort.grow (w.drewN k) os) := by
  refine ⟨rfl, rfl, rfl, ?_, fun i hi _ => ?_⟩
  · show w.heap.size ≤ (w.heap ++ os).size
    simp
  · show (w.heap ++ os)[i]? = _
    rw [Array.getElem?_append_left hi]
theorem itoa_any (n : Int) (hn : i64ok n) (w : World) (he : Env w) :
    Calls Tryz.prog 94 #[.int .i64 n] w fun e w' => e = .returned (.string ⟨(Lib.itoa n).toArray⟩) ∧ Kp Non w w' :=
  (Tryz.strconv_Itoa n hn.1 hn.2 w he.pow10).mono fun e w' ⟨h, k, os, hw⟩ => ⟨h, by rw [hw]; exact kp_grow w k os⟩
end Go.Proofs.YtcldaldfonfbgaaGreatDoor
