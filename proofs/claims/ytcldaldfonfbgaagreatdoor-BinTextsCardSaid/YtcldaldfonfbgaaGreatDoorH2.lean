/- The law BinTexts: its row's contract. -/
import Derived.Test.YtcldaldfonfbgaaGreatDoorG1
import Derived.Test.YtcldaldfonfbgaaGreatDoorH1
import Derived.ProofKit
import Derived.SizedLaws
import Derived.OpenShut
import Derived.Carry
set_option linter.unusedVariables false
set_option linter.unusedSimpArgs false
namespace Go.Proofs.YtcldaldfonfbgaaGreatDoor
open Go.ChangeShapes Go.WideShapes Go.ChangeAt Go.RowKit

theorem laidOut_ : laidOutB Tryz.prog = true := by kernel_rfl
theorem own_ : ownKnob Tryz.prog.godebug = none := by kernel_rfl
theorem cells3_ : Tryz.prog.cellsOf 3 = 1 := by kernel_rfl
theorem bytes3_ : Tryz.prog.bytesOf 3 = 8 := by kernel_rfl

theorem wf_i64 {n : Int} (h : (Lit.int .i64 n).wf = true) : i64ok n := by
  have h1 : IntKind.i64.min = -9223372036854775808 := rfl
  have h2 : IntKind.i64.max = 9223372036854775807 := rfl
  simp only [Lit.wf, Bool.and_eq_true, decide_eq_true_eq] at h
  unfold i64ok
  omega
theorem Kp.toBelow {w w' : World} (h : Kp Non w w') : Below w.heap.size w w' := ⟨h.os, h.tape, h.output, h.size, fun k hk => h.block k hk (non_not _)⟩


theorem okWide_slice_lt {P : Program} {w : World} {base : Nat} {t e : TypeId} {a : Addr} {n c : Nat} (ht : P.underlying t = some (.slice e)) (h : Value.okWide P w .any base t (.slice (some a) n c)) : a.block < w.heap.size ∧ a.spot = none := by
  unfold Value.okWide Cell.okWide Cell.ok at h
  simp only [ht] at h
  obtain ⟨_, _, _, hs, row, cells, hsh, _⟩ := h
  refine ⟨?_, hs⟩
  rcases Nat.lt_or_ge a.block w.heap.size with h1 | h1
  · exact h1
  · unfold World.shape? at hsh
    rw [Array.getElem?_eq_none h1] at hsh
    simp at hsh

set_option maxRecDepth 100000 in
theorem list_contract {fid : Nat} {fn : Func} {spec : ChangeSpec} (H : Type) (enc : TypeId × Value → H) (W : World) (base : Nat) (args : Array Value) (ds gs : List (DataW H)) (before : List MemPlace)
    (hpar : fn.params = #[22]) (hrest : fn.resultTypes = #[4]) (hvars : spec.vars = []) (hfn : ∀ (d : DataW H), spec.fn H [d] = { results := [.lit (.bool true)], args := [d] })
    (hval : ∀ (j : Nat) t v, fn.params[j]? = some t → args[j]? = some v → Value.okWide Tryz.prog W .any base t v)
    (hW : DataW.Whole enc Tryz.prog fn.params.toList spec.vars false W args.toList ds gs before)
    (hsz : (DataW.weightsEach Tryz.prog ([22] ++ []) (ds ++ gs)).all (· ≤ reachBytes) = true)
    (walk : ∀ (A : Option Addr) (n c : Nat) (l : List Int), Rd eInt W A n l → (∀ a, A = some a → a.block < W.heap.size) → l.length ≤ 17592186044416 → (∀ x ∈ l, i64ok x) →
      Calls Tryz.prog fid #[.slice A n c] W fun e w' => e = .returned (.bool true) ∧ Kp Non W w') :
    Calls Tryz.prog fid args W fun e W' => ∃ v, e = .returned v ∧ spec.post enc Tryz.prog fn false true false false W args v W' := by
  have hW' := hW
  obtain ⟨p, q, hA0, hV, rfl, hfz, hnd⟩ := hW
  have hA : DataW.TrodAll enc Tryz.prog W 0 (fun _ => true) true fn.params.toList args.toList ds p := hA0
  rw [hpar] at hA hval
  rw [hvars] at hV
  obtain ⟨v0, vs0, d0, ds0, p0, q0, hargs, rfl, rfl, h0, r0⟩ := trodAll_cons hA
  obtain ⟨rfl, rfl, rfl⟩ := trodAll_nil r0
  obtain rfl : args = #[v0] := by cases args; simp_all
  obtain ⟨rfl, rfl⟩ := trodVars_none hV
  obtain ⟨a0, len, cap, rfl⟩ := okWide_slice Tryz.underlying22 (hval 0 22 v0 rfl rfl)
  have h0k := h0
  obtain ⟨fuel, hf⟩ := h0
  clear hA0 hA r0 hV
  simp only [List.append_nil] at hW' hsz
  have hlt : ∀ x ∈ p0, x.block < W.heap.size := fun x hx => by simpa using hW'.lt x hx
  have fin : ∀ (l : List Int), Rd eInt W a0 len l → (∀ a, a0 = some a → a.block < W.heap.size) → l.length ≤ 17592186044416 → (∀ x ∈ l, i64ok x) →
      Calls Tryz.prog fid #[.slice a0 len cap] W fun e W' => ∃ v, e = .returned v ∧ spec.post enc Tryz.prog fn false true false false W #[.slice a0 len cap] v W' := by
    intro l hr hb hl hx
    refine (walk a0 len cap l hr hb hl hx).mono fun e W' ⟨he, hk⟩ => ?_
    subst he
    have hbl := hk.toBelow
    refine ⟨_, rfl, _, _, _, [], p0, [], hW', ?_, ?_, ?_, hbl.frame _, fun h => by cases h⟩
    · rw [hrest, List.append_nil, hfn]
      exact trodAll_mk1 (shut_bool Tryz.underlying4 _)
    · rw [hpar, List.append_nil, hfn]
      exact trodAll_mk1 (Below.trod laidOut_ (by kernel_rfl) (of_decide_eq_true (by kernel_rfl)) h0k hbl hlt)
    · rw [hvars, List.append_nil, hfn]
      rfl
  rcases open_ints Tryz.underlying22 Tryz.underlying3 cells3_ hf with ⟨hcs, hx⟩ | ⟨a, len', cap', zs, hcs, _, hl, hm, hz, hx, hcell, hwz⟩
  · simp [Value.cells] at hcs
    obtain ⟨rfl, rfl, rfl⟩ := hcs
    exact fin [] (Rd.nil _ _ _) (fun _ h => by cases h) (by simp) (by simp)
  · simp [Value.cells] at hcs
    obtain ⟨rfl, rfl, rfl⟩ := hcs
    simp only [Prod.mk.injEq] at hx
    obtain ⟨rfl, rfl⟩ := hx
    simp only [if_true] at hz
    have hreach : len * 8 ≤ 140737488351232 := by
      have := sized_slice hsz (j := 0) (t := 22) (e := 3) rfl rfl Tryz.underlying22
      rw [bytes3_] at this
      simp only [lits, List.length_map, List.length_take, List.length_drop, reachBytes] at this
      omega
    obtain ⟨hbW, hspot⟩ := okWide_slice_lt Tryz.underlying22 (hval 0 22 _ rfl rfl)
    obtain ⟨b, off, spot⟩ := a
    have hspot' : spot = none := hspot
    subst hspot'
    refine fin (zs.take len) ⟨by rw [List.length_take]; omega, flat_len eInt _ |>.trans (by rw [List.length_take]; congr 1; omega), by omega, fun _ => ⟨b, off, rfl, fun j v hj => ?_⟩⟩ (by rintro a ha; injection ha with ha; subst ha; exact hbW) (by rw [List.length_take]; omega) (fun x hx => wf_i64 (hwz x (List.mem_of_mem_take hx)))
    have e : (zs.take len).flatMap eInt.enc = (zs.take len).map (Value.int .i64) := by
      generalize zs.take len = q
      induction q with
      | nil => rfl
      | cons x r ih => simp [eInt] at ih ⊢; exact ih
    rw [e, List.getElem?_map, Option.map_eq_some_iff] at hj
    obtain ⟨z, hz2, rfl⟩ := hj
    have hjl := (List.getElem?_eq_some_iff.1 hz2).1
    rw [List.length_take] at hjl
    rw [List.getElem?_take_of_lt (by omega)] at hz2
    have := hcell j (by omega)
    rw [show (⟨b, off, none⟩ : Addr).add j = ⟨b, off + j, none⟩ by unfold Addr.add; split <;> simp_all, List.getD_eq_getElem?_getD, hz2] at this
    exact this
end Go.Proofs.YtcldaldfonfbgaaGreatDoor
